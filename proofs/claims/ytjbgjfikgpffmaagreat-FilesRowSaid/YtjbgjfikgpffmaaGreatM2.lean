import Derived.Test.YtjbgjfikgpffmaaGreatM1
import Derived.Test.YtjbgjfikgpffmaaGreatProg
import Derived.KernelRfl
import Derived.RangeFuncBox
import Derived.RangeFuncLeaves
import Derived.Shelf.Abstract
import Derived.WalkKit
import Derived.OwnWalkIn
import Derived.TacticsInMore
import Derived.LoopNIn
import Derived.LoopIn
import Derived.Maps.AppendAt
import Derived.Shelf.SortM.Plain
import Derived.Shelf.SortM.SortNone
import Derived.Lib.SlKeysI
import Derived.Shelf.SlIter.Nil
import Derived.Sort.Walk0
import Derived.Lib.Bytealg
import Derived.Shelf.Spec.SlicesInsertGrow
import Derived.Shelf.SlMaps.Clone
set_option linter.all false
set_option autoImplicit true
set_option relaxedAutoImplicit true
set_option maxRecDepth 100000
namespace Go.Am
open List
def tys:List TI:=[
⟨false,[],0,[],0,4,[],0⟩,
⟨false,[.fn],0,[],8,0,[],0⟩,
⟨false,[(.int .i64)],0,[],8,0,[],0⟩,
⟨false,[(.int .i64)],0,[],8,0,[],0⟩,
⟨false,[.bool],0,[],1,0,[],0⟩,
⟨false,[(.int .u8)],0,[],1,0,[],0⟩,
⟨false,[(.int .u8)],0,[],1,0,[],0⟩,
⟨true,[(.int .i64),(.int .i64),.bool,(.int .u8)],1,[(0,2),(1,3),(2,4),(3,6)],24,0,[],0⟩,
⟨true,[(.int .i64),(.int .i64),.bool,(.int .u8)],1,[(0,2),(1,3),(2,4),(3,6)],24,0,[],0⟩,
⟨false,[.str],0,[],16,3,[],0⟩,
⟨false,[.str],0,[],16,3,[],0⟩,
⟨false,[.str],0,[],16,3,[],0⟩,
⟨false,[(.int .u64)],0,[],8,0,[],0⟩,
⟨true,[.str,(.int .u64)],0,[(0,9),(1,12)],24,0,[],0⟩,
⟨true,[.str,(.int .u64)],0,[(0,9),(1,12)],24,0,[],0⟩,
⟨false,[.ptr],349,[],8,2,[],0⟩,
⟨false,[.ptr],352,[],8,2,[],0⟩,
⟨false,[.ptr],360,[],8,2,[],0⟩,
⟨true,[.ptr],0,[(0,17)],8,0,[],0⟩,
⟨true,[.ptr],0,[(0,17)],8,0,[],0⟩,
⟨false,[.iface],0,[],16,0,[],0⟩,
⟨false,[(.int .i32)],0,[],4,0,[],0⟩,
⟨false,[(.sl 5)],100,[],24,1,[],0⟩,
⟨true,[(.sl 5)],0,[(0,22)],24,0,[],0⟩,
⟨true,[(.sl 5)],0,[(0,22)],24,0,[],0⟩,
⟨false,[.fn],0,[],8,0,[],0⟩,
⟨false,[(.int .i64)],0,[],8,0,[],0⟩,
⟨false,[],0,[(0,9),(0,26)],0,4,[],0⟩,
⟨false,[.fn],0,[],8,0,[],0⟩,
⟨false,[],0,[(0,9),(0,3)],0,4,[],0⟩,
⟨false,[.fn],0,[],8,0,[],0⟩,
⟨false,[],0,[(0,24),(0,26)],0,4,[],0⟩,
⟨false,[.fn],0,[],8,0,[],0⟩,
⟨false,[.fn],0,[],8,0,[],0⟩,
⟨false,[.fn],0,[],8,0,[],0⟩,
⟨false,[.fn],0,[],8,0,[],0⟩,
⟨false,[(.sl 5)],52,[],24,1,[],0⟩,
⟨false,[],0,[(0,36),(0,3)],0,4,[],0⟩,
⟨false,[.fn],0,[],8,0,[],0⟩,
⟨false,[.fn],0,[],8,0,[],0⟩,
⟨false,[.fn],0,[],8,0,[],0⟩,
⟨false,[.fn],0,[],8,0,[],0⟩,
⟨false,[.fn],0,[],8,0,[],0⟩,
⟨false,[.fn],0,[],8,0,[],0⟩,
⟨false,[.fn],0,[],8,0,[],0⟩,
⟨false,[.fn],0,[],8,0,[],0⟩,
⟨false,[(.sl 1)],9,[],24,1,[],0⟩,
⟨false,[(.sl 1)],3,[],24,1,[],0⟩,
⟨false,[(.int .u64)],0,[],8,0,[],0⟩,
⟨false,[.fn],0,[],8,0,[],0⟩,
⟨false,[(.sl 3)],108,[],24,1,[],0⟩,
⟨true,[.str,(.int .i64),.str,.str,(.sl 3)],0,[(0,9),(1,3),(2,9),(3,9),(4,50)],80,0,[],0⟩,
⟨true,[.str,(.int .i64),.str,.str,(.sl 3)],0,[(0,9),(1,3),(2,9),(3,9),(4,50)],80,0,[],0⟩,
⟨false,[.fn],0,[],8,0,[],0⟩,
⟨false,[.ptr],61,[],8,2,[],0⟩,
⟨false,[],0,[(0,54),(0,4)],0,4,[],0⟩,
⟨false,[.fn],0,[],8,0,[],0⟩,
⟨false,[(.sl 5)],83,[],24,1,[],0⟩,
⟨false,[(.sl 4)],87,[],24,1,[],0⟩,
⟨false,[(.sl 3)],65,[],24,1,[],0⟩,
⟨true,[(.sl 5),(.sl 4),(.sl 3)],0,[(0,57),(1,58),(2,59)],72,0,[],0⟩,
⟨true,[(.sl 5),(.sl 4),(.sl 3)],0,[(0,57),(1,58),(2,59)],72,0,[],0⟩,
⟨true,[(.int .i64),.str],1,[(0,3),(1,9)],24,0,[],0⟩,
⟨true,[(.int .i64),.str],1,[(0,3),(1,9)],24,0,[],0⟩,
⟨true,[(.int .i64),(.int .i64),.str],0,[(0,3),(1,63)],32,0,[],0⟩,
⟨true,[(.int .i64),(.int .i64),.str],0,[(0,3),(1,63)],32,0,[],0⟩,
⟨false,[.fn],0,[],8,0,[],0⟩,
⟨false,[.fn],0,[],8,0,[],0⟩,
⟨false,[.fn],0,[],8,0,[],0⟩,
⟨true,[.str,.str,.str,.str],9,[],64,6,[],4⟩,
⟨true,[.bool,.bool,.bool,.bool],4,[],4,6,[],4⟩,
⟨false,[(.sl 1)],5,[],24,1,[],0⟩,
⟨false,[.fn],0,[],8,0,[],0⟩,
⟨false,[],0,[(0,36),(0,26)],0,4,[],0⟩,
⟨false,[.fn],0,[],8,0,[],0⟩,
⟨false,[.fn],0,[],8,0,[],0⟩,
⟨false,[.fn],0,[],8,0,[],0⟩,
⟨false,[.fn],0,[],8,0,[],0⟩,
⟨false,[.fn],0,[],8,0,[],0⟩,
⟨false,[.fn],0,[],8,0,[],0⟩,
⟨true,[(.int .i64),(.int .i64),.str,.str],1,[(0,3),(1,3),(2,9),(3,9)],48,0,[],0⟩,
⟨true,[(.int .i64),(.int .i64),.str,.str],1,[(0,3),(1,3),(2,9),(3,9)],48,0,[],0⟩,
⟨true,[.str,(.int .i64),(.int .i64),.str,.str],0,[(0,9),(1,81)],64,0,[],0⟩,
⟨true,[.str,(.int .i64),(.int .i64),.str,.str],0,[(0,9),(1,81)],64,0,[],0⟩,
⟨false,[],0,[(0,24),(0,3)],0,4,[],0⟩,
⟨false,[.fn],0,[],8,0,[],0⟩,
⟨true,[(.int .i64),.str,(.int .i64),.bool],1,[(0,3),(1,9),(2,3),(3,4)],40,0,[],0⟩,
⟨true,[(.int .i64),.str,(.int .i64),.bool],1,[(0,3),(1,9),(2,3),(3,4)],40,0,[],0⟩,
⟨false,[.fn],0,[],8,0,[],0⟩,
⟨false,[(.sl 1)],24,[],24,1,[],0⟩,
⟨false,[(.sl 1)],4,[],24,1,[],0⟩,
⟨false,[(.sl 10)],93,[],24,1,[],0⟩,
⟨true,[(.int .i64),.str,.str,.str,.str,.str,(.int .i64),.str,(.int .i64),(.int .i64)],1,[(0,3),(1,9),(2,9),(3,9),(4,9),(5,9),(6,3),(7,9),(8,3),(9,3)],128,0,[],0⟩,
⟨true,[(.int .i64),.str,.str,.str,.str,.str,(.int .i64),.str,(.int .i64),(.int .i64)],1,[(0,3),(1,9),(2,9),(3,9),(4,9),(5,9),(6,3),(7,9),(8,3),(9,3)],128,0,[],0⟩,
⟨false,[.fn],0,[],8,0,[],0⟩,
⟨false,[(.sl 2)],131,[],24,1,[],0⟩,
⟨false,[],0,[(0,95),(0,3)],0,4,[],0⟩,
⟨false,[.fn],0,[],8,0,[],0⟩,
⟨false,[.fn],0,[],8,0,[],0⟩,
⟨true,[.bool,.bool,(.sl 1),(.sl 1),(.sl 1)],0,[(0,4),(1,4),(2,46),(3,46),(4,47)],80,0,[],0⟩,
⟨true,[.bool,.bool,(.sl 1),(.sl 1),(.sl 1)],0,[(0,4),(1,4),(2,46),(3,46),(4,47)],80,0,[],0⟩,
⟨false,[.fn],0,[],8,0,[],0⟩,
⟨false,[],0,[(0,52),(0,26)],0,4,[],0⟩,
⟨false,[.fn],0,[],8,0,[],0⟩,
⟨false,[.fn],0,[],8,0,[],0⟩,
⟨false,[],0,[(0,3),(0,4)],0,4,[],0⟩,
⟨false,[.fn],0,[],8,0,[],0⟩,
⟨true,[.str,.str,.bool],1,[(0,9),(1,9),(2,4)],40,0,[],0⟩,
⟨true,[.str,.str,.bool],1,[(0,9),(1,9),(2,4)],40,0,[],0⟩,
⟨false,[.fn],0,[],8,0,[],0⟩,
⟨false,[.fn],0,[],8,0,[],0⟩,
⟨false,[.fn],0,[],8,0,[],0⟩,
⟨false,[.fn],0,[],8,0,[],0⟩,
⟨false,[.fn],0,[],8,0,[],0⟩,
⟨false,[.fn],0,[],8,0,[],0⟩,
⟨false,[.ptr],139,[],8,2,[],0⟩,
⟨false,[.fn],0,[],8,0,[],0⟩,
⟨false,[.fn],0,[],8,0,[],0⟩,
⟨false,[.fn],0,[],8,0,[],0⟩,
⟨false,[.fn],0,[],8,0,[],0⟩,
⟨false,[.fn],0,[],8,0,[],0⟩,
⟨false,[.fn],0,[],8,0,[],0⟩,
⟨false,[],0,[(0,3),(0,3)],0,4,[],0⟩,
⟨false,[.fn],0,[],8,0,[],0⟩,
⟨false,[.fn],0,[],8,0,[],0⟩,
⟨false,[.fn],0,[],8,0,[],0⟩,
⟨false,[.fn],0,[],8,0,[],0⟩,
⟨false,[.fn],0,[],8,0,[],0⟩,
⟨false,[.fn],0,[],8,0,[],0⟩,
⟨false,[.fn],0,[],8,0,[],0⟩,
⟨true,[.str,.str],1,[(0,9),(1,9)],32,0,[],0⟩,
⟨true,[.str,.str],1,[(0,9),(1,9)],32,0,[],0⟩,
⟨false,[.fn],0,[],8,0,[],0⟩,
⟨false,[],0,[(0,115),(0,4)],0,4,[],0⟩,
⟨false,[.fn],0,[],8,0,[],0⟩,
⟨false,[.map],81,[],8,5,[],9⟩,
⟨false,[.map],146,[],8,5,[],144⟩,
⟨false,[.map],63,[],8,5,[],3⟩,
⟨true,[(.sl 5),.map,.map,.map,(.sl 5)],0,[(0,24),(1,135),(2,136),(3,137),(4,36)],72,0,[],0⟩,
⟨true,[(.sl 5),.map,.map,.map,(.sl 5)],0,[(0,24),(1,135),(2,136),(3,137),(4,36)],72,0,[],0⟩,
⟨false,[.fn],0,[],8,0,[],0⟩,
⟨false,[.fn],0,[],8,0,[],0⟩,
⟨false,[.fn],0,[],8,0,[],0⟩,
⟨true,[(.int .i64),.str],1,[(0,3),(1,9)],24,0,[],0⟩,
⟨true,[(.int .i64),.str],1,[(0,3),(1,9)],24,0,[],0⟩,
⟨true,[(.int .i64),.bool],1,[(0,3),(1,4)],16,0,[],0⟩,
⟨true,[(.int .i64),.bool],1,[(0,3),(1,4)],16,0,[],0⟩,
⟨false,[.fn],0,[],8,0,[],0⟩,
⟨false,[.fn],0,[],8,0,[],0⟩,
⟨false,[.fn],0,[],8,0,[],0⟩,
⟨false,[.fn],0,[],8,0,[],0⟩,
⟨false,[.fn],0,[],8,0,[],0⟩,
⟨false,[.fn],0,[],8,0,[],0⟩,
⟨false,[.fn],0,[],8,0,[],0⟩,
⟨false,[.fn],0,[],8,0,[],0⟩,
⟨false,[.fn],0,[],8,0,[],0⟩,
⟨false,[.fn],0,[],8,0,[],0⟩,
⟨false,[.fn],0,[],8,0,[],0⟩,
⟨false,[.fn],0,[],8,0,[],0⟩,
⟨false,[.fn],0,[],8,0,[],0⟩,
⟨false,[.ptr],52,[],8,2,[],0⟩,
⟨false,[],0,[(0,36),(0,160),(0,26)],0,4,[],0⟩,
⟨false,[.fn],0,[],8,0,[],0⟩,
⟨false,[.fn],0,[],8,0,[],0⟩,
⟨false,[],0,[(0,146),(0,4)],0,4,[],0⟩,
⟨false,[.fn],0,[],8,0,[],0⟩,
⟨false,[.fn],0,[],8,0,[],0⟩,
⟨false,[.fn],0,[],8,0,[],0⟩,
⟨false,[.fn],0,[],8,0,[],0⟩,
⟨false,[.fn],0,[],8,0,[],0⟩,
⟨false,[],0,[(0,9),(0,4)],0,4,[],0⟩,
⟨false,[.fn],0,[],8,0,[],0⟩,
⟨false,[],0,[(0,81),(0,3)],0,4,[],0⟩,
⟨false,[.fn],0,[],8,0,[],0⟩,
⟨false,[],0,[(0,3),(0,9),(0,4)],0,4,[],0⟩,
⟨false,[.fn],0,[],8,0,[],0⟩,
⟨false,[.fn],0,[],8,0,[],0⟩,
⟨false,[],0,[(0,63),(0,3)],0,4,[],0⟩,
⟨false,[.fn],0,[],8,0,[],0⟩,
⟨false,[],0,[(0,95),(0,26)],0,4,[],0⟩,
⟨false,[.fn],0,[],8,0,[],0⟩,
⟨false,[.fn],0,[],8,0,[],0⟩,
⟨false,[.fn],0,[],8,0,[],0⟩,
⟨false,[.fn],0,[],8,0,[],0⟩,
⟨false,[.map],4,[],8,5,[],3⟩,
⟨false,[.fn],0,[],8,0,[],0⟩,
⟨false,[.fn],0,[],8,0,[],0⟩,
⟨false,[],0,[(0,36),(0,3),(0,26)],0,4,[],0⟩,
⟨false,[.fn],0,[],8,0,[],0⟩,
⟨false,[.fn],0,[],8,0,[],0⟩,
⟨false,[.fn],0,[],8,0,[],0⟩,
⟨false,[.fn],0,[],8,0,[],0⟩,
⟨false,[.ptr],230,[],8,2,[],0⟩,
⟨false,[],0,[(0,192),(0,4)],0,4,[],0⟩,
⟨false,[.fn],0,[],8,0,[],0⟩,
⟨false,[.fn],0,[],8,0,[],0⟩,
⟨false,[.fn],0,[],8,0,[],0⟩,
⟨true,[(.sl 5),(.sl 1)],0,[(0,22),(1,46)],48,0,[],0⟩,
⟨true,[(.sl 5),(.sl 1)],0,[(0,22),(1,46)],48,0,[],0⟩,
⟨false,[.fn],0,[],8,0,[],0⟩,
⟨false,[.fn],0,[],8,0,[],0⟩,
⟨false,[.fn],0,[],8,0,[],0⟩,
⟨false,[.fn],0,[],8,0,[],0⟩,
⟨false,[.fn],0,[],8,0,[],0⟩,
⟨false,[(.sl 2)],144,[],24,1,[],0⟩,
⟨false,[.fn],0,[],8,0,[],0⟩,
⟨false,[.map],9,[],8,5,[],9⟩,
⟨false,[.fn],0,[],8,0,[],0⟩,
⟨false,[],0,[(0,24),(0,4),(0,26)],0,4,[],0⟩,
⟨false,[.fn],0,[],8,0,[],0⟩,
⟨false,[.fn],0,[],8,0,[],0⟩,
⟨false,[.fn],0,[],8,0,[],0⟩,
⟨false,[.fn],0,[],8,0,[],0⟩,
⟨false,[.fn],0,[],8,0,[],0⟩,
⟨false,[],0,[(0,63),(0,4)],0,4,[],0⟩,
⟨false,[.fn],0,[],8,0,[],0⟩,
⟨false,[.fn],0,[],8,0,[],0⟩,
⟨false,[.fn],0,[],8,0,[],0⟩,
⟨false,[],0,[(0,81),(0,26)],0,4,[],0⟩,
⟨false,[.fn],0,[],8,0,[],0⟩,
⟨false,[],0,[(0,63),(0,26)],0,4,[],0⟩,
⟨false,[.fn],0,[],8,0,[],0⟩,
⟨false,[.map],3,[],8,5,[],3⟩,
⟨false,[.fn],0,[],8,0,[],0⟩,
⟨false,[.fn],0,[],8,0,[],0⟩,
⟨false,[.fn],0,[],8,0,[],0⟩,
⟨false,[.fn],0,[],8,0,[],0⟩,
⟨false,[.fn],0,[],8,0,[],0⟩,
⟨false,[.fn],0,[],8,0,[],0⟩,
⟨true,[(.sl 1),(.int .i64),(.int .i64),.bool],0,[(0,90),(1,3),(2,3),(3,4)],48,0,[],0⟩,
⟨true,[(.sl 1),(.int .i64),(.int .i64),.bool],0,[(0,90),(1,3),(2,3),(3,4)],48,0,[],0⟩,
⟨false,[.fn],0,[],8,0,[],0⟩,
⟨false,[.fn],0,[],8,0,[],0⟩,
⟨false,[.fn],0,[],8,0,[],0⟩,
⟨false,[.fn],0,[],8,0,[],0⟩,
⟨false,[.fn],0,[],8,0,[],0⟩,
⟨false,[.fn],0,[],8,0,[],0⟩,
⟨false,[.fn],0,[],8,0,[],0⟩,
⟨false,[],0,[(0,9),(0,4),(0,26)],0,4,[],0⟩,
⟨false,[.fn],0,[],8,0,[],0⟩,
⟨false,[.ptr],242,[],8,2,[],0⟩,
⟨true,[(.sl 5)],0,[(0,22)],24,0,[],0⟩,
⟨true,[(.sl 5)],0,[(0,22)],24,0,[],0⟩,
⟨false,[.fn],0,[],8,0,[],0⟩,
⟨false,[.fn],0,[],8,0,[],0⟩,
⟨false,[.fn],0,[],8,0,[],0⟩,
⟨false,[.ptr],24,[],8,2,[],0⟩,
⟨false,[.ptr],250,[],8,2,[],0⟩,
⟨false,[(.sl 1)],3,[],24,1,[],0⟩,
⟨true,[(.sl 5),(.sl 1)],0,[(0,22),(1,248)],48,0,[],0⟩,
⟨true,[(.sl 5),(.sl 1)],0,[(0,22),(1,248)],48,0,[],0⟩,
⟨false,[.fn],0,[],8,0,[],0⟩,
⟨false,[.ptr],248,[],8,2,[("Len",337,false),("Less",338,false),("Pop",340,true),("Push",341,true),("Swap",339,false)],0⟩,
⟨false,[.ptr],257,[],8,2,[],0⟩,
⟨false,[.fn],0,[],8,0,[],0⟩,
⟨false,[.fn],0,[],8,0,[],0⟩,
⟨true,[.str,(.int .i64)],1,[(0,9),(1,3)],24,0,[],0⟩,
⟨true,[.str,(.int .i64)],1,[(0,9),(1,3)],24,0,[],0⟩,
⟨false,[.fn],0,[],8,0,[],0⟩,
⟨false,[.fn],0,[],8,0,[],0⟩,
⟨false,[.fn],0,[],8,0,[],0⟩,
⟨false,[.fn],0,[],8,0,[],0⟩,
⟨false,[.fn],0,[],8,0,[],0⟩,
⟨false,[.fn],0,[],8,0,[],0⟩,
⟨false,[.fn],0,[],8,0,[],0⟩,
⟨false,[.fn],0,[],8,0,[],0⟩,
⟨false,[.fn],0,[],8,0,[],0⟩,
⟨false,[.ptr],100,[],8,2,[],0⟩,
⟨false,[.fn],0,[],8,0,[],0⟩,
⟨false,[.fn],0,[],8,0,[],0⟩,
⟨false,[.fn],0,[],8,0,[],0⟩,
⟨false,[.fn],0,[],8,0,[],0⟩,
⟨false,[.fn],0,[],8,0,[],0⟩,
⟨false,[.fn],0,[],8,0,[],0⟩,
⟨false,[.iface],0,[],16,0,[],0⟩,
⟨false,[.iface],0,[],16,0,[],0⟩,
⟨false,[.fn],0,[],8,0,[],0⟩,
⟨false,[.fn],0,[],8,0,[],0⟩,
⟨false,[.fn],0,[],8,0,[],0⟩,
⟨false,[.fn],0,[],8,0,[],0⟩,
⟨false,[.fn],0,[],8,0,[],0⟩,
⟨false,[.fn],0,[],8,0,[],0⟩,
⟨false,[.fn],0,[],8,0,[],0⟩,
⟨false,[.fn],0,[],8,0,[],0⟩,
⟨false,[],0,[(0,100),(0,26)],0,4,[],0⟩,
⟨false,[.fn],0,[],8,0,[],0⟩,
⟨false,[.fn],0,[],8,0,[],0⟩,
⟨false,[.fn],0,[],8,0,[],0⟩,
⟨false,[],0,[(0,100),(0,9),(0,100)],0,4,[],0⟩,
⟨false,[.fn],0,[],8,0,[],0⟩,
⟨false,[.fn],0,[],8,0,[],0⟩,
⟨false,[(.int .i64)],0,[],8,0,[],0⟩,
⟨false,[],0,[(0,3),(0,291)],0,4,[],0⟩,
⟨false,[.fn],0,[],8,0,[],0⟩,
⟨false,[.fn],0,[],8,0,[],0⟩,
⟨false,[.fn],0,[],8,0,[],0⟩,
⟨false,[.fn],0,[],8,0,[],0⟩,
⟨false,[.fn],0,[],8,0,[],0⟩,
⟨false,[.fn],0,[],8,0,[],0⟩,
⟨false,[(.int .u32)],0,[],4,0,[],0⟩,
⟨false,[.fn],0,[],8,0,[],0⟩,
⟨false,[(.int .u64)],0,[],8,0,[],0⟩,
⟨false,[.ptr],304,[],8,2,[],0⟩,
⟨true,[(.sl 5),(.sl 1),(.int .i64),(.int .i64)],0,[(0,22),(1,90),(2,3),(3,3)],64,0,[],0⟩,
⟨true,[(.sl 5),(.sl 1),(.int .i64),(.int .i64)],0,[(0,22),(1,90),(2,3),(3,3)],64,0,[],0⟩,
⟨false,[.fn],0,[],8,0,[],0⟩,
⟨true,[.str,.str,.bool],1,[(0,9),(1,9),(2,4)],40,0,[],0⟩,
⟨true,[.str,.str,.bool],1,[(0,9),(1,9),(2,4)],40,0,[],0⟩,
⟨false,[.fn],0,[],8,0,[],0⟩,
⟨false,[.fn],0,[],8,0,[],0⟩,
⟨false,[.fn],0,[],8,0,[],0⟩,
⟨false,[.fn],0,[],8,0,[],0⟩,
⟨false,[],0,[(0,100),(0,9),(0,100),(0,26)],0,4,[],0⟩,
⟨false,[.fn],0,[],8,0,[],0⟩,
⟨false,[.fn],0,[],8,0,[],0⟩,
⟨false,[.fn],0,[],8,0,[],0⟩,
⟨false,[.fn],0,[],8,0,[],0⟩,
⟨false,[(.int .u64)],0,[],8,0,[],0⟩,
⟨false,[.fn],0,[],8,0,[],0⟩,
⟨false,[.fn],0,[],8,0,[],0⟩,
⟨false,[.fn],0,[],8,0,[],0⟩,
⟨false,[.ptr],3,[],8,2,[],0⟩,
⟨false,[.fn],0,[],8,0,[],0⟩,
⟨false,[.fn],0,[],8,0,[],0⟩,
⟨false,[.fn],0,[],8,0,[],0⟩,
⟨false,[.ptr],317,[],8,2,[],0⟩,
⟨false,[.fn],0,[],8,0,[],0⟩,
⟨false,[.fn],0,[],8,0,[],0⟩,
⟨false,[.fn],0,[],8,0,[],0⟩,
⟨false,[.fn],0,[],8,0,[],0⟩,
⟨false,[.fn],0,[],8,0,[],0⟩,
⟨false,[.fn],0,[],8,0,[],0⟩,
⟨false,[.fn],0,[],8,0,[],0⟩,
⟨false,[.fn],0,[],8,0,[],0⟩,
⟨false,[.fn],0,[],8,0,[],0⟩,
⟨false,[.fn],0,[],8,0,[],0⟩,
⟨false,[.fn],0,[],8,0,[],0⟩,
⟨false,[.fn],0,[],8,0,[],0⟩,
⟨false,[.fn],0,[],8,0,[],0⟩,
⟨false,[.fn],0,[],8,0,[],0⟩,
⟨false,[.fn],0,[],8,0,[],0⟩,
⟨false,[.fn],0,[],8,0,[],0⟩,
⟨false,[.fn],0,[],8,0,[],0⟩,
⟨false,[.fn],0,[],8,0,[],0⟩,
⟨false,[.fn],0,[],8,0,[],0⟩,
⟨false,[.fn],0,[],8,0,[],0⟩,
⟨false,[.fn],0,[],8,0,[],0⟩,
⟨false,[.fn],0,[],8,0,[],0⟩,
⟨true,[.ptr,.ptr,.ptr,.str],0,[(0,17),(1,17),(2,17),(3,9)],40,0,[],0⟩,
⟨true,[.ptr,.ptr,.ptr,.str],0,[(0,17),(1,17),(2,17),(3,9)],40,0,[],0⟩,
⟨true,[],16,[],0,6,[],0⟩,
⟨true,[],0,[(0,350)],0,0,[],0⟩,
⟨true,[],0,[(0,350)],0,0,[],0⟩,
⟨false,[(.int .u8)],0,[],1,0,[],0⟩,
⟨false,[(.int .u8)],0,[],1,0,[],0⟩,
⟨false,[.fn],0,[],8,0,[],0⟩,
⟨false,[.ptr],5,[],8,2,[],0⟩,
⟨false,[(.int .i32)],0,[],4,0,[],0⟩,
⟨false,[(.int .i32)],0,[],4,0,[],0⟩,
⟨true,[(.int .u64),(.int .u64),(.int .u32),(.int .u8),(.int .u8),(.int .u8),(.int .u8),.fn,.ptr,(.int .i32),(.int .i32)],0,[(0,12),(1,12),(2,299),(3,353),(4,5),(5,5),(6,354),(7,355),(8,356),(9,357),(10,358)],48,0,[],0⟩,
⟨true,[(.int .u64),(.int .u64),(.int .u32),(.int .u8),(.int .u8),(.int .u8),(.int .u8),.fn,.ptr,(.int .i32),(.int .i32)],0,[(0,12),(1,12),(2,299),(3,353),(4,5),(5,5),(6,354),(7,355),(8,356),(9,357),(10,358)],48,0,[],0⟩,
⟨false,[],0,[],8,0,[],0⟩]
theorem l8_:CO_ Go.Proofs.Tryz.prog tys:=⟨JR_ (by kernel_rfl),by kernel_rfl⟩
end Go.Am
namespace Go.Proofs
open List
open Go.RowKit Go.Shelf
attribute [local go_sem] Oper.semAt_some
def Uq.upto(zs:List Int)(k:Nat):List Int:=(List.range k).map λj=>zs[j]?.getD 0
theorem Uq.upto_succ(zs:List Int)(k:Nat):Uq.upto zs (k+1)=Uq.upto zs k++[zs[k]?.getD 0]:=by simp[Uq.upto,range_succ]
theorem Uq.upto_length(zs:List Int)(k:Nat):(Uq.upto zs k).length=k:=by simp[Uq.upto]
theorem Uq.upto_all(zs:List Int):Uq.upto zs zs.length=zs:=by
 apply ext_getElem
 .simp[Uq.upto]
 .intro i h1 h2;simp[Uq.upto,h2]
set_option maxHeartbeats 2000000 in
theorem Uq.values1_in (F:Fence) (n:Nat) (h7:F.fn 303) (hro:F.round=none) (hn:1<=n) (l Bs n₀ b off len cap:Nat) (zs:List Int) (hreach:len*8<=140737488355328) (hb:b<n₀) (J Jx:List Int->World->Prop)
 (hY:∀pre x W,J pre W->pre.length<len->YieldAt F (n-1) Tryz.prog l #[.int .i64 x] W λe W'=>
  (e= .returned (.bool true)/\J (pre++[x]) W'/\Below n₀ W W')\/(e= .returned (.bool false)/\Jx (pre++[x]) W'))
 (W:World) (hBs:W.cell? ⟨Bs,0,none⟩=some (.slice (some ⟨b,off,none⟩) len cap)) (hc:∀j,j<len->W.cell? ⟨b,off+j,none⟩=some (.int .i64 (zs[j]?.getD 0))) (h0:J [] W):
 CallsIn F n Tryz.prog 303 #[.func (.yield l) #[] #[],.pointer (some ⟨Bs,0,none⟩)] W λe W'=>(∃v,e= .returned v)/\
  ((∃ys,ys=Uq.upto zs len/\J ys W')\/(∃pre,(∃k,k<=len/\pre=Uq.upto zs k)/\Jx pre W')):=by
 refine callsIn_of_wp Tryz.func303 rfl h7 ?_ hro;simp only[Tryz.ntmps303,size_toArray,length_cons,length_nil,Nat.reduceAdd,Nat.reduceSub,Array.replicate_succ,Array.replicate_zero,push_toArray,append_toArray,nil_append,cons_append];gi_wp2;gi_loopw [7] (λi wr=>∃k:Nat,k<=len/\i= .int .i64 k/\J (Uq.upto zs k) wr/\Below n₀ W wr)
  (λi _=>len-(intOf i).toNat)
 case atStart=>exact⟨0,Nat.zero_le _,rfl,h0,Below.refl _ _⟩
 case round=>
  obtain⟨k,hk,rfl,hJs,hnx⟩:=hrel;have hcx:k<len->wr.cell? ⟨b,off+k,none⟩=some (.int .i64 (zs[k]?.getD 0)):=λh=>(hnx.cell (p:=⟨b,off+k,none⟩) hb).trans (hc k h);by_cases hlt:k<len
  ·obtain⟨fn,tmps,assign,body,hy,hR⟩:=hY _ (zs[k]?.getD 0) wr hJs (by rw[Uq.upto_length];exact hlt);have hcx':=hcx hlt;gi_wp2;refine hR.mono ?_;rintro e W3 (⟨rfl,hJ3,hk3⟩|⟨rfl,hJx3⟩)
   .gi_wp2;go_roundw
    case rel=>exact⟨k+1,by omega,by simp,by rw[Uq.upto_succ];exact hJ3,hnx.trans hk3⟩
    case measure=>simp[intOf];omega
   .gi_wp2;refine bodyPost_ret (results_none rfl _ _ _) rfl ?_;exact⟨⟨_,rfl⟩,.inr ⟨_,⟨k+1,by omega,(Uq.upto_succ _ _).symm⟩,hJx3⟩⟩
  .obtain rfl:k=len:=by omega
   gi_wp2;go_end0;exact⟨⟨_,rfl⟩,.inl ⟨_,rfl,hJs⟩⟩
set_option maxHeartbeats 1000000 in
theorem Uq.values1_nil_in (F:Fence) (n:Nat) (h7:F.fn 303) (hro:F.round=none) (l Bs:Nat) (J:List Int->World->Prop) (W:World) (p:Option Addr) (cap:Nat) (hBs:W.cell? ⟨Bs,0,none⟩=some (.slice p 0 cap)) (h0:J [] W):
 CallsIn F n Tryz.prog 303 #[.func (.yield l) #[] #[],.pointer (some ⟨Bs,0,none⟩)] W λe W'=>(∃v,e= .returned v)/\J [] W':=by
 refine callsIn_of_wp Tryz.func303 rfl h7 ?_ hro;simp only[Tryz.ntmps303,size_toArray,length_cons,length_nil,Nat.reduceAdd,Nat.reduceSub,Array.replicate_succ,Array.replicate_zero,push_toArray,append_toArray,nil_append,cons_append];gi_wp2;gi_loopw [7] (λi wr=>i= .int .i64 0/\J [] wr) (λ_ _=>0)
 case atStart=>exact⟨rfl,h0⟩
 case round=>
  obtain⟨rfl,hJs⟩:=hrel;gi_wp2;go_end0;exact⟨⟨_,rfl⟩,hJs⟩
def Uq.Ints(n₀:Nat)(W:World)(sv:Value)(zs:List Int):Prop:=
 (∃p cap,sv= .slice p 0 cap/\zs=[])\/∃b off cap,sv= .slice (some ⟨b,off,none⟩) zs.length cap/\b<n₀/\∀j,j<zs.length->W.cell? ⟨b,off+j,none⟩=some (.int .i64 (zs[j]?.getD 0))
theorem Uq.Ints.below{n₀:Nat}{A B:World}(h:Below n₀ A B){sv:Value}{zs:List Int}:Uq.Ints n₀ A sv zs->Uq.Ints n₀ B sv zs
 | .inl e=> .inl e
 | .inr ⟨b,off,cap,e,hb,hc⟩=> .inr ⟨b,off,cap,e,hb,λj hj=>(h.cell (p:=⟨b,off+j,none⟩) hb).trans (hc j hj)⟩
theorem Uq.values_stops (F:Fence) (n:Nat) (h7:F.fn 303) (hro:F.round=none) (hn:1<=n) (Bs n₀:Nat) (sv:Value) (zs:List Int) (hreach:zs.length*8<=140737488355328) (w:World) (hBs:Bs<w.heap.size) (hn₀:n₀<=w.heap.size)
 (hc:w.cell? ⟨Bs,0,none⟩=some sv) (hI:Uq.Ints n₀ w sv zs):
 SeqStopsK F n Tryz.prog 303 #[.pointer (some ⟨Bs,0,none⟩)] (λx:Int=> #[Value.int .i64 x]) (Below n₀) (λys=>ys=zs) (λ_=>True) zs.length w:=λl J Jx W hW _ _ hY h0=>by
 have hc':=(hW.cell (p:=⟨Bs,0,none⟩) hBs).trans hc;rcases hI.below (hW.mono hn₀) with⟨p,cap,rfl,rfl⟩|⟨b,off,cap,rfl,hb,hcs⟩
 .exact (Uq.values1_nil_in F n h7 hro l Bs J W p cap hc' h0).mono λe W' ⟨he,hj⟩=>⟨he,.inl ⟨_,rfl,hj⟩⟩
 .refine (Uq.values1_in F n h7 hro hn l Bs n₀ b off zs.length cap zs hreach hb J Jx hY W hc' hcs h0).mono ?_;rintro e W' ⟨he,⟨ys,rfl,hj⟩|⟨pre,⟨k,hk,rfl⟩,hj⟩⟩
  .exact⟨he,.inl ⟨_,Uq.upto_all zs,hj⟩⟩
  .exact⟨he,.inr ⟨_,trivial,hj⟩⟩
theorem Uq.info3:(Tryz.prog.info? 3).map (λi=>(i.zero,i.size,i.bytes))=some (some (.int .i64 0),1,8):=by kernel_rfl
set_option maxHeartbeats 2000000 in
theorem Uq.appendSeq_in (F:Fence) (n:Nat) (h3:F.fn 304) (h7:F.fn 303) (hro:F.round=none) (hn:3<=n) (Bs:Nat) (sv:Value) (zs:List Int) (hreach:zs.length*8<=140737488355328) (w:World) (hBs:Bs<w.heap.size)
 (hc:w.cell? ⟨Bs,0,none⟩=some sv) (hI:Uq.Ints w.heap.size w sv zs):
 CallsIn F n Tryz.prog 304 #[.slice none 0 0,.func (.func 303) #[] #[.pointer (some ⟨Bs,0,none⟩)]] w λe W'=>∃v,e= .returned v/\
  W'.ownsRow w.heap.size 3 1 v zs.length (zs.map (Value.int .i64))/\(v= .slice none 0 0↔zs=[])/\Below w.heap.size w W':=by
 have h1:1<=n:=by omega
 obtain⟨i0,hi,hz0,hz1,hz2⟩:=info_parts Uq.info3;refine callsIn_of_wp_marks Tryz.func304 rfl h3 ?_ hro;simp only[Tryz.ntmps304,size_toArray,length_cons,length_nil,Nat.reduceAdd,Nat.reduceSub,Array.replicate_succ,Array.replicate_zero,push_toArray,append_toArray,nil_append,cons_append];gi_wp2;have bS:=Boxed.new w 47 (.slice none 0 0);have hB0:Below w.heap.size w (w.alloc (.cells #[.slice none 0 0] 47)):=(Below.refl _ w).alloc (Nat.le_refl _) _;refine wpIn_rangeFunc_ownG hro h1 (gf:=303) (lb:= #[.pointer (some ⟨Bs,0,none⟩)]) rfl h7 (enters_of Tryz.func303 (by kernel_rfl) rfl)
  (Uq.values_stops F (n-1) h7 hro (by omega) Bs w.heap.size _ zs hreach _ (by simp;omega) (by simp) ((hB0.cell (p:=⟨Bs,0,none⟩) hBs).trans hc) (hI.below hB0)) belowK_t (belowK_b (by simp)) (Below.refl _ _) (λ_=>rfl)
  (λpre W=>(∃v,Boxed W w.heap.size 47 v/\W.ownsRow w.heap.size 3 1 v pre.length (pre.map (Value.int .i64))/\(v= .slice none 0 0↔pre=[]))/\Below w.heap.size w W)
  (λ_ _ _=>False)
  (OwnFrom.and (Own.from (holdsRow_own w.heap.size w.heap.size 47 3 1 (λpre:List Int=>pre.length) (λpre=>pre.map (Value.int .i64)) (λpre v=>(v= .slice none 0 0↔pre=[]))) _) (ownFrom_below (Nat.le_refl _) (by simp)))
  (λ_ _ _ _ _ hs _ _=>hs)
  ⟨⟨_,bS,World.ownsRow_nil _ _ _ _,by simp⟩,hB0⟩
  (λx=>{ tmps:= #[.slice none 0 0,.func (.func 303) #[] #[.pointer (some ⟨Bs,0,none⟩)],.pointer (some ⟨w.heap.size,0,none⟩),undef,.slice none 0 0,.int .i64 x,.func (.func 303) #[] #[.pointer (some ⟨Bs,0,none⟩)],.int .i64 x,undef,undef,undef,undef,undef],defers:=[] }) ?assign ?body ?done ?stop
 case assign=>
  intro l x W K hK;gi_wp2;exact hK
 case body=>
  rintro l pre x W ⟨⟨v,hv,hrow,hnil⟩,hB⟩ hlt;have hvc:=hv.cell;have hle:w.heap.size<=w.heap.size:=Nat.le_refl _;have hm:(pre.length+1)*8<=140737488355328:=by omega
  have hm':pre.length+1<=maxLen:=by unfold maxLen;omega
  gi_wp2_with (gi_at_builtin;refine wpListIn_append_own _ rfl _ _ 47 rfl w.heap.size 3 i0 (.int .i64 0) 1 8 Tryz.underlying47 hi hz0 hz1 hz2 rfl (by decide) _ _ _ rfl (hrow.alloc _) ⟨W.heap.size,0,none⟩ 1 1 [.int .i64 x] rfl rfl (cell_one_new _ _ _) (by simp[Value.oneCell']) (by omega) (by omega) (by have:=hB.size;simp;omega) ?_;intro v' w1 hown' hgrow _;obtain⟨g',cap',rfl⟩:=ownsRow_succ hown';obtain⟨hv1,hv2,hr2,hk2,hb2⟩:=hv.appended (by decide) hrow hB.size hle hown' hgrow;have hc1:=hv1.cell;have hf1:=hv1.frozen);exact⟨hk2.from _,hb2,⟨_,hv2,by simpa using hr2,by simp⟩,hB.trans hb2⟩
 case done=>
  rintro D ys W hD rfl ⟨⟨v,hv,hrow,hnil⟩,hB⟩ hK;have hvc:=hv.cell;gi_wp2;refine⟨by simp,.inl ⟨_,_,rfl,run_takeDeferred hK,?_⟩⟩;exact⟨_,results_tmp rfl _ _ _,v,rfl,ownsRow_putObj hrow _ hK rfl,hnil,hB.trans (belowK_b (w:=w) (Nat.le_refl _) W D _ _ (by simp at hD;omega) hK rfl rfl)⟩
 case stop=>
  rintro D c pre W _ _ h _;exact h.elim
end Go.Proofs
namespace Go.Proofs
open List
open Go.Shelf
theorem lF{n:Nat}{f g:Func}(h:Tryz.prog.funcs[n]?=some f)(e:f=g:=by kernel_rfl):Tryz.prog.funcs[n]?=some g:=h.trans (congrArg some e)
open Tryz
def Uq.sortA_ren:Go.Shelf.Ren:=⟨fun|5=>302|8=>232|7=>305|19=>257|20=>258|10=>306|11=>307|12=>308|13=>309|14=>310|15=>311|16=>312|17=>313|18=>314|30=>315|31=>272|32=>273|33=>316|34=>317|35=>318|40=>319|n=>n,fun|23=>47|25=>3|3=>3|32=>48|22=>47|0=>0|44=>299|46=>301|4=>4|36=>292|35=>291|41=>105|5=>5|9=>9|53=>317|57=>321|63=>325|64=>122|n=>n,fun|n=>n⟩
theorem Uq.sortA:Go.Proofs.SlLaysM.n5 Tryz.prog Uq.sortA_ren:=⟨by kernel_rfl,⟨f302.name,by decide,lF func302⟩,⟨f305.name,by decide,lF func305⟩,lF func232,⟨f306.name,by decide,lF func306⟩,⟨f307.name,by decide,lF func307⟩,⟨f308.name,by decide,lF func308⟩,⟨f309.name,by decide,lF func309⟩,⟨f310.name,by decide,lF func310⟩,⟨f311.name,by decide,lF func311⟩,⟨f312.name,by decide,lF func312⟩,⟨f313.name,by decide,lF func313⟩,⟨f314.name,by decide,lF func314⟩,lF func257,lF func258,⟨f315.name,by decide,lF func315⟩,lF func272,lF func273,⟨f316.name,by decide,lF func316⟩,⟨f317.name,by decide,lF func317⟩,⟨f318.name,by decide,lF func318⟩,⟨f319.name,by decide,lF func319⟩,underlying0,isAgg0,sizeOf0,zeroValue0,underlying3,isAgg3,sizeOf3,zeroValue3,underlying4,isAgg4,sizeOf4,zeroValue4,underlying5,isAgg5,sizeOf5,zeroValue5,underlying9,isAgg9,sizeOf9,zeroValue9,underlying47,isAgg47,sizeOf47,zeroValue47,underlying47,isAgg47,sizeOf47,zeroValue47,underlying3,isAgg3,sizeOf3,zeroValue3,underlying48,isAgg48,sizeOf48,zeroValue48,underlying291,isAgg291,sizeOf291,zeroValue291,underlying292,isAgg292,sizeOf292,zeroValue292,underlying105,isAgg105,sizeOf105,zeroValue105,underlying299,isAgg299,sizeOf299,zeroValue299,underlying301,isAgg301,sizeOf301,zeroValue301,underlying317,isAgg317,sizeOf317,zeroValue317,underlying321,isAgg321,sizeOf321,zeroValue321,underlying325,isAgg325,sizeOf325,zeroValue325,underlying122,isAgg122,sizeOf122,zeroValue122⟩
end Go.Proofs
namespace Go.Am
open List
open Go.Proofs Go.RowKit Go.Sort
theorem bP_.stay {φ:List LI} {H:Hp} {w w':World} (h:cQ_ φ H w) (hb:Below w.heap.size w w'):bP_ φ H w φ H w':=
 ⟨prefix_refl _,⟨h.len,λl o hl hv=>by obtain⟨i,hi,hr⟩:=h.obj l o hl hv;exact⟨i,hi,hr.keep (hb.block _ (h.blockLt ⟨l,o,i,hl,hv,hi,rfl⟩)) hb.size⟩,h.apart⟩,
  ⟨hb.os,hb.tape,hb.output,hb.size,λb h1 _=>hb.block b h1⟩,λ_ h=> .inl h,λ_ h=> .inl h⟩
theorem bP_.made {φ:List LI} {H:Hp} {w w':World} (h:cQ_ φ H w) (hb:Below w.heap.size w w') {t:TypeId} {cs:List GV} {g cap:Nat} {cur:Array Value} (hg:w.heap.size<=g)
 (hc:w'.heap[g]?=some (.cells cur t (0,0))) (hs:cur.size=cap) (hle:cs.length<=cap) (his:Is2 φ cs (cur.toList.take cs.length)):
 bP_ φ H w (φ++[⟨g,0,true,cs.length,cap⟩]) (H++[.row true t cs]) w':=
 bP_.snoc h ⟨hb.os,hb.tape,hb.output,hb.size,λb h1 _=>hb.block b h1⟩ (λb q=>hb.block b (h.blockLt q))
  ⟨rfl,rfl,(Array.getElem?_eq_some_iff.1 hc).1,rfl,cur,t,(0,0),hc,λ_=>rfl,hs,(λj _ h2=>by simp at h2),by omega,Is2.mono (prefix_append _ _) his⟩ hg
theorem zO_(φ:List LI):∀zs:List Int,Is2 φ (zs.map (GV.int .i64)) (zs.map (Value.int .i64))
 |[]=> .nil
 |_::zs=> .cons rfl (zO_ φ zs)
theorem zX_ {φ:List LI}:∀{zs:List Int}{xs:List Value},Is2 φ (zs.map (GV.int .i64)) xs->xs=zs.map (Value.int .i64)
 |[],_,h=>by rw[ct_.nil_inv h];rfl
 |z::zs,_,h=>by
  obtain⟨b,bs,rfl,h1,h2⟩:=ct_.cons_inv h;rw[zX_ h2,show b=_ from h1];rfl
theorem ct_.two{α β:Type}{R:α->β->Prop}{a b:α}{vs:List β}(h:ct_ R [a,b] vs):∃x y,vs=[x,y]/\R a x/\R b y:=by
 obtain⟨x,vs,rfl,h1,h⟩:=h.cons_inv;obtain⟨y,vs,rfl,h2,h⟩:=h.cons_inv;rw[h.nil_inv];exact⟨x,y,rfl,h1,h2⟩
theorem ct_.one{α β:Type}{R:α->β->Prop}{a:α}{vs:List β}(h:ct_ R [a] vs):∃x,vs=[x]/\R a x:=by
 obtain⟨x,vs,rfl,h1,h⟩:=h.cons_inv;rw[h.nil_inv];exact⟨x,rfl,h1⟩
def slices_AppendSeq__int_int:Sm:=λxs H Q=>∃l t cs a n zs,xs=[.g (.sl none 0 1),.g (.fn 303 [(l,0)])]/\H[l]?=some (.row true t cs)/\cs[0]?=some (.sl a n 1)/\cells? H a n=some (zs.map (GV.int .i64))/\zs.length*8<=Lim/\
 (zs=[]->Q (.g (.sl none 0 1)) H)/\(zs≠[]->Q (.g (.sl (some (ln H,0)) zs.length 1)) (pu H (.row true 3 (zs.map (GV.int .i64)))))
theorem H6_ {φ:List LI} {H:Hp} {w:World} (h:cQ_ φ H w) {a:Pl} {n:Nat} {zs:List Int} (hz:cells? H a n=some (zs.map (GV.int .i64))) {x:Value} (hx:GV.is φ (.sl a n 1) x):Uq.Ints w.heap.size w x zs:=by
 cases a with
 |none=>
  obtain⟨rfl,rfl⟩:=hx;simp[cells?]at hz;exact .inl ⟨none,0,rfl,hz⟩
 | some p=>
  obtain⟨l,o⟩:=p;obtain⟨i,ad,c,hi,rfl,hq,hnc,hu,_⟩:=hx;obtain⟨i',hi',hlen,xs,his,hcell⟩:=h.cells hz;rw[hi]at hi';cases hi';simp at hlen;subst hlen;have hxs:=zX_ his;subst hxs;cases zs with
  |nil=>exact .inl ⟨_,c,rfl,rfl⟩
  | cons z zs=>
   have hq:=hq.resolve_right (by simp at hnc;omega);subst hq;refine .inr ⟨i.b,i.p+o,c,rfl,?_,λj hj=>?_⟩
   .have:=hcell 0 (.int .i64 z) (by simp);rcases Nat.lt_or_ge i.b w.heap.size with h1|h1
    .exact h1
    .simp[World.cell?,Array.getElem?_eq_none h1]at this
   .exact hcell j _ (by rw[getElem?_map,getElem?_eq_getElem hj];simp)
theorem f2_:c4_ Tryz.prog 304 slices_AppendSeq__int_int:=by
 intro as0 H Q ⟨l,t,cs,a,n,zs,e,hl,h0,hz,hlim,hQ1,hQ2⟩ φ w vs hr ha;subst e;obtain⟨x,y,rfl,hx,hy⟩:=ha.two;obtain⟨_,rfl⟩:=hx;obtain⟨xs,rfl,hc⟩:=hy;obtain⟨p,rfl,i,hi,rfl⟩:=hc.one;obtain⟨i',hi',hrow⟩:=hr.row l true t cs hl;rw[hi]at hi';cases hi';obtain⟨_,hu,hlt,hp,c,t',fz,hb,_,hs,_,hle,his⟩:=hrow;obtain⟨sv,hsv,hvx⟩:=his.get h0;have hcell:w.cell? ⟨i.b,0,none⟩=some sv:=by
  rw[gi_ hb];rw[getElem?_take]at hsv;split at hsv
  .simpa using hsv
  .simp at hsv
 have e0:i.p+0=0:=by omega
 show CC_ Tryz.prog 304 #[.slice none 0 0,.func (.func 303) #[] #[.pointer (some ⟨i.b,i.p+0,none⟩)]] w _;rw[e0];refine .inl ⟨enters_of Tryz.func304 (by kernel_rfl) rfl _ _,?_⟩;refine ((callsIn_wide (n:=3)).1 (Uq.appendSeq_in Fence.wide 3 trivial trivial rfl (by omega) i.b sv zs hlim w hlt hcell (H6_ hr hz hvx))).mono ?_;rintro e w' ⟨v,rfl,⟨_,hown⟩,hnil,hbel⟩;by_cases hze:zs=[]
 .exact⟨_,H,φ,v,hQ1 hze,rfl,⟨rfl,hnil.2 hze⟩,bP_.stay hr hbel⟩
 .rcases hown with⟨rfl,h1⟩|⟨g,cap,cur,rfl,hg,hgb,h1,h2,h3,h4⟩
  .exact (hze (hnil.1 rfl)).elim
  .have B:=bP_.made (cs:=zs.map (GV.int .i64)) hr hbel hg hgb (by simpa using h3) (by simpa using h1) (by rw[length_map,<-Nat.mul_one zs.length,h4];exact zO_ φ zs);refine⟨_,_,_,_,hQ2 hze,rfl,?_,B⟩;refine⟨⟨g,0,true,(zs.map (GV.int .i64)).length,cap⟩,_,cap,?_,rfl,.inl rfl,h1,by simp;omega,λ_=>⟨rfl,by simp,by unfold maxLen at h2;exact h2⟩⟩;show (φ++[_])[ln H]?=_;rw[show ln H=φ.length from hr.len.symm];simp
def slices_Sort__int_int:Sm:=λxs H Q=>(xs=[.g (.sl none 0 1)]/\Q (.tup []) H)\/
 ∃l zs,xs=[.g (.sl (some (l,0)) zs.length 1)]/\zs≠[]/\zs.length*8<=Lim/\H[l]?=some (.row true 3 (zs.map (GV.int .i64)))/\Q (.tup []) (H.set l (.row true 3 ((zs.mergeSort λx y=>decide (x<=y)).map (GV.int .i64))))
theorem hA_:c4_ Tryz.prog 302 slices_Sort__int_int:=by
 intro as0 H Q hS φ w vs hr ha;rcases hS with⟨rfl,hQ⟩|⟨l,zs,rfl,hne,hlim,hl,hQ⟩
 .obtain⟨x,rfl,hx⟩:=ha.one;obtain⟨_,rfl⟩:=hx;refine .inl ⟨enters_of Tryz.func302 (by kernel_rfl) rfl _ _,?_⟩;refine (AnyM.slices_Sort_int_none Uq.sortA none 0 w).mono ?_;rintro e w' ⟨rfl,rfl⟩;exact⟨_,H,φ,_,hQ,rfl,⟨#[],rfl,.nil⟩,bP_.refl hr⟩
 ·obtain⟨x,rfl,hx⟩:=ha.one;obtain⟨i,ad,c,hi,rfl,hq,hnc,hu,ho⟩:=hx;obtain⟨i',hi',hrow⟩:=hr.row l true 3 _ hl;rw[hi]at hi';cases hi';obtain⟨ho',hu',hlt,hp,cur,t',fz,hb,ht',hs,hfz,hle,his⟩:=hrow;have hzl:0<zs.length:=length_pos_iff.2 hne;have hq':ad=⟨i.b,0,none⟩:=by
   rcases hq with h|h
   .rw[h,hp]
   .omega
  subst hq';have hcur:cur.toList.take zs.length=zs.map (Value.int .i64):=by
   have:=zX_ his;rwa [length_map]at this
  have hH:Holds (Value.int .i64) w i.b 0 zs.toArray:=by
   intro j hj;have hj':j<zs.length:=by simpa using hj
   rw[Nat.zero_add];constructor
   .rw[gi_ hb];have h1:(cur.toList.take zs.length)[j]?=(zs.map (Value.int .i64))[j]? :=by rw[hcur]
    rw[getElem?_take_of_lt hj',getElem?_map,getElem?_eq_getElem hj']at h1;simp at h1;rw[h1];simp[hj']
   ·simp only[World.frozen?,hb];simp only[length_map]at hle;by_cases h1:fz.1<=j
    .by_cases h2:j<fz.2
     .have:=hfz j h1 h2;omega
     .simp;omega
    .simp;omega
  refine .inl ⟨enters_of Tryz.func302 (by kernel_rfl) rfl _ _,?_⟩;refine (AnyM.slices_Sort_int Uq.sortA i.b 0 c zs w hH hlt (by unfold Lim at hlim;omega)).mono ?_;rintro e w' ⟨rfl,k,os,rfl⟩;have hlen:(zs.mergeSort λx y=>decide (x<=y)).length=zs.length:=by simp
  refine⟨_,_,φ,_,hQ,rfl,⟨#[],rfl,.nil⟩,?_⟩;have hg:=grownBy_sorted_i (w:=w) (g:=i.b) (n:=k) (os:=os) (zs.mergeSort λx y=>decide (x<=y)).toArray;refine bP_.turn hr hl hi (by simp at hle;omega) ⟨hg.os,hg.tape,hg.output,hg.size,λb h1 h2=>hg.block b h1 (λe=>h2 (by cases e;rfl))⟩ ?_;have hb':=heap_sorted_i (n:=k) (os:=os) (zs.mergeSort λx y=>decide (x<=y)).toArray hb;refine⟨ho',by simp[hu'],(Array.getElem?_eq_some_iff.1 hb').1,hp,_,t',fz,hb',ht',by simp[putCells,hs],hfz,by simp[putCells];simpa using hle,?_⟩;have htk:=take_putCells_i cur (zs.mergeSort λx y=>decide (x<=y)) (by simpa using hle);rw[length_map,htk];exact zO_ φ _
end Go.Am
namespace Go.Am
open List
abbrev tS:Nat:=9
abbrev tI:Nat:=3
abbrev tB:Nat:=4
abbrev tU8:Nat:=5
abbrev tPg:Nat:=100
abbrev KD_:Nat:=22
abbrev tTr:Nat:=24
abbrev tSs:Nat:=46
abbrev tIs:Nat:=47
abbrev KF_:Nat:=71
abbrev tKV:Nat:=131
abbrev Ke_:Nat:=95
abbrev Gu_:Nat:=304
abbrev Ds_:Nat:=230
abbrev Kl_:Nat:=198
abbrev is_:Nat:=250
abbrev KC_:Nat:=248
abbrev xc_:Nat:=257
abbrev sQ_:Nat:=252
abbrev zR_:Nat:=242
abbrev KE_:Nat:=26
abbrev Ko_:Nat:=104
abbrev Kt_:Nat:=49
abbrev Hf_:Nat:=202
abbrev Hz_:Nat:=203
abbrev Hc_:Nat:=290
abbrev Iv_:Nat:=293
abbrev IJ_:Nat:=295
abbrev g5_:Nat:=52
abbrev gl_:Nat:=108
abbrev zp_:Nat:=139
abbrev JP_:Nat:=61
abbrev GC_:Nat:=83
abbrev zD_:Nat:=87
abbrev Id_:Nat:=65
abbrev A1_:Nat:=144
abbrev rI_:Nat:=107
abbrev HD_:Nat:=154
end Go.Am
namespace Go.Proofs
open List
open Go.RowKit Go.Maps Go.Sort Go.Shelf
open Tryz
def Uq.keysN_ren:Go.Shelf.Ren:=⟨fun|7=>162|10=>200|n=>n,fun|23=>206|26=>9|3=>9|28=>212|0=>0|27=>211|33=>104|4=>4|n=>n,fun|n=>n⟩
theorem Uq.keysN:Go.Proofs.SlLaysZ.n7 Tryz.prog Uq.keysN_ren:=⟨by kernel_rfl,⟨f162.name,by decide,lF func162⟩,⟨f200.name,by decide,lF func200⟩,underlying0,isAgg0,sizeOf0,zeroValue0,underlying4,isAgg4,sizeOf4,zeroValue4,underlying206,isAgg206,sizeOf206,zeroValue206,underlying9,isAgg9,sizeOf9,zeroValue9,underlying211,isAgg211,sizeOf211,zeroValue211,underlying212,isAgg212,sizeOf212,zeroValue212,underlying104,isAgg104,sizeOf104,zeroValue104⟩
def Uq.keysS_ren:Go.Shelf.Ren:=⟨fun|7=>176|10=>220|n=>n,fun|23=>135|26=>9|3=>81|28=>212|0=>0|27=>211|33=>104|4=>4|n=>n,fun|n=>n⟩
theorem Uq.keysS:Go.Proofs.SlLaysZ.n7 Tryz.prog Uq.keysS_ren:=⟨by kernel_rfl,⟨f176.name,by decide,lF func176⟩,⟨f220.name,by decide,lF func220⟩,underlying0,isAgg0,sizeOf0,zeroValue0,underlying4,isAgg4,sizeOf4,zeroValue4,underlying135,isAgg135,sizeOf135,zeroValue135,underlying9,isAgg9,sizeOf9,zeroValue9,underlying211,isAgg211,sizeOf211,zeroValue211,underlying212,isAgg212,sizeOf212,zeroValue212,underlying104,isAgg104,sizeOf104,zeroValue104⟩
def Uq.sortedS_ren:Go.Shelf.Ren:=⟨fun|6=>161|8=>198|9=>199|11=>230|13=>232|12=>231|23=>257|24=>258|14=>248|15=>249|16=>250|17=>251|18=>252|19=>253|20=>254|21=>255|22=>256|25=>271|26=>272|27=>273|28=>274|29=>275|30=>276|31=>284|n=>n,fun|26=>9|28=>212|24=>46|0=>0|3=>3|37=>48|48=>299|50=>301|4=>4|40=>292|39=>291|45=>105|5=>5|9=>9|51=>317|55=>321|57=>325|58=>122|33=>104|n=>n,fun|n=>n⟩
theorem Uq.sortedS:Go.Proofs.SlLaysZ.n6 Tryz.prog Uq.sortedS_ren:=⟨by kernel_rfl,⟨f161.name,by decide,lF func161⟩,⟨f198.name,by decide,lF func198⟩,⟨f230.name,by decide,lF func230⟩,underlying0,isAgg0,sizeOf0,zeroValue0,underlying46,isAgg46,sizeOf46,zeroValue46,underlying9,isAgg9,sizeOf9,zeroValue9,underlying212,isAgg212,sizeOf212,zeroValue212,by kernel_rfl⟩
def Uq.sortS_ren:Go.Shelf.Ren:=⟨fun|6=>199|8=>232|9=>231|19=>257|20=>258|21=>248|22=>249|23=>250|24=>251|25=>252|26=>253|27=>254|28=>255|29=>256|36=>271|31=>272|32=>273|37=>274|38=>275|39=>276|41=>284|n=>n,fun|27=>46|29=>9|3=>3|32=>48|26=>46|0=>0|44=>299|46=>301|4=>4|36=>292|35=>291|41=>105|5=>5|9=>9|53=>317|57=>321|63=>325|64=>122|n=>n,fun|n=>n⟩
theorem Uq.sortS:Go.Proofs.SlLaysM.n6 Tryz.prog Uq.sortS_ren:=⟨by kernel_rfl,⟨f199.name,by decide,lF func199⟩,lF func232,⟨f231.name,by decide,lF func231⟩,lF func257,lF func258,⟨f248.name,by decide,lF func248⟩,⟨f249.name,by decide,lF func249⟩,⟨f250.name,by decide,lF func250⟩,⟨f251.name,by decide,lF func251⟩,⟨f252.name,by decide,lF func252⟩,⟨f253.name,by decide,lF func253⟩,⟨f254.name,by decide,lF func254⟩,⟨f255.name,by decide,lF func255⟩,⟨f256.name,by decide,lF func256⟩,lF func272,lF func273,⟨f271.name,by decide,lF func271⟩,⟨f274.name,by decide,lF func274⟩,⟨f275.name,by decide,lF func275⟩,⟨f276.name,by decide,lF func276⟩,⟨f284.name,by decide,lF func284⟩,underlying0,isAgg0,sizeOf0,zeroValue0,underlying3,isAgg3,sizeOf3,zeroValue3,underlying4,isAgg4,sizeOf4,zeroValue4,underlying5,isAgg5,sizeOf5,zeroValue5,underlying9,isAgg9,sizeOf9,zeroValue9,underlying46,isAgg46,sizeOf46,zeroValue46,underlying46,isAgg46,sizeOf46,zeroValue46,underlying9,isAgg9,sizeOf9,zeroValue9,underlying48,isAgg48,sizeOf48,zeroValue48,underlying291,isAgg291,sizeOf291,zeroValue291,underlying292,isAgg292,sizeOf292,zeroValue292,underlying105,isAgg105,sizeOf105,zeroValue105,underlying299,isAgg299,sizeOf299,zeroValue299,underlying301,isAgg301,sizeOf301,zeroValue301,underlying317,isAgg317,sizeOf317,zeroValue317,underlying321,isAgg321,sizeOf321,zeroValue321,underlying325,isAgg325,sizeOf325,zeroValue325,underlying122,isAgg122,sizeOf122,zeroValue122⟩
theorem Uq.sortsS (m:Nat):AnyZ.SortsIn Tryz.prog Uq.sortedS_ren Fence.wide m:=
 ⟨λG D r J W I A F=>callsIn_wide.2 (AnyM.slices_Sort_string Uq.sortS G D r J W I A F),
  λp r W=>callsIn_wide.2 (AnyM.slices_Sort_string_none Uq.sortS p r W)⟩
def Uq.anyR:Value->Option (DataW Unit × List MemPlace):=λ_=>some (.nil,[])
def keysFn(f:Nat):Prop:=f=220\/f=200
set_option maxHeartbeats 1000000 in
theorem Uq.sortedKeys {f:Nat} (hf:keysFn f) (r b nn:Nat) (D0:DataW Unit) (w:World) (hr:r<w.heap.size) (hm:w.cell? ⟨r,0,none⟩=some (.map (some b))) (hown:w.ownsMap Tryz.prog 9 Uq.anyR b nn D0) (hmax:Maps.size D0<=maxLen) (hbytes:Maps.size D0*16<=140737488355328):
 CallsIn Fence.wide 5 Tryz.prog 161 #[.func (.func f) #[] #[.pointer (some ⟨r,0,none⟩)]] w λe w'=>∃(v:Value)(ss:List (List UInt8)),e= .returned v/\ss.Perm (strKeys D0)/\
  w'.ownsRow w.heap.size 9 1 v ss.length ((ss.mergeSort (λx y=>decide (x<=y))).map encStr)/\(v= .slice none 0 0↔ss=[])/\Below w.heap.size w w':=by
 have hseq:SeqGives Fence.wide 2 Tryz.prog f #[.pointer (some ⟨r,0,none⟩)] encStr (λss=>ss.Perm (strKeys D0)) (Maps.size D0) w:=by
  rcases hf with rfl|rfl
  .exact AnyZ.keys_gives (ρ:=Uq.keysS_ren) { Uq.keysS with } Fence.wide _ trivial rfl (by omega) r b nn D0 _ hr hm hown
  .exact AnyZ.keys_gives (ρ:=Uq.keysN_ren) { Uq.keysN with } Fence.wide _ trivial rfl (by omega) r b nn D0 _ hr hm hown
 rcases hf with rfl|rfl
 .exact AnyZ.sorted_in Uq.sortedS Fence.wide 5 trivial trivial trivial trivial rfl (by omega) (Uq.sortsS _) (enters_of Tryz.func199 (by kernel_rfl) rfl) 220 #[.pointer (some ⟨r,0,none⟩)] trivial (enters_of Tryz.func220 (by kernel_rfl) rfl) _ _ hmax hbytes w hseq
 .exact AnyZ.sorted_in Uq.sortedS Fence.wide 5 trivial trivial trivial trivial rfl (by omega) (Uq.sortsS _) (enters_of Tryz.func199 (by kernel_rfl) rfl) 200 #[.pointer (some ⟨r,0,none⟩)] trivial (enters_of Tryz.func200 (by kernel_rfl) rfl) _ _ hmax hbytes w hseq
set_option maxHeartbeats 1000000 in
theorem Uq.sortedKeysNil {f:Nat} (hf:keysFn f) (r:Nat) (w:World) (hr:r<w.heap.size) (hm:w.cell? ⟨r,0,none⟩=some (.map none)):
 CallsIn Fence.wide 5 Tryz.prog 161 #[.func (.func f) #[] #[.pointer (some ⟨r,0,none⟩)]] w λe w'=>∃(v:Value)(ss:List (List UInt8)),e= .returned v/\ss=[]/\
  w'.ownsRow w.heap.size 9 1 v ss.length ((ss.mergeSort (λx y=>decide (x<=y))).map encStr)/\(v= .slice none 0 0↔ss=[])/\Below w.heap.size w w':=by
 have hseq:SeqGives Fence.wide 2 Tryz.prog f #[.pointer (some ⟨r,0,none⟩)] encStr (λss:List (List UInt8)=>ss=[]) 0 w:=by
  rcases hf with rfl|rfl
  .exact AnyZ.keys_gives_nil (ρ:=Uq.keysS_ren) { Uq.keysS with } Fence.wide _ trivial rfl r _ hr hm
  .exact AnyZ.keys_gives_nil (ρ:=Uq.keysN_ren) { Uq.keysN with } Fence.wide _ trivial rfl r _ hr hm
 rcases hf with rfl|rfl
 .exact AnyZ.sorted_in Uq.sortedS Fence.wide 5 trivial trivial trivial trivial rfl (by omega) (Uq.sortsS _) (enters_of Tryz.func199 (by kernel_rfl) rfl) 220 #[.pointer (some ⟨r,0,none⟩)] trivial (enters_of Tryz.func220 (by kernel_rfl) rfl) _ 0 (by decide) (by decide) w hseq
 .exact AnyZ.sorted_in Uq.sortedS Fence.wide 5 trivial trivial trivial trivial rfl (by omega) (Uq.sortsS _) (enters_of Tryz.func199 (by kernel_rfl) rfl) 200 #[.pointer (some ⟨r,0,none⟩)] trivial (enters_of Tryz.func200 (by kernel_rfl) rfl) _ 0 (by decide) (by decide) w hseq
end Go.Proofs
namespace Go.Am
open List
open Go.Proofs Go.RowKit Go.Sort Go.Maps
def kU_:RV->Y_ | .s (.str s)=>s|_=>⟨#[]⟩
structure Jq_(es:List Ent)(c:Nat):Prop where
 keys:∀e∈es,∃s:Y_,e.2.1= .s (.str s)/\s.size<=140737488351232
 born:∀e∈es,e.1<c
 nodB:(es.map (·.1)).Nodup
 nodK:(es.map λe=>kU_ e.2.1).Nodup
 few:es.length<=100000
def slices_Sorted_string:Sm:=λxs H Q=>∃f l t cs m,keysFn f/\xs=[.g (.fn f [(l,0)])]/\H[l]?=some (.row true t cs)/\cs[0]?=some (.map m)/\
 match m with
 |none=>Q (.g (.sl none 0 1)) H
 |some k=>∃es c,H[k]?=some (.map es c)/\Jq_ es c/\∀zs:List Y_,zs.Perm (es.map λe=>kU_ e.2.1)->zs.Pairwise (λa b=>Op.bytesLess b.data.toList a.data.toList=false)->
  (zs=[]->Q (.g (.sl none 0 1)) H)/\(zs≠[]->Q (.g (.sl (some (ln H,0)) zs.length 1)) (pu H (.row true 9 (zs.map GV.str))))
theorem DI_(φ:List LI):∀zs:List Y_,Is2 φ (zs.map GV.str) (zs.map Value.string)
 |[]=> .nil
 |_::zs=> .cons rfl (DI_ φ zs)
theorem yd_ (N:cQ_ φ H w) (r:w'.ownsRow w.heap.size 9 1 v zs.length (zs.map Value.string)) (G:v= .slice none 0 0↔zs=[]) (A:Below w.heap.size w w')
 (O:zs=[]->Q (.g (.sl none 0 1)) H) (I:zs≠[]->Q (.g (.sl (some (ln H,0)) zs.length 1)) (pu H (.row true 9 (zs.map GV.str)))):
 wD_ φ H w Q (.returned v) w':=by
 have⟨_,r⟩:=r;by_cases D:zs=[]
 .exact⟨_,H,φ,v,O D,rfl,⟨rfl,G.2 D⟩,bP_.stay N A⟩
 .rcases r with⟨rfl,U⟩|⟨g,F,W,rfl,Z,J,U,Y,h3,V⟩
  .grind
  .have B:=bP_.made (cs:=zs.map GV.str) N A Z J o_ g_ (by rw[k9,<-Nat.mul_one zs.length,V];exact DI_ φ zs);refine⟨_,_,_,_,I D,rfl,⟨⟨g,0,true,(zs.map GV.str).length,F⟩,_,F,?_,rfl,.inl rfl,U,g_,λ_=>⟨rfl,t_,Y⟩⟩,B⟩;rw[show ln H=φ.length from N.len.symm];simp
theorem Hg_(ss:List (List UInt8)):ss.map encStr=(ss.map λl=>(⟨l.toArray⟩:Y_)).map Value.string:=by
 simp_all
theorem DA_(r:ct_ (gv_ φ) es xs)(A:∀e∈es,∃s:Y_,e.2.1= .s (.str s)/\s.size<=140737488351232):
 ∀x∈xs,∃s:Y_,x.key= .string s/\s.size<=140737488351232:=by
 intro x I;obtain⟨n,N,rfl⟩:=kK I;have F:=r.length;have G:es[n]?=some es[n]:=kG o_;have⟨s,J,D⟩:=A _ (kE (by omega:n<es.length));have:=(z5_ r G (kG N)).2.1;rw[J]at this;exact⟨s,this,D⟩
theorem Ex_:∀{es:List Ent}{xs:List MapEntry},ct_ (gv_ φ) es xs->(∀e∈es,∃s:Y_,e.2.1= .s (.str s)/\s.size<=140737488351232)->
 xs.map (·.key)=es.map (λe=>Value.string (kU_ e.2.1))/\xs.map (·.born)=es.map (·.1)
 |[],xs,r,_=>by rw[r.nil_inv];exact⟨rfl,rfl⟩
 |e::es,xs,r,D=>by
  obtain⟨y,xs,rfl,A,r⟩:=r.cons_inv;have⟨N,G⟩:=Ex_ r λJ I=>D J g_;have⟨s,F,_⟩:=D e t_;have:=A.2.1;rw[F]at this;refine⟨?_,by rw[map_cons,map_cons,G,A.1]⟩;rw[map_cons,map_cons,N,F];show y.key::_=Value.string s::_;rw[this]
theorem fD_:c4_ Tryz.prog 161 slices_Sorted_string:=by
 intro as0 H Q ⟨f,l,t,cs,m,hf,e,hl,h0,hm⟩ φ w vs hr ha;subst e;obtain⟨y,rfl,hy⟩:=ha.one;obtain⟨xs,rfl,hc⟩:=hy;obtain⟨p,rfl,i,hi,rfl⟩:=hc.one;obtain⟨i',hi',hrow⟩:=hr.row l true t cs hl;rw[hi]at hi';cases hi';obtain⟨_,hu,hlt,hp,c,t',fz,hb,_,hs,_,hle,his⟩:=hrow;obtain⟨sv,hsv,hvx⟩:=his.get h0;have hcell:w.cell? ⟨i.b,0,none⟩=some sv:=by
  rw[gi_ hb];rw[getElem?_take]at hsv;split at hsv
  .simpa using hsv
  .simp at hsv
 have e0:i.p+0=0:=by omega
 show CC_ Tryz.prog 161 #[.func (.func f) #[] #[.pointer (some ⟨i.b,i.p+0,none⟩)]] w _;rw[e0];refine .inl ⟨enters_of Tryz.func161 (by kernel_rfl) rfl _ _,?_⟩;cases m with
 |none=>
  cases hvx;refine ((callsIn_wide (n:=5)).1 (Uq.sortedKeysNil hf i.b w hlt hcell)).mono ?_;rintro e w' ⟨v,ss,rfl,rfl,hown,hnil,hbel⟩;exact yd_ (zs:=[]) hr (by simpa using hown) (by simpa using hnil) hbel (λ_=>hm) λh=>(h rfl).elim
 | some k=>
  obtain⟨es,c,hk,sm,hQ⟩:=hm;obtain⟨j,hj,hbm,xs,hblk,hal⟩:=hr.map hk;cases nX_ hj hvx;obtain⟨k1,k2⟩:=Ex_ hal sm.keys;have hlen:es.length=xs.size:=by have:=hal.length;simpa using this
  have hrd:∀x∈xs.toList,∃y,WideElems.rd Tryz.prog 9 Uq.anyR x=some y:=by
   intro x hx;obtain⟨s,hs,hl⟩:=DA_ hal sm.keys x hx;have hl':s.size<=maxLen:=Nat.le_trans hl d_;refine⟨(.string s.data.toList,.nil),?_⟩;have:WideElems.rd Tryz.prog 9 Uq.anyR ⟨x.key,x.val,x.born⟩=_:=WideElems.rd_mk (kl:= .string s.data.toList) (yv:=(.nil,[])) (by rw[hs];simp[keyOf,Tryz.underlying9,mapKey,hl']) rfl;exact this
  have hfit:WideElems.Fit Tryz.prog 9 Uq.anyR xs c:=by
   refine⟨by rw[<-hlen];exact Nat.le_trans sm.few d_,⟨?_,?_,?_⟩,hrd⟩
   .intro x hx;have:x.born∈es.map (·.1):=by rw[<-k2];exact lA.2 ⟨x,hx,rfl⟩
    obtain⟨e,he,q⟩:=lA.1 this;rw[<-q];exact sm.born e he
   .rw[k2];exact sm.nodB
   .rw[k1];have:(es.map λe=>Value.string (kU_ e.2.1))=(es.map λe=>kU_ e.2.1).map Value.string:=by rw[map_map];rfl
    rw[this];exact Pairwise.map _ (λa b h q=>h (by cases q;rfl)) sm.nodK
  let D0:DataW Unit:= .map ((xs.toList.map (WideElems.rg Tryz.prog 9 Uq.anyR)).foldr DataW.insert [])
  have hown0:w.ownsMap Tryz.prog 9 Uq.anyR j.b xs.size D0:=⟨xs,c,hblk,hfit,kO _,rfl⟩;have hsz:Maps.size D0=xs.size:=by
   show ((xs.toList.map (WideElems.rg Tryz.prog 9 Uq.anyR)).foldr DataW.insert []).length=_;rw[(WideShapes.sorted_perm _).length_eq];simp
  have hsz2:Maps.size D0<=100000:=by rw[hsz,<-hlen];exact sm.few
  refine ((callsIn_wide (n:=5)).1 (Uq.sortedKeys hf i.b j.b xs.size D0 w hlt hcell hown0 (Nat.le_trans hsz2 d_) o_)).mono ?_;rintro e w' ⟨v,ss,rfl,hperm,hown,hnil,hbel⟩;have hkeys:((strKeys D0).map λl=>(⟨l.toArray⟩:Y_)).Perm (es.map λe=>kU_ e.2.1):=by
   have h1:(strKeys D0).Perm ((xs.toList.map (WideElems.rg Tryz.prog 9 Uq.anyR)).map λp=>strOf p.1):=(WideShapes.sorted_perm _).map _;refine (h1.map _).trans (Perm.of_eq ?_);rw[map_map,map_map];have:∀x∈xs.toList,(((λl:List UInt8=>(⟨l.toArray⟩:Y_)) ∘ λp:Lit × DataW Unit=>strOf p.1) ∘ WideElems.rg Tryz.prog 9 Uq.anyR) x=(match x.key with | .string s=>s|_=>⟨#[]⟩):=by
    intro x hx;obtain⟨y,hy⟩:=hrd x hx;obtain⟨s,hs,_⟩:=DA_ hal sm.keys x hx;show (⟨(strOf (WideElems.rg Tryz.prog 9 Uq.anyR x).1).toArray⟩:Y_)=_;rw[WideElems.rg_of hy];have hk:=WideElems.rd_key hy;rw[hs]at hk ⊢;simp[keyOf,Tryz.underlying9,mapKey]at hk;rw[<-hk.2];simp[strOf]
   rw[map_congr_left this];have h2:(xs.toList.map λx=>(match x.key with | .string s=>s|_=>⟨#[]⟩:Y_))=(xs.toList.map (·.key)).map (λv=>match v with | .string s=>s|_=>⟨#[]⟩):=by rw[map_map];rfl
   rw[h2,k1,map_map];rfl
  have hp2:((ss.mergeSort λx y=>decide (x<=y)).map λl=>(⟨l.toArray⟩:Y_)).Perm (es.map λe=>kU_ e.2.1):=
   (((mergeSort_perm _ _).trans hperm).map _).trans hkeys
  have hpw:((ss.mergeSort λx y=>decide (x<=y)).map λl=>(⟨l.toArray⟩:Y_)).Pairwise (λa b=>Op.bytesLess b.data.toList a.data.toList=false):=by
   refine Pairwise.map (R:=λx y=>leB x y=true) _ (λa b h=>?_) (pairwise_mergeSort (λa b c h1 h2=>by simp only[leB,decide_eq_true_eq] at*;exact List.le_trans h1 h2) (λa b=>by simp only[leB,Bool.or_eq_true,decide_eq_true_eq];exact List.le_total a b) ss);rw[bytesLess_eq];simpa[leB] using h
  obtain⟨q1,q2⟩:=hQ _ hp2 hpw;have hl2:((ss.mergeSort λx y=>decide (x<=y)).map λl=>(⟨l.toArray⟩:Y_)).length=ss.length:=by simp
  refine yd_ hr (by rw[hl2,<-Hg_];exact hown) (hnil.trans ?_) hbel q1 q2;constructor
  .intro h;rw[h];simp
  .intro h;have:=congrArg length h;rw[hl2]at this;exact eq_nil_of_length_eq_zero this
end Go.Am
namespace Go.Am
open List
open Go.Proofs
def bytealg_abigenruntimecmpstring:Sm:=λxs H Q=>∃a b:Y_,xs=[.g (.str a),.g (.str b)]/\Q (.g (.int .i64 (Lib.compareBytes a.data.toList b.data.toList))) H
theorem eX_:c4_ Tryz.prog 187 bytealg_abigenruntimecmpstring:=by
 intro as0 H Q ⟨a,b,e,hQ⟩ φ w vs hr ha;subst e;obtain⟨x,y,rfl,hx,hy⟩:=ha.two;cases hx;cases hy;refine .inr ⟨.int .i64 (Lib.compareBytes a.data.toList b.data.toList),w,?_,_,H,φ,_,hQ,rfl,rfl,bP_.refl hr⟩;show (callFunc 187 #[.string a,.string b]).run Tryz.prog w=_;rw[run_callFunc_extern Tryz.func187 (by kernel_rfl) (by kernel_rfl) (by kernel_rfl) (e:=Extern.BytealgCompare.compare) (by kernel_rfl),Lib.run_compareString];rfl
end Go.Am
namespace Go.Proofs
open List
open Go.Shelf Go.RowKit Go.Lib
theorem Uq.copy_z(w:World)(N W ty D:TypeId)(i:TypeInfo)(b o A I:Nat)(a:Addr)(r F:Nat)(cs:List Value)
 (O:P.underlying N=some (.slice D)) (hi:P.info? D=some i) (U:cs.length=Nat.min r A*i.size)
 (G:∀j v,cs[j]?=some v->w.cell? (a.add j)=some v) (hc:∀j,j<cs.length->(w.cell? ⟨b,o+j,none⟩).isSome=true) (Z:∀j,j<cs.length->w.frozen? ⟨b,o+j,none⟩=false) (Y:∀v∈cs,v.oneCell'=true):
 (Builtin.copy_ #[N,W] ty #[.slice (some ⟨b,o,none⟩) A I,.slice (some a) r F]).run P w= .ok (goInt (Nat.min r A)) (w.setCells b o cs):=by
 have V:=run_loadCells_list (P:=P) w a cs G;have J:=run_storeCells_cells (P:=P) b o cs 0 w (by omega) (by omega) Y;simp[Builtin.copy_,run_underlying O,Builtin.lenOf,Builtin.firstCells,sizeOf,typeInfo,hi,<-U,V,J]
inductive mH_:Nat->Nat->Nat->Nat->Nat->Nat->Value->Prop
 |f:mH_ 112 108 50 156 3 40 (.agg #[.string ⟨#[]⟩,.string ⟨#[]⟩,.bool false])
 |i:mH_ 138 52 36 182 5 80 (.agg #[.string ⟨#[]⟩,.int .i64 0,.string ⟨#[]⟩,.string ⟨#[]⟩,.slice none 0 0])
 |s:mH_ 236 9 46 261 1 16 (.string ⟨#[]⟩)
 |n:mH_ 237 3 47 263 1 8 (.int .i64 0)
theorem mH_.info(h:mH_ fF tE tZ fO z nB zv):(Tryz.prog.info? tE).map (λi=>(i.zero,i.size,i.bytes))=some (some zv,z,nB):=by cases h<;>kernel_rfl
theorem mH_.bd(h:mH_ fF tE tZ fO z nB zv):(1<=z/\1<=nB/\nB<=80)/\zv.cells.size=z:=by cases h<;>exact⟨by omega,rfl⟩
theorem mH_.und(h:mH_ fF tE tZ fO z nB zv):Tryz.prog.underlying tZ=some (.slice tE):=by cases h<;>kernel_rfl
theorem mH_.ov(h4:mH_ fF tE tZ fO z nB zv){w:World}(vb b o vc lb cb:Nat)(hvb:vb≠b)(tA tB:TypeId)(kA kB:Nat)(hsa:w.shape? vb=some (tA,kA))(hsb:w.shape? b=some (tB,kB))(hkB:kB≠0)(hfa:w.frozen? ⟨vb,0,none⟩=false)(hfe:w.frozen? ⟨vb,kA,none⟩=false):
 (callFunc fO #[.slice (some ⟨vb,0,none⟩) 1 vc,.slice (some ⟨b,o,none⟩) lb cb]).run Tryz.prog w= .ok (.value (.bool false)) w:=by
 obtain⟨i0,hi0,hz0,hz1,hz2'⟩:=info_parts h4.info;have A:=Lib.run_overlaps_apart w tZ 4 tE h4.und z (λw=>by simp[sizeOf,typeInfo,hi0,hz1]) ⟨vb,0,none⟩ ⟨b,o,none⟩ 1 vc lb cb hvb tA tB kA kB hsa hsb hkB hfa hfe;cases h4;rw[run_callFunc_extern Tryz.func156 (by kernel_rfl) (by kernel_rfl) (by kernel_rfl) (e:=Extern.SlicesOverlaps.overlaps #[50,50] #[4]) (by kernel_rfl),A];rfl;rw[run_callFunc_extern Tryz.func182 (by kernel_rfl) (by kernel_rfl) (by kernel_rfl) (e:=Extern.SlicesOverlaps.overlaps #[36,36] #[4]) (by kernel_rfl),A];rfl;rw[run_callFunc_extern Tryz.func261 (by kernel_rfl) (by kernel_rfl) (by kernel_rfl) (e:=Extern.SlicesOverlaps.overlaps #[46,46] #[4]) (by kernel_rfl),A];rfl;rw[run_callFunc_extern Tryz.func263 (by kernel_rfl) (by kernel_rfl) (by kernel_rfl) (e:=Extern.SlicesOverlaps.overlaps #[47,47] #[4]) (by kernel_rfl),A];rfl
set_option maxHeartbeats 4000000 in
theorem Uq.insF_shift (h4:mH_ fF tE tZ fO z nB zv) (b n c i vb vc:Nat) (cs vs:List Value) (w:World) (hi:i<n) (hroom:n+1<=c) (hc63:c<=9223372036854775807) (hvb:vb≠b)
 (hcl:cs.length=n*z) (hvl:vs.length=z)
 (hcs:∀j v,cs[j]?=some v->w.cell? ⟨b,j,none⟩=some v) (hsp:∀j,j<(n+1)*z->(w.cell? ⟨b,j,none⟩).isSome=true) (hfz:∀j,j<(n+1)*z->w.frozen? ⟨b,j,none⟩=false)
 (hvs:∀j v,vs[j]?=some v->w.cell? ⟨vb,j,none⟩=some v) (h1c:∀v∈cs,v.oneCell'=true) (h1v:∀v∈vs,v.oneCell'=true)
 (tA tB:TypeId) (kA kB:Nat) (hsa:w.shape? vb=some (tA,kA)) (hsb:w.shape? b=some (tB,kB)) (hkB:kB≠0) (hfa:w.frozen? ⟨vb,0,none⟩=false) (hfe:w.frozen? ⟨vb,kA,none⟩=false):
 Calls Tryz.prog fF #[.slice (some ⟨b,0,none⟩) n c,.int .i64 i,.slice (some ⟨vb,0,none⟩) 1 vc] w λe w'=>
  e= .returned (.slice (some ⟨b,0,none⟩) (n+1) c)/\w'=(w.drew.setCells b ((i+1)*z) (cs.drop (i*z))).setCells b (i*z) vs:=by
 have hU:=h4.und;obtain⟨i0,hi0,hz0,hz1,hz2'⟩:=info_parts h4.info;have ar0:=Nat.add_mul n 1 z;have ar1:=Nat.add_mul i 1 z;have ar2:=Nat.sub_mul n i z;have ar3:=(Nat.mul_le_mul_right z hi:(i+1)*z<=n*z);have hov:=λo lb cb=>h4.ov vb b o vc lb cb hvb tA tB kA kB hsa hsb hkB hfa hfe;have hz2: ¬ ((i:Int)=(n:Int)):=by omega
 have mixed:Tryz.prog.follows .mixedOrders=true:=by kernel_rfl
 have hdl:(cs.drop (i*z)).length=(n-i)*z:=by rw[length_drop,hcl];omega
 have hw1:IntKind.i64.wrap ((i:Int)+1)=(i:Int)+1:=by rw[IntKind.wrap_i64];omega
 have hb1:(0:Int)<=(i:Int)+1:=by omega
 have hin:i<=n:=by omega
 have htn:((i:Int)+1).toNat=i+1:=by omega
 have hb2: ¬ (c=i+1):=by omega
 have hb3:(i:Int)<=(n:Int)+1:=by omega
 have hb4: ¬ (c=i):=by omega
 have hmn:Nat.min (n+1-i) (n-i)=n-i:=by simp only[Nat.min_def];split<;>omega
 have hcp1:∀ty dc sc,(Builtin.copy_ #[tZ,tZ] ty #[.slice (some ⟨b,(i+1)*z,none⟩) (n-i) dc,.slice (some ⟨b,i*z,none⟩) (n+1-i) sc]).run Tryz.prog w.drew= .ok (goInt (n-i:Nat)) (w.drew.setCells b ((i+1)*z) (cs.drop (i*z))):=λty dc sc=>by
  have h:=Uq.copy_z (P:=Tryz.prog) w.drew tZ tZ ty tE i0 b ((i+1)*z) (n-i) dc ⟨b,i*z,none⟩ (n+1-i) sc (cs.drop (i*z)) hU hi0 (by rw[hdl,hmn,hz1])
   (λj v hj=>by rw[Addr.add_lit];exact hcs (i*z+j) v (by rwa [getElem?_drop]at hj))
   (λj hj=>hsp _ (by omega)) (λj hj=>hfz _ (by omega)) (λv hv=>h1c v (mem_of_mem_drop hv))
  rw[hmn]at h;exact h
 obtain⟨W1,hW1⟩:∃W1,W1=w.drew.setCells b ((i+1)*z) (cs.drop (i*z)):=⟨_,rfl⟩;have hsp1:∀k,k<(n+1)*z->(W1.cell? ⟨b,k,none⟩).isSome=true:=λk hk=>by
  rw[hW1];exact isSome_setCells b (cs.drop (i*z)) ((i+1)*z) w.drew (λj hj=>hsp _ (by omega)) _ (hsp k hk)
 have hmn2:Nat.min 1 (n+1-i)=1:=by simp only[Nat.min_def];split<;>omega
 have hcp2:∀(W:World),(∀x,W.cell? x=W1.cell? x)->(∀x,W.frozen? x=W1.frozen? x)->∀ty dc,(Builtin.copy_ #[tZ,tZ] ty #[.slice (some ⟨b,i*z,none⟩) (n+1-i) dc,.slice (some ⟨vb,0,none⟩) 1 vc]).run Tryz.prog W= .ok (goInt 1) (W.setCells b (i*z) vs):=λW hWc hWf ty dc=>by
  have h:=Uq.copy_z (P:=Tryz.prog) W tZ tZ ty tE i0 b (i*z) (n+1-i) dc ⟨vb,0,none⟩ 1 vc vs hU hi0 (by rw[hvl,hmn2,hz1,Nat.one_mul])
   (λj v hj=>by
    rw[Addr.add_lit,hWc,hW1,World.cell?_setCells_out b _ _ _ _ (λh _=>absurd h hvb),Nat.zero_add];exact hvs j v hj)
   (λj hj=>by rw[hWc];exact hsp1 _ (by omega)) (λj hj=>by rw[hWf,hW1,World.frozen?_setCells];exact hfz _ (by omega)) h1v
  rw[hmn2]at h;exact h
 rw[<-hW1]at hcp1;clear ar0 ar1 ar2 ar3;cases h4
 all_goals
  try simp only[Nat.mul_one] at*
  first|go_enter Tryz.func112,Tryz.ntmps112|go_enter Tryz.func138,Tryz.ntmps138|go_enter Tryz.func236,Tryz.ntmps236|go_enter Tryz.func237,Tryz.ntmps237
  go_wp2_with (simp only[hov])
  go_region_law_o (first|refine step_copy_runI rfl _ _ 50 50 rfl _ _ (by simp[Act.eval,Act.put]) (by simp[Act.eval,Act.put]) (hcp1 _ _ _) ?_|refine step_copy_runI rfl _ _ 36 36 rfl _ _ (by simp[Act.eval,Act.put]) (by simp[Act.eval,Act.put]) (hcp1 _ _ _) ?_|refine step_copy_runI rfl _ _ 46 46 rfl _ _ (by simp[Act.eval,Act.put]) (by simp[Act.eval,Act.put]) (hcp1 _ _ _) ?_|refine step_copy_runI rfl _ _ 47 47 rfl _ _ (by simp[Act.eval,Act.put]) (by simp[Act.eval,Act.put]) (hcp1 _ _ _) ?_)
  go_wp2_with (at_builtin;first|refine wpList_copy_runI _ rfl _ _ 50 50 rfl _ _ rfl rfl (hcp2 _ (λ_=>rfl) (λ_=>rfl) _ _) ?_|refine wpList_copy_runI _ rfl _ _ 36 36 rfl _ _ rfl rfl (hcp2 _ (λ_=>rfl) (λ_=>rfl) _ _) ?_|refine wpList_copy_runI _ rfl _ _ 46 46 rfl _ _ rfl rfl (hcp2 _ (λ_=>rfl) (λ_=>rfl) _ _) ?_|refine wpList_copy_runI _ rfl _ _ 47 47 rfl _ _ rfl rfl (hcp2 _ (λ_=>rfl) (λ_=>rfl) _ _) ?_)
  go_ret
  first|exact⟨rfl,rfl⟩|exact⟨rfl,by rw[hW1]⟩
end Go.Proofs
namespace Go.Proofs
open List
open Go.Shelf Go.RowKit Go.Lib
set_option maxHeartbeats 4000000 in
theorem Uq.insF_grow (h4:mH_ fF tE tZ fO z nB zv) (b n c i vb vc:Nat) (cs vs:List Value) (w:World) (hi:i<n) (hnc:n<=c) (hroom:c<n+1) (hbig:(n+1)*nB<=140737488355328)
 (hcl:cs.length=n*z) (hvl:vs.length=z)
 (hcs:∀j v,cs[j]?=some v->w.cell? ⟨b,j,none⟩=some v)
 (hvs:∀j v,vs[j]?=some v->w.cell? ⟨vb,j,none⟩=some v) (h1c:∀v∈cs,v.oneCell'=true) (h1v:∀v∈vs,v.oneCell'=true):
 Calls Tryz.prog fF #[.slice (some ⟨b,0,none⟩) n c,.int .i64 i,.slice (some ⟨vb,0,none⟩) 1 vc] w λe w'=>
  e= .returned (.slice (some ⟨w.heap.size,0,none⟩) (n+1) (grownCap w (n+1) c tE))/\
  w'=(((w.alloc (.cells ((cs.take (i*z)).toArray++Builtin.zeroCells zv.cells (n+1-i)++Builtin.zeroCells zv.cells (grownCap w (n+1) c tE-(n+1))) tE)).drew.setCells w.heap.size (i*z) vs).drew).setCells w.heap.size ((i+1)*z) (cs.drop (i*z)):=by
 have hU:=h4.und;obtain⟨i0,hi0,hz0,hz1,hz2'⟩:=info_parts h4.info;have ar0:=h4.bd;have ar1:=Nat.sub_mul (n+1) i z;have ar2:=Nat.mul_le_mul_right nB (show n+1-i<=n+1 by omega);have ar3:=Nat.le_mul_of_pos_right (n+1) h4.bd.1.2.1;have ar4:=Nat.le_mul_of_pos_right n h4.bd.1.1;have ar5:=Nat.add_mul n 1 z;have ar6:=Nat.add_mul i 1 z;have ar7:=Nat.sub_mul n i z;have ar8:=(Nat.mul_le_mul_right z hi:(i+1)*z<=n*z);have mixed:Tryz.prog.follows .mixedOrders=true:=by kernel_rfl
 have hz2: ¬ ((i:Int)=(n:Int)):=by omega
 have hz3:(c:Int)<(n:Int)+1:=by omega
 have hbw:b<w.heap.size:=block_lt_of_cell (hcs 0 _ (getElem?_eq_getElem (by omega)));have hvw:vb<w.heap.size:=block_lt_of_cell (hvs 0 _ (getElem?_eq_getElem (by omega)));have hkk:(n:Int)+1-(i:Int)=((n+1-i:Nat):Int):=by omega
 have hik:i+(n+1-i)=n+1:=by omega
 have hold:(Builtin.firstCells i0.size i (.slice (some ⟨b,0,none⟩) i c)).run Tryz.prog w.drew= .ok (cs.take (i*z)).toArray w.drew:=by
  rw[hz1];exact run_firstCells_some w.drew z i ⟨b,0,none⟩ i c (cs.take (i*z)) (by rw[length_take];omega) (λj v hj=>by
   rw[Addr.add_lit,Nat.zero_add];rw[getElem?_take]at hj;split at hj
   .exact hcs j v hj
   .cases hj)
 have hrz:∀ty,(Builtin.append_ #[tZ,3] ty #[.slice (some ⟨b,0,none⟩) i c,.int .i64 ((n:Int)+1-(i:Int))]).run Tryz.prog w=
  .ok (.slice (some ⟨w.heap.size,0,none⟩) (n+1) (grownCap w (n+1) c tE)) (w.drew.alloc (.cells ((cs.take (i*z)).toArray++Builtin.zeroCells zv.cells (n+1-i)++Builtin.zeroCells zv.cells (grownCap w (n+1) c tE-(n+1))) tE)):=λty=>by
  have h:=Lib.run_append_grow_zeros w tZ 3 ty tE i0 _ .i64 .i64 hU Tryz.underlying3 hi0 hz0 (some ⟨b,0,none⟩) i c (cs.take (i*z)) hold (n+1-i) (by omega) (by omega) (by omega) (by omega) (by rw[hz2'];omega) (by rw[hz2',hik];exact growslice_fits hroom hbig);rw[hik]at h;rw[hkk];exact h
 obtain⟨G,hG⟩:∃G,G=grownCap w (n+1) c tE:=⟨_,rfl⟩;obtain⟨ROW,hROW⟩:∃ROW:Array Value,ROW=(cs.take (i*z)).toArray++Builtin.zeroCells zv.cells (n+1-i)++Builtin.zeroCells zv.cells (G-(n+1)):=⟨_,rfl⟩;rw[<-hG]at hrz ⊢;rw[<-hROW]at hrz ⊢;have hRl:(n+1)*z<=ROW.size:=by
  rw[hROW];simp[Builtin.zeroCells,h4.bd.2];omega
 obtain⟨W1,hW1⟩:∃W1,W1=w.drew.alloc (.cells ROW tE):=⟨_,rfl⟩;rw[<-hW1]at hrz;have hN:∀j,j<(n+1)*z->(W1.cell? ⟨w.heap.size,j,none⟩).isSome=true:=λj hj=>by
  rw[hW1,World.cell?_alloc_at (w:=w.drew) ROW _ w.heap.size j rfl,Array.getElem?_eq_getElem (by omega)];rfl
 have hNf:∀j,W1.frozen? ⟨w.heap.size,j,none⟩=false:=λj=>by rw[hW1];exact World.frozen?_alloc_at (w:=w.drew) ROW _ w.heap.size j rfl
 have hOb:∀j v,w.cell? ⟨b,j,none⟩=some v->W1.cell? ⟨b,j,none⟩=some v:=λj v h=>by rw[hW1,World.cell?_alloc_past (w:=w.drew) _ b j hbw];exact h
 have hOv:∀j v,w.cell? ⟨vb,j,none⟩=some v->W1.cell? ⟨vb,j,none⟩=some v:=λj v h=>by rw[hW1,World.cell?_alloc_past (w:=w.drew) _ vb j hvw];exact h
 have hmA:Nat.min 1 (n+1-i)=1:=by simp only[Nat.min_def];split<;>omega
 have hcpA:∀(W:World),(∀x,W.cell? x=W1.cell? x)->(∀x,W.frozen? x=W1.frozen? x)->∀ty dc,(Builtin.copy_ #[tZ,tZ] ty #[.slice (some ⟨w.heap.size,i*z,none⟩) (n+1-i) dc,.slice (some ⟨vb,0,none⟩) 1 vc]).run Tryz.prog W= .ok (goInt 1) (W.setCells w.heap.size (i*z) vs):=λW hWc hWf ty dc=>by
  have h:=Uq.copy_z (P:=Tryz.prog) W tZ tZ ty tE i0 w.heap.size (i*z) (n+1-i) dc ⟨vb,0,none⟩ 1 vc vs hU hi0 (by rw[hvl,hmA,hz1,Nat.one_mul])
   (λj v hj=>by rw[Addr.add_lit,hWc,Nat.zero_add];exact hOv _ v (hvs j v hj))
   (λj hj=>by rw[hWc];exact hN _ (by omega)) (λj hj=>by rw[hWf];exact hNf _) h1v
  rw[hmA]at h;exact h
 have hGn:n+1<=G:=by rw[hG];exact grownCap_ge w _ _ _
 have hG63:G<=9223372036854775807:=by
  have:=grownCap_le_maxLen w (n+1) c tE (by unfold maxLen;omega);rw[<-hG]at this;unfold maxLen at this;omega
 have hGi: ¬ (G=i):=by omega
 have hGim: ¬ (G=i+1):=by omega
 have hci: ¬ (c=i):=by omega
 have hbN:b≠w.heap.size:=by omega
 have hdl:(cs.drop (i*z)).length=(n-i)*z:=by rw[length_drop,hcl];omega
 have hmB:Nat.min (n-i) (n-i)=n-i:=by simp only[Nat.min_def];split<;>omega
 have hcpB:∀(W:World),(∀x,W.cell? x=(W1.setCells w.heap.size (i*z) vs).cell? x)->(∀x,W.frozen? x=(W1.setCells w.heap.size (i*z) vs).frozen? x)->∀ty dc sc,(Builtin.copy_ #[tZ,tZ] ty #[.slice (some ⟨w.heap.size,(i+1)*z,none⟩) (n-i) dc,.slice (some ⟨b,i*z,none⟩) (n-i) sc]).run Tryz.prog W= .ok (goInt (n-i:Nat)) (W.setCells w.heap.size ((i+1)*z) (cs.drop (i*z))):=λW hWc hWf ty dc sc=>by
  have h:=Uq.copy_z (P:=Tryz.prog) W tZ tZ ty tE i0 w.heap.size ((i+1)*z) (n-i) dc ⟨b,i*z,none⟩ (n-i) sc (cs.drop (i*z)) hU hi0 (by rw[hdl,hmB,hz1])
   (λj v hj=>by
    rw[Addr.add_lit,hWc,World.cell?_setCells_out _ _ _ _ _ (λh _=>absurd h hbN)];exact hOb _ v (hcs (i*z+j) v (by rwa [getElem?_drop]at hj)))
   (λj hj=>by rw[hWc];exact isSome_setCells _ vs (i*z) W1 (λt ht=>hN _ (by omega)) _ (hN _ (by omega)))
   (λj hj=>by rw[hWf,World.frozen?_setCells];exact hNf _) (λv hv=>h1c v (mem_of_mem_drop hv))
  rw[hmB]at h;exact h
 subst hW1;have hE1:∀x,((w.alloc (.cells ROW tE)).drew).cell? x=(w.drew.alloc (.cells ROW tE)).cell? x:=λx=>rfl;have hE2:∀x,((w.alloc (.cells ROW tE)).drew).frozen? x=(w.drew.alloc (.cells ROW tE)).frozen? x:=λx=>rfl;have hF1:∀x,(((w.alloc (.cells ROW tE)).drew.setCells w.heap.size (i*z) vs).drew).cell? x=((w.drew.alloc (.cells ROW tE)).setCells w.heap.size (i*z) vs).cell? x:=λx=>rfl;have hF2:∀x,(((w.alloc (.cells ROW tE)).drew.setCells w.heap.size (i*z) vs).drew).frozen? x=((w.drew.alloc (.cells ROW tE)).setCells w.heap.size (i*z) vs).frozen? x:=λx=>rfl;have hw1:IntKind.i64.wrap ((i:Int)+1)=(i:Int)+1:=by rw[IntKind.wrap_i64];omega
 have hb1:(0:Int)<=(i:Int)+1:=by omega
 have hin:i<=n:=by omega
 have htn:((i:Int)+1).toNat=i+1:=by omega
 have hb3:(i:Int)<=(n:Int):=by omega
 have hcpC:=hcpB _ hF1 hF2 3 (G-(i+1)) (c-i);clear hkk hik hold hROW hG hRl;clear ar0 ar1 ar2 ar3 ar4 ar5 ar6 ar7 ar8;cases h4
 all_goals
  try simp only[Nat.mul_one] at*
  first|go_enter Tryz.func112,Tryz.ntmps112|go_enter Tryz.func138,Tryz.ntmps138|go_enter Tryz.func236,Tryz.ntmps236|go_enter Tryz.func237,Tryz.ntmps237
  go_wp2_with (first
   |(at_builtin;refine Lib.wpList_append_run _ rfl _ _ _ _ rfl _ _ rfl rfl _ _ (hrz _) ?_)
   |(at_builtin;first|refine wpList_copy_runI _ rfl _ _ 50 50 rfl _ _ rfl rfl (hcpA _ hE1 hE2 _ _) ?_|refine wpList_copy_runI _ rfl _ _ 36 36 rfl _ _ rfl rfl (hcpA _ hE1 hE2 _ _) ?_|refine wpList_copy_runI _ rfl _ _ 46 46 rfl _ _ rfl rfl (hcpA _ hE1 hE2 _ _) ?_|refine wpList_copy_runI _ rfl _ _ 47 47 rfl _ _ rfl rfl (hcpA _ hE1 hE2 _ _) ?_)
   |(at_builtin;first|refine wpList_copy_runI _ rfl _ _ 50 50 rfl _ _ rfl rfl (hcpB _ (λ_=>rfl) (λ_=>rfl) _ _ _) ?_|refine wpList_copy_runI _ rfl _ _ 36 36 rfl _ _ rfl rfl (hcpB _ (λ_=>rfl) (λ_=>rfl) _ _ _) ?_|refine wpList_copy_runI _ rfl _ _ 46 46 rfl _ _ rfl rfl (hcpB _ (λ_=>rfl) (λ_=>rfl) _ _ _) ?_|refine wpList_copy_runI _ rfl _ _ 47 47 rfl _ _ rfl rfl (hcpB _ (λ_=>rfl) (λ_=>rfl) _ _ _) ?_))
  go_region_law_o (first|refine step_copy_runI rfl _ _ 50 50 rfl _ _ (by simp[Act.eval,Act.put]) (by simp[Act.eval,Act.put]) hcpC ?_|refine step_copy_runI rfl _ _ 36 36 rfl _ _ (by simp[Act.eval,Act.put]) (by simp[Act.eval,Act.put]) hcpC ?_|refine step_copy_runI rfl _ _ 46 46 rfl _ _ (by simp[Act.eval,Act.put]) (by simp[Act.eval,Act.put]) hcpC ?_|refine step_copy_runI rfl _ _ 47 47 rfl _ _ (by simp[Act.eval,Act.put]) (by simp[Act.eval,Act.put]) hcpC ?_)
  go_wp2
  go_ret
  exact⟨rfl,rfl⟩
end Go.Proofs
namespace Go.Proofs
open List
open Go.Shelf Go.RowKit Go.Lib
theorem Uq.srcF {z:Nat} (w:World) (F I:Nat) (vs:List Value) (A:vs.length=z) (D:∀j v,vs[j]?=some v->w.cell? ⟨F,j,none⟩=some v):Go.Am.Src Tryz.prog w z (.slice (some ⟨F,0,none⟩) 1 I) 1 vs:=by
 refine⟨λG=>by simp[Builtin.lenOf],λG N=>?_⟩;have O:=run_loadCells_list (P:=Tryz.prog) G ⟨F,0,none⟩ vs (λj v J=>by
  rw[Addr.add_lit,Nat.zero_add];have:=D j v J;unfold World.cell?;rw[N];exact this)
 rw[A]at O;simpa[Builtin.firstCells] using O
set_option maxHeartbeats 4000000 in
theorem Uq.insF_end_room (h4:mH_ fF tE tZ fO z nB zv) (b n c vb vc:Nat) (vs:List Value) (w:World) (hroom:n+1<=c) (hc63:c<=9223372036854775807) (hvl:vs.length=z)
 (hsp:∀j,j<z->(w.cell? ⟨b,n*z+j,none⟩).isSome=true) (hfz:∀j,j<z->w.frozen? ⟨b,n*z+j,none⟩=false)
 (hvs:∀j v,vs[j]?=some v->w.cell? ⟨vb,j,none⟩=some v) (h1v:∀v∈vs,v.oneCell'=true):
 Calls Tryz.prog fF #[.slice (some ⟨b,0,none⟩) n c,.int .i64 n,.slice (some ⟨vb,0,none⟩) 1 vc] w λe w'=>
  e= .returned (.slice (some ⟨b,0,none⟩) (n+1) c)/\w'=w.setCells b (n*z) vs:=by
 have hU:=h4.und;obtain⟨i0,hi0,hz0,hz1,hz2'⟩:=info_parts h4.info;have ar0:=Nat.add_mul n 1 z;have mixed:Tryz.prog.follows .mixedOrders=true:=by kernel_rfl
 have hst:=run_storeCells_cells (P:=Tryz.prog) b (n*z) vs 0 w (by rw[hvl];simpa using hsp) (by rw[hvl];simpa using hfz) h1v;have hrun:∀ty,(Builtin.append_ #[tZ,tZ] ty #[.slice (some ⟨b,0,none⟩) n c,.slice (some ⟨vb,0,none⟩) 1 vc]).run Tryz.prog w= .ok (.slice (some ⟨b,0,none⟩) (n+1) c) (w.setCells b (n*z) vs):=λty=>by
  have h:=Go.Am.run_append_in (P:=Tryz.prog) (ty:=ty) (w:=w) hU hU (.inl ⟨_,rfl⟩) hi0 hz0 (b:=⟨b,0,none⟩) (n:=n) (c:=c) (by rw[hz1];exact Uq.srcF w vb vc vs hvl hvs) hroom;rw[h,hz1,Addr.add_lit,Nat.zero_add,hst];simp
 clear ar0;cases h4
 all_goals
  try simp only[Nat.mul_one] at*
  first|go_enter Tryz.func112,Tryz.ntmps112|go_enter Tryz.func138,Tryz.ntmps138|go_enter Tryz.func236,Tryz.ntmps236|go_enter Tryz.func237,Tryz.ntmps237
  go_wp2_with (at_builtin;refine Lib.wpList_append_run _ rfl _ _ _ _ rfl _ _ rfl rfl _ _ (hrun _) ?_)
  go_ret
  exact⟨rfl,rfl⟩
set_option maxHeartbeats 4000000 in
theorem Uq.insF_end_grow (h4:mH_ fF tE tZ fO z nB zv) (base:Option Addr) (n c vb vc:Nat) (cs vs:List Value) (w:World) (hnc:n<=c) (hroom:c<n+1) (hbig:(n+1)*nB<=140737488355328)
 (hcl:cs.length=n*z) (hvl:vs.length=z) (hnil:base=none->n=0)
 (hcs:∀a,base=some a->∀j v,cs[j]?=some v->w.cell? (a.add j)=some v)
 (hvs:∀j v,vs[j]?=some v->w.cell? ⟨vb,j,none⟩=some v):
 Calls Tryz.prog fF #[.slice base n c,.int .i64 n,.slice (some ⟨vb,0,none⟩) 1 vc] w λe w'=>
  e= .returned (.slice (some ⟨w.heap.size,0,none⟩) (n+1) (grownCap w (n+1) c tE))/\
  w'=w.drew.alloc (.cells ((cs++vs).toArray++Builtin.zeroCells zv.cells (grownCap w (n+1) c tE-(n+1))) tE):=by
 have hU:=h4.und;obtain⟨i0,hi0,hz0,hz1,hz2'⟩:=info_parts h4.info;have ar0:=h4.bd;have ar1:=Nat.add_mul n 1 z;have ar2:=Nat.le_mul_of_pos_right (n+1) h4.bd.1.2.1;have mixed:Tryz.prog.follows .mixedOrders=true:=by kernel_rfl
 have hold:(Builtin.firstCells i0.size n (.slice base n c)).run Tryz.prog w.drew= .ok cs.toArray w.drew:=by
  rw[hz1];cases base with
  |none=>
   have h0:=hnil rfl;subst h0;have hc0:cs=[]:=length_eq_zero_iff.1 (by simpa using hcl);rw[hc0];exact run_firstCells_none w.drew z 0 0 c
  |some a=>exact run_firstCells_some w.drew z n a n c cs (by omega) (λj v hj=>hcs a rfl j v hj)
 have hrun:∀ty,(Builtin.append_ #[tZ,tZ] ty #[.slice base n c,.slice (some ⟨vb,0,none⟩) 1 vc]).run Tryz.prog w= .ok (.slice (some ⟨w.heap.size,0,none⟩) (n+1) (grownCap w (n+1) c tE))
  (w.drew.alloc (.cells ((cs++vs).toArray++Builtin.zeroCells zv.cells (grownCap w (n+1) c tE-(n+1))) tE)):=λty=>by
  have h:=Go.Am.run_append_up (P:=Tryz.prog) (ty:=ty) (w:=w) hU hU (.inl ⟨_,rfl⟩) hi0 hz0 (base:=base) (n:=n) (c:=c) (by rw[hz1];exact Uq.srcF w vb vc vs hvl hvs) hold hroom (by omega) (by rw[hz2'];exact growslice_fits hroom hbig);rw[h];congr 3;simp
 clear ar0 ar1 ar2;cases h4
 all_goals
  try simp only[Nat.mul_one] at*
  first|go_enter Tryz.func112,Tryz.ntmps112|go_enter Tryz.func138,Tryz.ntmps138|go_enter Tryz.func236,Tryz.ntmps236|go_enter Tryz.func237,Tryz.ntmps237
  cases base with
  |none=>
   have h0:=hnil rfl
   subst h0
   go_wp2_with (at_builtin;refine Lib.wpList_append_run _ rfl _ _ _ _ rfl _ _ rfl rfl _ _ (hrun _) ?_)
   go_ret
   exact⟨rfl,rfl⟩
  |some a=>
   obtain⟨ab,ao,asp⟩:=a
   go_wp2_with (at_builtin;refine Lib.wpList_append_run _ rfl _ _ _ _ rfl _ _ rfl rfl _ _ (hrun _) ?_)
   all_goals (go_ret;exact⟨rfl,rfl⟩)
end Go.Proofs
namespace Go.Am
open List
open Go.Proofs Go.RowKit
theorem ct_.three{a b c:α}{vs:List β}(h:ct_ R [a,b,c] vs):∃x y z,vs=[x,y,z]/\R a x/\R b y/\R c z:=by
 obtain⟨x,vs,rfl,D,h⟩:=h.cons_inv;obtain⟨y,vs,rfl,A,h⟩:=h.cons_inv;obtain⟨z,vs,rfl,r,h⟩:=h.cons_inv;rw[h.nil_inv];grind
def Bm_ (tE z nB:Nat):Sm:=λxs H Q=>∃a n i lv vs,xs=[.g (.sl a n z),.g (.int .i64 ((i:Nat):Int)),.g (.sl (some (lv,0)) 1 z)]/\i<=n/\(n+1)*nB<=Lim/\H[lv]?=some (.row false mC_ vs)/\vs.length=z/\
 ((a=none/\n=0/\Q (.g (.sl (some (ln H,0)) 1 z)) (pu H (.row true tE vs)))\/
  ∃l zs,a=some (l,0)/\H[l]?=some (.row true tE zs)/\zs.length=n*z/\Q (.g (.sl (some (ln H,0)) (n+1) z)) (pu (H.set l .dead) (.row true tE (zs.take (i*z)++(vs++zs.drop (i*z))))))
def slices_Insert__api_File_api_File:Sm:=Bm_ 108 3 40
def slices_Insert__string_string:Sm:=Bm_ 9 1 16
def slices_Insert__int_int:Sm:=Bm_ 3 1 8
theorem EZ_(h:mH_ fF tE tZ fO z nB zv)(vs:Array Value)(w:World):(callFunc fF vs).run Tryz.prog w= .ok (.enter fF vs) w:=by
 cases h;exact enters_of Tryz.func112 (by kernel_rfl) rfl _ _;exact enters_of Tryz.func138 (by kernel_rfl) rfl _ _;exact enters_of Tryz.func236 (by kernel_rfl) rfl _ _;exact enters_of Tryz.func237 (by kernel_rfl) rfl _ _
theorem gK_ (b:Nat) (t:TypeId) (D:Nat × Nat):∀(vs:List Value)(o:Nat)(c:Array Value)(w:World),w.heap[b]?=some (.cells c t D)->o+vs.length<=c.size->
 ∃c',dV_ (λI=>I=b) w (w.setCells b o vs)/\(w.setCells b o vs).heap[b]?=some (.cells c' t D)/\c'.toList=c.toList.take o++vs++c.toList.drop (o+vs.length)
 |[],o,c,w,A,_=>⟨c,dV_.refl _ _,A,t_⟩
 |v::vs,o,c,w,A,J=>by
  have⟨c',F,r,G⟩:=gK_ b t D vs (o+1) (c.setIfInBounds o v) (w.setCell ⟨b,o,none⟩ v) (i2_ A) g_;refine⟨c',(kY_ w b o v).trans F λb h=> .inl h,r,?_⟩;have:=jb_ c.toList o v vs g_;grind
set_option maxHeartbeats 2000000 in
theorem CL_ (h4:mH_ fF tE tZ fO z nB zv):c4_ Tryz.prog fF (Bm_ tE z nB):=by
 have ar:=h4.bd;have zF_size:∀k,(Builtin.zeroCells zv.cells k).size=k*z:=λk=>by simp[Builtin.zeroCells,ar.2]
 intro as0 H Q ⟨a,n,i,lv,vs,e,hi,hlim,hlv,hvl,hcase⟩ φ w us hr ha;subst e;obtain⟨x,y,z,rfl,hx,hy,hz'⟩:=ha.three;subst hy;obtain⟨iv,ad,cv,hiv,rfl,hqv,hncv,huv,_⟩:=hz';obtain⟨iv',hiv',r1,r2,r3,r4,r5⟩:=hr.row lv false mC_ vs hlv;rw[hiv]at hiv';cases hiv';obtain⟨hp,cv0,ev,hbv⟩:=r5 rfl;obtain⟨iv',hiv',_,xv,hxis,hxc⟩:=hr.cells (l:=lv) (o:=0) (n:=z) (cs:=vs) (by simp only[cells?,hlv];rw[if_pos o_,drop_zero,k7 o_]);rw[hiv]at hiv';cases hiv';have hqv:=hqv.resolve_right o_;rw[hp]at hqv hxc;subst hqv;have hxl:xv.length=z:=by rw[<-hxis.length,hvl]
 have hvs:∀j u,xv[j]?=some u->w.cell? ⟨iv.b,j,none⟩=some u:=λj u hj=>by have:=hxc j u hj;simpa using this
 have h1v:=hxis.one;have hlim':(n+1)*nB<=140737488355328:=hlim;have hgc:∀c,n+1<=grownCap w (n+1) c tE:=λc=>grownCap_ge w (n+1) c tE;have a8:=Nat.le_mul_of_pos_right (n+1) ar.1.2.1;have hgm:∀c,grownCap w (n+1) c tE<=9223372036854775807:=λc=>grownCap_le_maxLen w (n+1) c tE (by unfold maxLen;omega);refine .inl ⟨EZ_ h4 _ _,?_⟩;have a1:=Nat.add_mul n 1 z;have a2:=Nat.add_mul i 1 z;have a3:=Nat.sub_mul n i z;have a4:=Nat.mul_le_mul_right z hi;have a5:=Nat.le_mul_of_pos_right n ar.1.1;have a6:=λc=>Nat.mul_le_mul_right z (hgc c);have a9:=Nat.sub_mul (n+1) i z;have b1:=λc=>Nat.sub_mul (grownCap w (n+1) c tE) (n+1) z;rcases hcase with⟨rfl,rfl,hQ⟩|⟨l,zs,rfl,hl,hzl,hQ⟩
 ·obtain⟨_,rfl⟩:=hx;have hi0:i=0:=by omega
  subst hi0;refine (Uq.insF_end_grow h4 none 0 0 iv.b cv [] xv w o_ o_ hlim' (Nat.zero_mul z).symm hxl (λ_=>rfl) (by intro a h;cases h) hvs).mono ?_;rintro e w' ⟨rfl,rfl⟩;have B:=(bP_.drew hr).trans (bP_.new (bP_.drew hr).rep tE vs (([]++xv).toArray++Builtin.zeroCells zv.cells (grownCap w (0+1) 0 tE-(0+1))) (0,0) s_ (by
   have e:(([]++xv).toArray++Builtin.zeroCells zv.cells (grownCap w (0+1) 0 tE-(0+1))).toList.take vs.length=xv:=by
    rw[Array.toList_append];exact take_left' (by simp[hxl,hvl])
   rw[e];exact hxis) λj _ h=>by simp at h)
  refine⟨_,_,_,_,hQ,rfl,?_,B⟩;refine⟨_,_,_,by simp only[ln,<-hr.len];exact getElem?_concat_length,rfl,.inl rfl,hgc 0,?_,λ_=>⟨rfl,?_,hgm 0⟩⟩
  .have:=hgc 0;have:=a6 0;show vs.length<=_;omega
  .have:=hgc 0;have:=a6 0;have:=b1 0;simp only[Array.size_append,zF_size,size_toArray,nil_append,hxl];omega
 ·obtain⟨il,al,c,hil,rfl,hq,hnc,hu,ho⟩:=hx;obtain⟨il',hil',ho',hu',hlt,hpl,cur,t',fz,hb,ht',hs,hfz,hle,his⟩:=hr.row l true tE zs hl;rw[hil]at hil';cases hil';obtain⟨_,hcs,hc63⟩:=ho ho';have hcl:=his.length;have hcurl:cur.toList.length=il.s:=by simpa using hs
  have hxl':(cur.toList.take zs.length).length=n*z:=by rw[<-hcl,hzl]
  have hcells:∀j u,(cur.toList.take zs.length)[j]?=some u->w.cell? ⟨il.b,j,none⟩=some u:=by
   intro j u hj;rw[gi_ hb];rw[getElem?_take]at hj;split at hj
   .simpa using hj
   .cases hj
  have h1c:=his.one;have hnl:(zs.take (i*z)++(vs++zs.drop (i*z))).length=(n+1)*z:=by rw[kI,kI,lC,length_drop,hzl,hvl];omega
  by_cases hroom:n+1<=c
  ·have a7:=Nat.mul_le_mul_right z hroom;have hpos:0<il.s:=by omega
   have hq':al=⟨il.b,0,none⟩:=by
    rcases hq with h|h
    .rw[h,hpl]
    .omega
   subst hq';have hvb:iv.b≠il.b:=λe=>hr.rows l lv tE zs false mC_ vs il iv hl hlv (λq=>by subst q;rw[hl]at hlv;cases hlv) hil hiv hpos e.symm;have hsp:∀j,j<il.s->(w.cell? ⟨il.b,j,none⟩).isSome=true:=by
    intro j hj;rw[gi_ hb,Array.getElem?_eq_getElem o_];rfl
   have hfr:∀j,j<il.s->w.frozen? ⟨il.b,j,none⟩=false:=by
    intro j hj;obtain⟨f1,f2⟩:=fz;simp only[World.frozen?,hb];by_cases q:f1<=j/\j<f2
    .have:=(hfz _ q.1 q.2).1;omega
    .simp;omega
   have main:∀w',dV_ (λb=>b=il.b) w w'->(∃c',w'.heap[il.b]?=some (.cells c' t' fz)/\c'.toList=cur.toList.take (i*z)++(xv++(cur.toList.take (n*z)).drop (i*z))++cur.toList.drop ((n+1)*z))->
    ∃r H' φ' x,Q r H'/\Ending.returned (.slice (some ⟨il.b,0,none⟩) (n+1) c)= .returned x/\r.is φ' x/\bP_ φ H w φ' H' w':=by
    rintro w' hk ⟨c',hb',hc'⟩;have e1:(cur.toList.take (i*z)++(xv++(cur.toList.take (n*z)).drop (i*z))).length=(n+1)*z:=by simp[hcurl,hxl];omega
    have hc'l:c'.toList.length=il.s:=by rw[hc',kI,e1,length_drop,hcurl];omega
    have hsz':c'.size=il.s:=by simpa using hc'l
    have B:=bP_.pass (i':=⟨il.b,0,true,(n+1)*z,il.s⟩) (t':=tE) (cs':=zs.take (i*z)++(vs++zs.drop (i*z))) hr hl hil hpos rfl hk
     ⟨rfl,hnl.symm,Nat.lt_of_lt_of_le hlt hk.size,rfl,c',t',fz,hb',ht',hsz',hfz,(by rw[hnl,hsz'];omega),by
      rw[hnl,hc',take_left' e1];have h3:Is2 φ zs (cur.toList.take (n*z)):=by rw[<-hzl];exact his
      have h4:=h3.take (i*z);have h5:=h3.drop (i*z);rw[take_take,Nat.min_eq_left o_]at h4;exact (ct_.append (Is2.mono (prefix_append _ _) h4) (ct_.append (Is2.mono (prefix_append _ _) hxis) (Is2.mono (prefix_append _ _) h5)))⟩
    refine⟨_,_,_,_,hQ,rfl,?_,by simpa[pu] using B⟩;refine⟨_,_,c,by simp only[ln,<-hr.len];exact getElem?_concat_length,rfl,.inl rfl,hroom,?_,λ_=>⟨rfl,?_,hc63⟩⟩
    .show (n+1)*z<=0+c*z;omega
    .show 0+c*z<=il.s;omega
   by_cases hin:i=n
   .subst hin;refine (Uq.insF_end_room h4 il.b i c iv.b cv xv w hroom hc63 hxl (λj hj=>hsp _ o_) (λj hj=>hfr _ o_) hvs h1v).mono ?_;rintro e w' ⟨rfl,rfl⟩;obtain⟨c',h1,h2,h3⟩:=gK_ il.b t' fz xv (i*z) cur w hb (by rw[hxl];omega);refine main _ h1 ⟨c',h2,?_⟩;rw[h3,hxl,drop_of_length_le (l:=cur.toList.take (i*z)) (by rw[lC];omega),append_nil];congr 2;omega
   ·obtain⟨tA,tB,hsa,hsb⟩:∃tA tB,w.shape? iv.b=some (tA,cv0.size)/\w.shape? il.b=some (tB,cur.size):=⟨ev,t',by simp[World.shape?,hbv],by simp[World.shape?,hb]⟩;refine (Uq.insF_shift h4 il.b n c i iv.b cv _ xv w o_ hroom hc63 hvb hxl' hxl hcells (λj hj=>hsp j o_) (λj hj=>hfr j o_) hvs h1c h1v tA tB cv0.size cur.size hsa hsb o_ (by simp[World.frozen?,hbv]) (by simp[World.frozen?,hbv])).mono ?_;rintro e w' ⟨rfl,rfl⟩;have hD:((cur.toList.take zs.length).drop (i*z)).length=(n-i)*z:=by rw[length_drop,hxl'];omega
    obtain⟨c1,k1,b1,e1⟩:=gK_ il.b t' fz ((cur.toList.take zs.length).drop (i*z)) ((i+1)*z) cur w.drew hb (by rw[hD];omega);have g0:(cur.toList.take ((i+1)*z)).length=(i+1)*z:=by rw[lC,hcurl];omega
    have hc1l:c1.toList.length=il.s:=by rw[e1,kI,kI,g0,hD,length_drop,hcurl];omega
    have hc1s:c1.size=il.s:=by simpa using hc1l
    obtain⟨c2,k2,b2,e2⟩:=gK_ il.b t' fz xv (i*z) c1 _ b1 (by rw[hxl];omega);refine main _ (((lX_ _ w).trans k1 λb h=> .inl h).trans k2 λb h=> .inl h) ⟨c2,b2,?_⟩;have g1:c1.toList.take (i*z)=cur.toList.take (i*z):=by
     rw[e1,kV,take_append_of_le_length o_,take_take];congr 1;omega
    have g2:c1.toList.drop (i*z+xv.length)=(cur.toList.take zs.length).drop (i*z)++cur.toList.drop ((n+1)*z):=by
     rw[e1,kV,drop_left' (by rw[g0,hxl];omega),hD];congr 2;omega
    rw[e2,g1,g2,hzl];simp
  ·have hroom':c < n+1:=by omega
   have hsplit:Is2 φ (zs.take (i*z)++(vs++zs.drop (i*z))) ((cur.toList.take zs.length).take (i*z)++(xv++(cur.toList.take zs.length).drop (i*z))):=ct_.append (his.take _) (ct_.append hxis (his.drop _));have hlt':l<H.length:=(kC.1 hl).1;have main:∀w' (cc:Array Value),bP_ φ H w φ H w'->cc.size=grownCap w (n+1) c tE*z->cc.toList.take ((n+1)*z)=(cur.toList.take zs.length).take (i*z)++(xv++(cur.toList.take zs.length).drop (i*z))->
    ∃r H' φ' x,Q r H'/\Ending.returned (.slice (some ⟨w'.heap.size,0,none⟩) (n+1) (grownCap w (n+1) c tE))= .returned x/\r.is φ' x/\bP_ φ H w φ' H' (w'.alloc (.cells cc tE)):=by
    intro w' cc B0 hcs hct;have B1:=B0.trans (bP_.drop B0.rep l);have hg:=hgc c;have hg2:=a6 c;have hg3:=b1 c;have B2:=B1.trans (bP_.new B1.rep tE (zs.take (i*z)++(vs++zs.drop (i*z))) cc (0,0) (by rw[hnl,hcs];omega) (by rw[hnl,hct];exact hsplit) λj _ h=>by simp at h);have hlen:(H.set l .dead).length=φ.length:=by rw[length_set,hr.len]
    refine⟨_,_,_,_,hQ,rfl,?_,B2⟩;refine⟨_,_,_,by simp only[ln,<-hr.len];exact getElem?_concat_length,rfl,.inl rfl,hgc c,?_,λ_=>⟨rfl,?_,hgm c⟩⟩
    .show (zs.take (i*z)++(vs++zs.drop (i*z))).length<=0+grownCap w (n+1) c tE*z;rw[hnl];omega
    .show 0+grownCap w (n+1) c tE*z<=cc.size;rw[hcs];omega
   by_cases hin:i=n
   ·subst hin;refine (Uq.insF_end_grow h4 (some al) i c iv.b cv (cur.toList.take zs.length) xv w hnc hroom' hlim' hxl' hxl (λh=>by cases h) (by
     intro a ha j u hj;cases ha;have hj':=(kC.1 hj).1;have hq':al=⟨il.b,0,none⟩:=by
      rcases hq with h|h
      .rw[h,hpl]
      ·exact absurd hj' (by have:i=0:=by omega
                            subst this;simp[hzl])
     rw[hq',g4_,kN];exact hcells j u hj) hvs).mono ?_
    rintro e w' ⟨rfl,rfl⟩;refine main w.drew _ (bP_.drew hr) ?_ ?_
    .have:=hgc c;have:=a6 c;have:=b1 c;simp only[Array.size_append,zF_size,size_toArray,kI,hxl',hxl];omega
    .simp only[Array.toList_append];rw[take_left' (by simp[hxl',hxl];omega),k7 (l:=cur.toList.take zs.length) o_,drop_of_length_le o_,append_nil]
   ·have hq':al=⟨il.b,0,none⟩:=by
     rcases hq with h|h
     .rw[h,hpl]
     .omega
    subst hq';refine (Uq.insF_grow h4 il.b n c i iv.b cv (cur.toList.take zs.length) xv w o_ hnc hroom' hlim' hxl' hxl hcells hvs h1c h1v).mono ?_;rintro e w' ⟨rfl,rfl⟩;have hg:=hgc c;have hg2:=a6 c;have hg3:=b1 c;obtain⟨row,hrow⟩:∃row:Array Value,row=((cur.toList.take zs.length).take (i*z)).toArray++Builtin.zeroCells zv.cells (n+1-i)++Builtin.zeroCells zv.cells (grownCap w (n+1) c tE-(n+1)):=⟨_,rfl⟩;rw[<-hrow];have hA:(w.alloc (.cells row tE)).drew.heap[w.heap.size]?=some (.cells row tE (0,0)):=heap_alloc_new w _;have hAs:row.size=grownCap w (n+1) c tE*z:=by
     rw[hrow];simp only[Array.size_append,zF_size,size_toArray,lC,hxl'];omega
    have hrt:row.toList.take (i*z)=(cur.toList.take zs.length).take (i*z):=by
     rw[hrow,Array.toList_append,Array.toList_append,kV];exact take_left' (by rw[lC];omega)
    obtain⟨c1,k1,b1,e1⟩:=gK_ w.heap.size tE (0,0) xv (i*z) row _ hA (by rw[hAs,hxl];omega);have hD:((cur.toList.take zs.length).drop (i*z)).length=(n-i)*z:=by rw[length_drop,hxl'];omega
    have hrl:row.toList.length=grownCap w (n+1) c tE*z:=by simpa using hAs
    have hT:(row.toList.take (i*z)++xv).length=(i+1)*z:=by rw[kI,lC,hrl,hxl];omega
    have hc1l:c1.toList.length=grownCap w (n+1) c tE*z:=by
     rw[e1,kI,hT,length_drop,hrl,hxl];omega
    have hc1s:c1.size=grownCap w (n+1) c tE*z:=by simpa using hc1l
    obtain⟨c2,k2,b2,e2⟩:=gK_ w.heap.size tE (0,0) ((cur.toList.take zs.length).drop (i*z)) ((i+1)*z) c1 _ (show (World.drew (World.setCells (World.drew (w.alloc _)) w.heap.size (i*z) xv)).heap[w.heap.size]?=_ from b1) (by rw[hc1s,hD];omega);have g1:c1.toList.take ((i+1)*z)=(cur.toList.take zs.length).take (i*z)++xv:=by
     rw[e1,take_left' hT,hrt]
    have hct:c2.toList.take ((n+1)*z)=(cur.toList.take zs.length).take (i*z)++(xv++(cur.toList.take zs.length).drop (i*z)):=by
     rw[e2,g1,take_left' (by rw[kI,kI,lC,hxl',hxl,hD];omega),kV]
    have hc2l:c2.toList.length=grownCap w (n+1) c tE*z:=by
     rw[e2,kI,kI,hD,lC,length_drop,hc1l];omega
    have hc2s:c2.size=grownCap w (n+1) c tE*z:=by simpa using hc2l
    have kk:=((((gu_ (λb=>b=w.heap.size) w (.cells row tE)).trans (lX_ (λb=>b=w.heap.size) _) λb h=> .inl h).trans k1 λb h=> .inl h).trans (lX_ (λb=>b=w.heap.size) _) λb h=> .inl h).trans k2 λb h=> .inl h;have B0:=bP_.drop hr l;have B2:=B0.trans (bP_.snoc (own:=true) (t:=tE) (cs:=zs.take (i*z)++(vs++zs.drop (i*z))) (i:=⟨w.heap.size,0,true,(zs.take (i*z)++(vs++zs.drop (i*z))).length,c2.size⟩) B0.rep ⟨kk.os,kk.tape,kk.output,kk.size,λb h1 _=>kk.block b h1 o_⟩ (λb q=>kk.block b (B0.rep.blockLt q) (by have:=B0.rep.blockLt q;omega))
     ⟨rfl,rfl,(Array.getElem?_eq_some_iff.1 b2).1,rfl,c2,tE,(0,0),b2,λ_=>rfl,rfl,λj _ h=>by simp at h,by rw[hnl,hc2s];omega,Is2.mono (prefix_append _ _) (by rw[hnl,hct];exact hsplit)⟩ (kO _))
    have hlen:(H.set l .dead).length=φ.length:=by rw[length_set,hr.len]
    refine⟨_,_,_,_,hQ,rfl,?_,B2⟩;refine⟨_,_,_,by simp only[ln,<-hr.len];exact getElem?_concat_length,rfl,.inl rfl,hg,?_,λ_=>⟨rfl,?_,hgm c⟩⟩
    .show (zs.take (i*z)++(vs++zs.drop (i*z))).length<=0+grownCap w (n+1) c tE*z;rw[hnl];omega
    .show 0+grownCap w (n+1) c tE*z<=c2.size;rw[hc2s];omega
theorem ey_:c4_ Tryz.prog 112 slices_Insert__api_File_api_File:=CL_ .f
theorem fr_:c4_ Tryz.prog 236 slices_Insert__string_string:=CL_ .s
theorem kh_:c4_ Tryz.prog 237 slices_Insert__int_int:=CL_ .n
end Go.Am
namespace Go.Proofs
open List
open Go.Shelf Tryz
end Go.Proofs
namespace Go.Am
open List
open Go.Proofs
end Go.Am
namespace Go.Am
open List
open Go.Proofs.Tryz
inductive Wp(P:Prop)|I
inductive WF(v:FV)|I
inductive WI(n:Int)|I
instance:CoeT (Wp P) a Prop:=⟨P⟩
instance:CoeT (WF v) a FV:=⟨v⟩
instance:CoeT (WI n) a FV:=⟨.g (.int .i64 n)⟩
instance:CoeT (WI n) a GV:=⟨.int .i64 n⟩
instance:CoeT (WI n) a RV:=⟨.s (.int .i64 n)⟩
instance:Coe Int GV:=⟨λn=>.int .i64 n⟩
instance:Coe Bool GV:=⟨.bool⟩
instance:Coe Y_ GV:=⟨.str⟩
instance:Coe Pl GV:=⟨.ptr⟩
instance:Coe GV FV:=⟨.g⟩
instance:Coe GV RV:=⟨.s⟩
def nN(n:Int):WI n:=.I
def nL(x:Pl)(n z:Nat):WF (.g (.sl x n z)):=.I
def gI(n:Int):WF (.g (.int .i64 n)):=.I
def gB(b:Bool):WF (.g (.bool b)):=.I
def gS(s:Y_):WF (.g (.str s)):=.I
inductive WR(v:RV)|I
instance:CoeT (WR v) a RV:=⟨v⟩
def yR(x:Pl)(n z:Nat):WR (.s (.sl x n z)):=.I
def yB(x:Pl)(n:Nat):WR (.a [.sl x n 5]):=.I
def yA(x:Pl)(n:Nat):WF (.agg [.sl x n 5]):=.I
def yQ(l:Nat):WF (.g (.ptr (some (l,0)))):=.I
def gP(s:Pl):WF (.g (.ptr s)):=.I
def gM(s:Option Nat):WF (.g (.map s)):=.I
def fF(c:Cx)(f:Func):Sm:=λa H Q=>∃k,as_ c f k a H Q
def eE(E:Nat->Sm):Prop:=∀f,c4_ prog f (E f)
theorem zz{a b:Prop}(h:a=b:=by kernel_rfl):a=b:=h
theorem eN:dK_ prog []:=.nil _
theorem nO:eE aw_:=Ci_ _
theorem eZ{f s l}{b:Func}(h:ao_ prog f s)(g:prog.funcs[f]?=some b)(hl:dK_ prog l)(h1:(b.name== "runtime.NumGoroutine")=false:=by kernel_rfl)(h2:b.body.isNone=false:=by kernel_rfl):dK_ prog ((f,s)::l):=.cons (h.c ⟨_,g,h1,h2⟩) hl
theorem sO{f}{c:Cx}{b:Func}(e:dK_ prog c.env)(d:eE c.dyn)(g:prog.funcs[f]?=some b)(r:b.results=c.res.toArray:=by rfl)(t:c.tys=tys:=by rfl):ao_ prog f (fF c b):=l8_.sound t e d g r
def aa(a b c e f):Wp (rd a b c λd=>dL e d f):=.I
def ac(a b c)(f:_->_->Prop):Wp (cl a b c λd e=>rG d λg=>f e g):=.I
def ae(a b c):Wp (chk a (chk b c)):=.I
def af(a)(d:_->_->Prop):Wp (uR a λb c=>rS b λe=>d c e):=.I
def ah(a b c e):Wp (rd a b c λd=>dS d e):=.I
def ai(a b):Wp (dI .i64 a b):=.I
def aj(a c d):Wp (dB a λb=>b1_ (!b) c d):=.I
def ak(a b):Wp (ae true a b):=.I
def aq(a b c e):Wp (rd a b c λd=>ai d e):=.I
def au(a b c d g h)(i:_->Prop):Wp (aa a b c d λe f=>ak (g&&ltI h (nI f)) (i e)):=.I
def av(a b c)(f:_->_->Prop):Wp (cl a b c λd e=>rT d λg=>f e g):=.I
def aw(a b c d):Wp (b1_ (ltI a b) c d):=.I
def ax(a:Post)(b c):Wp (a (.tup b) c):=.I
def ay(a)(d:_->_->Prop):Wp (af a λb c=>ai c λe=>d b e):=.I
def aA(a d)(e:_->_->_->Prop):Wp (uC a λb c=>dL d b λf g=>e c f g):=.I
def aB(a b c):Wp (ak a (pS b c)):=.I
def aC(a b c f)(g:_->_->_->Prop):Wp (ac a b c λd e=>dL f e λh i=>g d h i):=.I
def aD(a b c e):Wp (rd a b c λd=>dB d e):=.I
def aE(a b c d e f h):Wp (au a b c d e f λg=>pS g h):=.I
def aF(a b c d f g h i):Wp (wr a b c d λe=>wr e f g h i):=.I
def aG(a b c)(f:_->_->Prop):Wp (ac a b c λd e=>ai e λg=>f d g):=.I
def aH(a b e)(f:Nat)(g):Wp (aB a b λc d=>ah e c (d+f) g):=.I
def aI(a b c)(f:_->_->_->Prop):Wp (av a b c λd e=>af e λg h=>f d g h):=.I
def aJ(a b e)(f:Nat)(g):Wp (aB a b λc d=>aq e c (d+f) g):=.I
def aK(a b c):Wp (b1_ (!a) b c):=.I
def aL(a b)(f:_->_->Prop):Wp (aA a b λc d e=>uN c (f d e)):=.I
def aM(a)(d:_->_->Prop):Wp (uC a λb c=>ai b λe=>d c e):=.I
def aN(a):Wp (chk true a):=.I
def aO(a)(d:_->_->Prop):Wp (uC a λb c=>dS b λe=>d c e):=.I
def aP(a)(d:_->_->Prop):Wp (uC a λb c=>dB b λe=>d c e):=.I
def aR(a d e f g h):Wp (pS a λb c=>aE d b (c+0) e f g h):=.I
def aS(a b c e):Wp (rd a b c λd=>dM d e):=.I
def aT(a:Post)(b):Wp (a false b):=.I
def aU(a)(d:_->_->Prop):Wp (af a λb c=>dB c λe=>d b e):=.I
def aV(a b c d h i):Wp (aC a b c d λe f g=>ax h [.s (.sl f g 5),i] e):=.I
def aW(a)(d:_->_->Prop):Wp (uR a λb c=>rC b λe=>d c e):=.I
def aX(a d):Wp (ay a λb c=>uE b d):=.I
def aY(a b c d g h i):Wp (aa a b c d λe f=>aw g (nI f) h i):=.I
def aZ(a b c d):Wp (b1_ (leI a b) c d):=.I
def ba(a b c)(f:_->_->Prop):Wp (ac a b c λd e=>dB e λg=>f d g):=.I
def bc(a)(d:_->Prop):Wp (ay a λb c=>uE b (d c)):=.I
def bf(a b c)(f:_->_->_->Prop):Wp (av a b c λd e=>aW e λg h=>f d g h):=.I
def bg(a b c d):Wp (aK (eqI a b) c d):=.I
def bh(a b c)(f:_->_->Prop):Wp (cl a b c λd e=>rA d λg=>f e g):=.I
def bj(a b c d):Wp (b1_ (eqI a b) c d):=.I
def bk(a c):Wp (rC a λb=>aM b c):=.I
def bm(a d e f g h):Wp (pS a λb c=>aE d b (c+1) e f g h):=.I
def bn(a b c d g h i j)(l:_->_->_->_->Prop):Wp (aa a b c d λe f=>aa g h i j λm n=>l e f m n):=.I
def bo(a b e)(f:Nat)(g):Wp (aB a b λc d=>ah e c (d+f+0) g):=.I
def bp(a b c d e):Wp (aj a (ax b c d) e):=.I
def bq(a b c f g)(h:_->Prop):Wp (ac a b c λd e=>bp e f g d (h d)):=.I
def br(a b c d e g h)(i:_->_->Prop):Wp (bq a b c d e λf=>rdN (pu f g) (some (ln f,0)) h λj=>i f j):=.I
def bt(a b c d f g):Wp (wr a b c d λe=>ax f g e):=.I
def bv(a d e):Wp (pS a λb c=>aS d b (c+3) e):=.I
def bw(a d e f):Wp (pS a λb c=>aa d b (c+0) e f):=.I
def bz(a b c)(f:_->_->_->Prop):Wp (av a b c λd e=>ay e λg h=>f d g h):=.I
def bA(a b c d h i j l m):Wp (aC a b c d λe f g=>aV h [nL f g 5,i] e j l m):=.I
def bB(a b c d e f g h i):Wp (aN (ap a b c d e f g h i)):=.I
def bC(a b e)(f:Nat)(g:_->_->_->Prop):Wp (aB a b λc d=>ah e c (d+f) λh=>g c d h):=.I
def bD(a)(d:_->Prop):Wp (aU a λb c=>uE b (d c)):=.I
def bF(a b c)(g:_->_->_->Prop):Wp (aI a b c λd e f=>dS f λh=>g d e h):=.I
def bG(a b e)(f:Nat)(g)(h:Nat)(i)(j:_->_->_->Prop):Wp (aB a b λc d=>aF e c (d+f) g c (d+h+1) i λl=>j c d l):=.I
def bH(a b c d e f g)(l:Nat)(m)(n:Nat)(o)(p:_->_->_->Prop):Wp (bG a b c d e f g λh i j=>aF j h (i+l+1+1) m h (i+n+1+1+1) o λq=>p h i q):=.I
def bI(a b c d e f g h i j l)(p:Nat)(q r):Wp (bH a b c d e f g h i j l λm n o=>wr o m (n+p+1+1+1+1) q r):=.I
def bJ(a b c f)(g:_->_->_->Prop):Wp (bh a b c λd e=>aL e f λh i=>g d h i):=.I
def bK(a b c d h i):Wp (bJ a b c d λe f g=>ax h [.a [.sl f g 5],i] e):=.I
def bL(a b c d g h):Wp (aa a b c d λe f=>eqv g (nL e f 5) h):=.I
def bM(a b c g)(h:_->_->_->_->Prop):Wp (aI a b c λd e f=>dL g f λi j=>h d e i j):=.I
def bN(a b c g)(h:_->_->_->_->Prop):Wp (bf a b c λd e f=>aL f g λi j=>h d e i j):=.I
def bO(a d e):Wp (pS a λb c=>aS d b (c+2) e):=.I
def bP(a d e):Wp (pS a λb c=>aS d b (c+1) e):=.I
def bQ(a d e f):Wp (pS a λb c=>wr d b (c+1) e f):=.I
def bR(a b e)(f:Nat)(g:_->_->_->Prop):Wp (aB a b λc d=>aD e c (d+f) λh=>g c d h):=.I
def bT(a b c d h)(i:Nat)(j:_->_->_->_->Prop):Wp (bR a b c d λe f g=>aD h e (f+i+1) λl=>j e f g l):=.I
def bU(a b c d e f l)(m:Nat)(n o)(p:Nat)(q)(r:_->_->_->_->_->_->_->_->Prop):Wp (bT a b c d e f λg h i j=>bn l g (h+m+1+1) n o g (h+p+1+1+1) q λs t u v=>r g h i j s t u v):=.I
def bV(a b c d e f g h i j l m v)(w:Nat)(x)(y:_->_->_->_->_->_->_->_->Prop):Wp (bU a b c d e f g h i j l m λn o p q r s t u=>aa v n (o+w+1+1+1+1) x λz A=>y p q r s t u z A):=.I
def bW(a b e)(f:Nat)(g h):Wp (aB a b λc d=>aa e c (d+f+4) g h):=.I
def bX(a b c d):Wp (aw a (nI b) c d):=.I
def bY(a d e f g h):Wp (pS a λb c=>aE d b (c+2) e f g h):=.I
def bZ(a b e)(f:Nat)(g):Wp (aB a b λc d=>aq e c (d+f+1) g):=.I
def ca(a d e f):Wp (pS a λb c=>aa d b c e f):=.I
def cd(a b c)(g:_->_->_->Prop):Wp (bz a b c λd e f=>bD e λh=>g d f h):=.I
def ce(a b f)(g:_->_->_->_->Prop):Wp (aA a b λc d e=>aL c f λh i=>g d e h i):=.I
def cf(a b c):Wp (ak (leI a b) c):=.I
def ch(a)(d:_->_->_->Prop):Wp (aP a λb c=>aP b λe f=>d c e f):=.I
def cn(a e)(f:_->_->_->_->_->Prop):Wp (ch a λb c d=>aA c e λg h i=>f b d g h i):=.I
def co(a d e f):Wp (pS a λb c=>aa d b (c+4) e f):=.I
def cp(a b c d e f):Wp (bg a b (ax c d e) f):=.I
def cq(a d e f g):Wp (pS a λb c=>bt d b (c+3) e f g):=.I
def ct(a b h i)(j:_->_->_->_->_->_->_->_->Prop):Wp (cn a b λc d e f g=>ce e h i λl m n o=>j c d f g l m n o):=.I
def cw(a d e f g h):Wp (pS a λb c=>aY d b (c+1) e f g h):=.I
def cy(a b c)(f:Post):Wp (ba a b c λd e=>f e d):=.I
def cz(a b c d g h):Wp (aa a b c d λe f=>eqv g (nL e f 1) h):=.I
def cA(a b c e f g)(h:_->_->Prop):Wp (ah a b c λd=>ah e f g λi=>h d i):=.I
def cC(a d e):Wp (pS a λb c=>aq d b (c+1) e):=.I
def cD(a b c d e f g):Wp (aR a b c (leI d e) f g):=.I
def cE(a b c g h i)(j:_->_->_->Prop):Wp (nxt a b c (λd e f=>CH_ f g h λl m=>j f l m) i):=.I
def cF(a b c d h)(i:Nat)(j:_->_->_->_->Prop):Wp (bC a b c d λe f g=>aq h e (f+i+1) λl=>j e f g l):=.I
def cG(a b c d e f l)(m:Nat)(n)(o:Nat)(p:_->_->_->_->_->_->Prop):Wp (cF a b c d e f λg h i j=>cA l g (h+m+1+1) n g (h+o+1+1+1) λq r=>p g h i j q r):=.I
def cH(a b c d e f g h i j r)(s:Nat)(t)(u:_->_->_->_->_->_->Prop):Wp (cG a b c d e f g h i j λl m n o p q=>aa r l (m+s+1+1+1+1) t λv w=>u n o p q v w):=.I
def cI(a d e f):Wp (pS a λb c=>aa d b (c+2) e f):=.I
def cJ(a b c d e f g h i j l m n o p y z A C D E F G I):Wp (bV a b c d e f g h i j l m n o p λq r s t u v w x=>bI y z A C q D r E (.sl s t 1) F (.sl u v 1) G (.sl w x 1) I):=.I
def cK(a b c e f):Wp (aD a b c λd=>b1_ d e f):=.I
def cL(a b e)(f:Nat)(g):Wp (aB a b λc d=>aq e c (d+f+1+0) g):=.I
def cM(a)(d:_->Prop):Wp (aO a λb c=>uN b (d c)):=.I
def cN(a:Post)(b c):Wp (a (.g b) c):=.I
def cO(a b c):Wp (cN a (.bool b) c):=.I
def cP(a c d e f g):Wp (bc a λb=>cp b c d [e,b] f g):=.I
def cQ(a b c d e f g h):Wp (aE a b c d (leI e f) g h):=.I
def cR(a d):Wp (aO a λb c=>uN b d):=.I
def cS(a b c d):Wp (b1_ (gf_ a b) c d):=.I
def cT(a b c d e f):Wp (sy_ a b false c d e f):=.I
def cU(a b c d e f g)(j:_->_->Prop):Wp (br a b c d e f g λh i=>txt i λl=>j h l):=.I
def cV(a b c e f g h i j l m):Wp (rdN a b c λd=>bB e f g h i j d l m):=.I
def cW(a b c d e f g h i j l m n):Wp (cH a b c d e d f g h i j l m n):=.I
def cX(a b c d e f g h i j l m):Wp (cW a b c d e f d g h i j l m):=.I
def cY(a b c d e f g h i j l):Wp (cX a b c d e f g d h i j l):=.I
def cZ(a b c d e f g h i j):Wp (cY a b c d e f g h d i j):=.I
def da(a b c d):Wp (cO a (eqI b c) d):=.I
def db(a b d e f):Wp (Hm_ a b λc=>ax d [c,e] f):=.I
def dg(a b c d e f g):Wp (bm a b c (leI d e) f g):=.I
def dh(a c):Wp (rS a λb=>dS b c):=.I
def di(a b c d):Wp (ae (leI a b) c d):=.I
def dj(a b c d):Wp (aj a (aT b c) d):=.I
def dk(a b c f)(g:_->Prop):Wp (ac a b c λd e=>dj e f d (g d)):=.I
def dl(a b c)(g:_->_->_->Prop):Wp (aI a b c λd e f=>dP f λh=>g d e h):=.I
def dm(a b c d e f g j)(l:Nat)(m):Wp (cQ a b c d e f g λh i=>aq j h (i+l) m):=.I
def dn(a b e)(f:Nat)(g h i j l):Wp (aB a b λc d=>cQ e c (d+f+4) g h i j l):=.I
def dp(a d e)(f:_->_->_->_->Prop):Wp (pS a λb c=>aa d b (c+0) e λg h=>f b c g h):=.I
def dq(a b c d e):Wp (aw a b (aT c d) e):=.I
def dt(a b c d e f g):Wp (wr a b c (.sl d e f) g):=.I
def du(a b c)(g:_->_->Prop):Wp (bF a b c λd e f=>aX e (g d f)):=.I
def dv(a b c d):Wp (cO a (leI b c) d):=.I
def dw(a b c d):Wp (aK (gf_ a b) c d):=.I
def dx(a b c d e f g j l m n):Wp (cU a b c d e f g λh i=>db i j l m (pu h n)):=.I
def dy(a b c d e f g h i j):Wp (dx a b c d e f g h i j f):=.I
def dz(a b c d)(i:_->_->_->Prop):Wp (bN a b c d λe f g h=>aX f (i e g h)):=.I
def dA(a b c d e f):Wp (x5_ a b false c d e f):=.I
def dC(a:Post)(b c d e):Wp (a (nL b c d) e):=.I
def dD(a b c d e f g h):Wp (bB a b c d e f g 1 h):=.I
def dE(a b e)(f:Nat)(g):Wp (aB a b λc d=>ah e c (d+f+1) g):=.I
def dG(a b c e f g h i j):Wp (rdN a b c λd=>ap0 e f g h d i j):=.I
def dH(a b c f g):Wp (cl a b c λd e=>ax f g e):=.I
def dJ(a b c d):Wp (aa a b c 1 d):=.I
def dK(a b c d e h):Wp (cT a b c d e λf g=>bk f h):=.I
def dN(a b c d e g h i j l):Wp (bq a b c d e λf=>bq g h f i j l):=.I
def dO(a b c d e f g h i):Wp (dN a b c d e f g h e i):=.I
def dQ(a b c d):Wp (cN a (.int b c) d):=.I
def dR(a b c d e f):Wp (aZ a b (ax c d e) f):=.I
def dU(a b c d g h i):Wp (aa a b c d λe f=>ax g [.a [.sl e f 5],h] i):=.I
def dV(a b c d h i j l m n):Wp (dz a b c d λe f g=>dz h [.agg [.sl f g 5],i,j,l] e m n):=.I
def dW(a d e f):Wp (pS a λb c=>aa d b (c+1) e f):=.I
def dY(a b c d):Wp (cS a (mkS b) c d):=.I
def dZ(a b c d):Wp (dw a (mkS b) c d):=.I
def d6(a d):Wp (aP a λb c=>uN b d):=.I
def d7(a d):Wp (aM a λb c=>aO b d):=.I
def d8(a b c d e f g h i):Wp (bA a b c d e (.agg f) g h i):=.I
def d9(a c d):Wp (bD a λb=>aK b c d):=.I
def eg(a b c d f g h i):Wp (bo a b c d λe=>b1_ (dE_ f e||gf_ g e) h i):=.I
def en(a:Post)(b c):Wp (a (.agg b) c):=.I
def ep(a b c d e f):Wp (aw a b (ax c d e) f):=.I
def eu(a b):Wp (ae a true b):=.I
def ew(a b c d f g h):Wp (aH a b c d λe=>b1_ (dE_ e f) g h):=.I
def eF(a b c d e f g l m):Wp (dD a b c d e f g λh i j=>bQ l j (.sl h i 4) m):=.I
def eG(a b c d e f g):Wp (bY a b c (leI d e) f g):=.I
def eH(a b c d)(i:_->_->_->_->Prop):Wp (bN a b c d λe f g h=>bc f λj=>i e g h j):=.I
def eI(a b c d):Wp (bj (nI a) b c d):=.I
def eJ(a d e f g h):Wp (pS a λb c=>aY d b (c+0) e f g h):=.I
def eK(a d e f g h):Wp (pS a λb c=>aY d b (c+2) e f g h):=.I
def eM(a b d e f):Wp (cC a b λc=>bj c d e f):=.I
end Go.Am
namespace Go.Am
open List
open Go.Proofs.Tryz
variable{E:Nat->Sm}{k:Nat}{H:Hp}{Q:Post}{U X Y Z u w x x1 y z:Pl}{D L M N O l m n n1 o:Nat}{I g h i j:Int}{C b b1 b2 c d:Bool}{R S e r s t:ByteArray}{A a:Option Nat}{p q:List (Nat×Nat)}{F:Sm}
def cI_.cx:Cx:=⟨tys,[],[(2,[0,3])],[],[],aw_,[.tmp 2]⟩
def cI_:=fF cI_.cx f287
def cI_.l2 k a b c:=aT_ (cI_.cx) f287 2 k (nL a b 1::.bad::.bad::gI c::B 16 [])
theorem cI_.l2_eq:cI_.l2 (k+1) x n i H Q=bX i n (aH (leI 0 (ac_ .i64 (i-1))&&ltI (ac_ .i64 (i-1)) (nI n)) x H (tN (ac_ .i64 (i-1))*1) (λa=>aH (leI 0 i&&ltI i (nI n)) x H (tN i*1) λb=>aK (dE_ a b) (aT Q H) (cI_.l2 k x n (ac_ .i64 (i+1)) H Q))) (Q true H):=zz
theorem vD_:ao_ prog 287 (cI_):=sO eN nO func287
def aM_.cx E:=(⟨tys,[],[(2,[0,1,7,8])],[],[],E,[.tmp 4]⟩:Cx)
def aM_ E:=fF (aM_.cx E) f299
def aM_.l2 E k a b c d e f:=aT_ (aM_.cx E) f299 2 k (nL a b 1::.g (.fn c d)::B 5 (gI e::gI f::B 10 []))
theorem aM_.l2_eq:aM_.l2 E (k+1) x n m p i j H Q=aw j i (aH (leI 0 j&&ltI j (nI n)) x H (tN j*1) (λa=>ba (E m) (cpl [.g (.str a)] p) H λa b=>b1_ b (Q j a) (aM_.l2 E k x n m p i (ac_ .i64 (j+1)) a Q))) (dQ Q .i64 (-1) H):=zz
theorem hn_(E)(h:eE E):ao_ prog 299 (aM_ E):=sO eN h func299
def cz_.cx E:=(⟨tys,[],[],[],[(299,(aM_ E))],E,[.tmp 4]⟩:Cx)
def cz_ E:=fF (cz_.cx E) f292
theorem gS_(E)(h:eE E):ao_ prog 292 (cz_ E):=sO (eZ (hn_ E h) func299 eN) h func292
def c2_.cx E:=(⟨tys,[],[],[],[],E,[.tmp 3]⟩:Cx)
def c2_ E:=fF (c2_.cx E) f293
theorem n4_:as_ (c2_.cx E) f293 (k+1) [s,.g (.ptr (some (n,m)))] H Q=rd H n m λa=>dF a λa b=>ba (E a) (cpl [.g (.str s)] b) H λa b=>cO Q (!b) a:=zz
theorem nY_(E)(h:eE E):ao_ prog 293 (c2_ E):=sO eN h func293
def ej_.cx E:=(⟨tys,[3],[],[],[(292,(cz_ (cO_ [(293,(c2_ E))])))],E,[.tmp 4]⟩:Cx)
def ej_ E:=fF (ej_.cx E) f288
theorem qv_(E)(h:eE E):ao_ prog 288 (ej_ E):=sO (dK_.cons ((gS_ (cO_ [(293,(c2_ E))]) (gw_ (eZ (nY_ E h) func293 eN))).c ⟨_,func292,by kernel_rfl,by kernel_rfl⟩) eN) h func288
def a1_.cx E:=(⟨tys,[],[(2,[0,1,7,8])],[],[],E,[.tmp 4]⟩:Cx)
def a1_ E:=fF (a1_.cx E) f300
def a1_.l2 E k a b c d e f:=aT_ (a1_.cx E) f300 2 k (nL a b 1::.g (.fn c d)::B 5 (gI e::gI f::B 10 []))
theorem a1_.l2_eq:a1_.l2 E (k+1) x n m p i j H Q=aw j i (aJ (leI 0 j&&ltI j (nI n)) x H (tN j*1) (λa=>ba (E m) (cpl [.g (.int .i64 a)] p) H λa b=>b1_ b (Q j a) (a1_.l2 E k x n m p i (ac_ .i64 (j+1)) a Q))) (dQ Q .i64 (-1) H):=zz
theorem ja_(E)(h:eE E):ao_ prog 300 (a1_ E):=sO eN h func300
def da_.cx E:=(⟨tys,[],[],[],[(300,(a1_ E))],E,[.tmp 4]⟩:Cx)
def da_ E:=fF (da_.cx E) f294
theorem h2_(E)(h:eE E):ao_ prog 294 (da_ E):=sO (eZ (ja_ E h) func300 eN) h func294
def d0_.cx E:=(⟨tys,[],[],[],[],E,[.tmp 3]⟩:Cx)
def d0_ E:=fF (d0_.cx E) f295
theorem qK_:as_ (d0_.cx E) f295 (k+1) [i,.g (.ptr (some (n,m)))] H Q=rd H n m λa=>dF a λa b=>ba (E a) (cpl [.g (.int .i64 i)] b) H λa b=>cO Q (!b) a:=zz
theorem qy_(E)(h:eE E):ao_ prog 295 (d0_ E):=sO eN h func295
def gU_.cx E:=(⟨tys,[3],[],[],[(294,(da_ (cO_ [(295,(d0_ E))])))],E,[.tmp 4]⟩:Cx)
def gU_ E:=fF (gU_.cx E) f289
theorem uK_(E)(h:eE E):ao_ prog 289 (gU_ E):=sO (dK_.cons ((h2_ (cO_ [(295,(d0_ E))]) (gw_ (eZ (qy_ E h) func295 eN))).c ⟨_,func294,by kernel_rfl,by kernel_rfl⟩) eN) h func289
def dz_.cx E:=(⟨tys,[1],[],[],[],E,[.tmp 2]⟩:Cx)
def dz_ E:=fF (dz_.cx E) f297
theorem km_(E)(h:eE E):ao_ prog 297 (dz_ E):=sO eN h func297
def dL_.cx:Cx:=⟨tys,[],[],[],[(304,slices_AppendSeq__int_int)],aw_,[.tmp 2]⟩
def dL_:=fF dL_.cx f301
theorem mM_:as_ dL_.cx f301 (k+1) [.g (.fn n p)] H Q=aC slices_AppendSeq__int_int [nL none 0 1,.g (.fn n p)] H 1 λa b c=>dC Q b c 1 a:=zz
theorem mY_:ao_ prog 301 (dL_):=sO (dK_.cons (f2_) eN) nO func301
def eb_.cx:Cx:=⟨tys,[],[],[],[(301,dL_),(302,slices_Sort__int_int)],aw_,[.tmp 2]⟩
def eb_:=fF eb_.cx f296
theorem ni_:as_ eb_.cx f296 (k+1) [.g (.fn n p)] H Q=aC dL_ [.g (.fn n p)] H 1 λa b c=>cl slices_Sort__int_int [nL b c 1] a λ_ a=>dC Q b c 1 a:=zz
theorem nT_:ao_ prog 296 (eb_):=sO (eZ mY_ func301 (dK_.cons (hA_) eN)) nO func296
def ar_.cx:Cx:=⟨tys,[],[(4,[0,3]),(9,[0,3,4,5])],[],[],aw_,[.tmp 2]⟩
def ar_:=fF ar_.cx f298
def ar_.l4 k a b c:=aT_ (ar_.cx) f298 4 k (nL a b 1::.bad::.bad::gI c::B 57 [])
def ar_.l9 k a b c d e f:=aT_ (ar_.cx) f298 9 k (nL a b 1::.bad::.bad::gI c::nL d e 1::gI f::B 55 [])
theorem eI_:as_ ar_.cx f298 (k+1) [nL x n 1] H Q=aw (nI n) 2 (dC Q x n 1 H) (ar_.l4 k x n 1 H Q):=zz
theorem ar_.l4_eq:ar_.l4 (k+1) x n i H Q=bX i n (aJ (leI 0 i&&ltI i (nI n)) x H (tN i*1) (λa=>aJ (leI 0 (ac_ .i64 (i-1))&&ltI (ac_ .i64 (i-1)) (nI n)) x H (tN (ac_ .i64 (i-1))*1) λb=>bj a b (cf 0 i (chk (leN (tN i) n) (ar_.l9 k x n i (shf x (tN i*1)) (n-tN i) 1 H Q))) (ar_.l4 k x n (ac_ .i64 (i+1)) H Q))) (dC Q x n 1 H):=zz
theorem ar_.l9_eq:ar_.l9 (k+1) x n i y m j H Q=bX j m (aJ (leI 0 j&&ltI j (nI m)) y H (tN j*1) (λa=>aJ (leI 0 (ac_ .i64 (j-1))&&ltI (ac_ .i64 (j-1)) (nI m)) y H (tN (ac_ .i64 (j-1))*1) λb=>bg a b (aJ (leI 0 j&&ltI j (nI m)) y H (tN j*1) (λa=>aB (leI 0 i&&ltI i (nI n)) x λb c=>wr H b (c+tN i*1) a λa=>ar_.l9 k x n (ac_ .i64 (i+1)) y m (ac_ .i64 (j+1)) a Q)) (ar_.l9 k x n i y m (ac_ .i64 (j+1)) H Q))) (cf 0 i (eu (leN (tN i) n) (clr H (shf x (tN i*1)) (n-tN i) [.int .i64 0] (λa=>cf 0 i (chk (leN 0 (tN i)&&(leN (tN i) n||ki_ a x (tN i*1))) (dC Q (shf x 0) (tN i-0) 1 a)))))):=zz
theorem jN_:ao_ prog 298 (ar_):=sO eN nO func298
def go_.cx E:=(⟨tys,[],[],[],[(297,(dz_ E)),(296,eb_),(298,ar_)],E,[.tmp 2]⟩:Cx)
def go_ E:=fF (go_.cx E) f291
theorem we_:as_ (go_.cx E) f291 (k+1) [nL x n 1] H Q=ac (dz_ E) [nL x n 1] H λa b=>aC eb_ [b] a 1 λa b c=>aC ar_ [nL b c 1] a 1 λa _ b=>da Q (nI b) (nI n) a:=zz
theorem xb_(E)(h:eE E):ao_ prog 291 (go_ E):=sO (eZ (km_ E h) func297 (eZ nT_ func296 (eZ jN_ func298 eN))) h func291
def dm_.cx:Cx:=⟨tys,[],[],[],[],aw_,[.tmp 2]⟩
def dm_:=fF dm_.cx f202
theorem Bj_:as_ dm_.cx f202 (k+1) [s] H Q=aZ 1 (sz s) (dv Q (sz s) 6 H) (aT Q H):=zz
theorem kH_:ao_ prog 202 (dm_):=sO eN nO func202
def cn_.cx:Cx:=⟨tys,[],[],[],[],aw_,[.tmp 2]⟩
def cn_:=fF cn_.cx f203
theorem xW_:as_ cn_.cx f203 (k+1) [s] H Q=dv Q (sz s) 10 H:=zz
theorem iw_:ao_ prog 203 (cn_):=sO eN nO func203
def dI_.cx:Cx:=⟨tys,[],[],[],[],aw_,[.tmp 2]⟩
def dI_:=fF dI_.cx f290
theorem AJ_:as_ dI_.cx f290 (k+1) [i] H Q=aZ 1 i (cO Q (ltI i 48) H) (aT Q H):=zz
theorem oo_:ao_ prog 290 (dI_):=sO eN nO func290
def hB_.cx:Cx:=⟨tys,[],[],[],[(287,cI_),(288,(ej_ (cO_ [(202,dm_),(203,cn_),(290,dI_)]))),(289,(gU_ (cO_ [(202,dm_),(203,cn_),(290,dI_)]))),(291,(go_ (cO_ [(202,dm_),(203,cn_),(290,dI_)])))],aw_,[.tmp 2]⟩
def hB_:=fF hB_.cx f283
theorem zV_:as_ hB_.cx f283 (k+1) [.agg [b,c,.sl x n 1,.sl y m 1,.sl z l 1]] H Q=aK b (aT Q H) (dk cI_ [nL x n 1] H Q (λa=>dk (ej_ (cO_ [(202,dm_),(203,cn_),(290,dI_)])) [nL x n 1,.g (.fn 202 [])] a Q λa=>b1_ c (eI m (nI n) (eI l 0 (cy (ej_ (cO_ [(202,dm_),(203,cn_),(290,dI_)])) [nL y m 1,.g (.fn 203 [])] a Q) (aT Q a)) (aT Q a)) (aZ 1 (nI n) (eI m 0 (eI l (ac_ .i64 (nI n+1)) (ba (gU_ (cO_ [(202,dm_),(203,cn_),(290,dI_)])) [nL z l 1,.g (.fn 290 [])] a (λa b=>b1_ b (cy (go_ (cO_ [(202,dm_),(203,cn_),(290,dI_)])) [nL z l 1] a Q) (aT Q a))) (aT Q a)) (aT Q a)) (aT Q a)))):=zz
theorem rr_:ao_ prog 283 (hB_):=sO (eZ vD_ func287 (dK_.cons ((qv_ (cO_ [(202,dm_),(203,cn_),(290,dI_)]) (gw_ (eZ kH_ func202 (eZ iw_ func203 (eZ oo_ func290 eN))))).c ⟨_,func288,by kernel_rfl,by kernel_rfl⟩) (dK_.cons ((uK_ (cO_ [(202,dm_),(203,cn_),(290,dI_)]) (gw_ (eZ kH_ func202 (eZ iw_ func203 (eZ oo_ func290 eN))))).c ⟨_,func289,by kernel_rfl,by kernel_rfl⟩) (dK_.cons ((xb_ (cO_ [(202,dm_),(203,cn_),(290,dI_)]) (gw_ (eZ kH_ func202 (eZ iw_ func203 (eZ oo_ func290 eN))))).c ⟨_,func291,by kernel_rfl,by kernel_rfl⟩) eN)))) nO func283
def g8_.cx:Cx:=⟨tys,[],[],[],[(283,hB_)],aw_,[.tmp 2]⟩
def g8_:=fF g8_.cx f268
theorem t1_:ao_ prog 268 (g8_):=sO (eZ rr_ func283 eN) nO func268
def be_.cx:Cx:=⟨tys,[],[(2,[2,7,8,9])],[],[],aw_,[.tmp 4]⟩
def be_:=fF be_.cx f277
def be_.l2 k a b c d e f g:=aT_ (be_.cx) f277 2 k (.bad::.bad::.bx [.str a,.str b,.bool c]::B 4 (nL d e 1::gI f::gI g::B 19 []))
theorem ou_:as_ be_.cx f277 (k+1) [.agg [s,t,b],nL x n 1] H Q=be_.l2 k s t b x n (nI n) 0 H Q:=zz
theorem be_.l2_eq:be_.l2 (k+1) s t b x n i j H Q=aw j i (aH (leI 0 j&&ltI j (nI n)) x H (tN j*1) (λa=>b1_ (dE_ a s) (aT Q H) (aK b (aK (dE_ a t) (aT Q H) (be_.l2 k s t b x n i (ac_ .i64 (j+1)) H Q)) (be_.l2 k s t b x n i (ac_ .i64 (j+1)) H Q)))) (Q true H):=zz
theorem m9_:ao_ prog 277 (be_):=sO eN nO func277
def bE_.cx:Cx:=⟨tys,[],[],[(3,[0,1,2])],[],aw_,[.tmp 6]⟩
def bE_:=fF bE_.cx f278
def bE_.l3 k a b c:=aT_ (bE_.cx) f278 3 k (gP a::gP b::gI c::B 31 [])
theorem p6_:as_ bE_.cx f278 (k+1) [x,y,i] H Q=pS x λa b=>aq H a (b+2) λa=>aw a 0 (pS x (λa b=>wr H a (b+2) i λa=>bE_.l3 k x y i a Q)) (bE_.l3 k x y i H Q):=zz
theorem bE_.l3_eq:bE_.l3 (k+1) x y i H Q=pS x λa b=>aq H a (b+3) λa=>cI y H 1 λ_ b=>pS x λc d=>wr H c (d+3) (ac_ .i64 (a+nI b)) λa=>pS x λb c=>aq a b (c+2) λb=>da Q b i a:=zz
theorem pK_:ao_ prog 278 (bE_):=sO eN nO func278
def bo_.cx:Cx:=⟨tys,[],[],[(3,[1,2,3,6])],[],aw_,[.cell 6 307]⟩
def bo_:=fF bo_.cx f279
def bo_.l3 k a b c d e f g h i:=aT_ (bo_.cx) f279 3 k (.bad::nL a b 1::gI c::.bx [.str d,.str e,.bool f]::.bad::.bad::.bx [.str g,.str h,.bool i]::B 19 [])
theorem mQ_:as_ bo_.cx f279 (k+1) [.agg [s,t,b],nL x n 1,i] H Q=aw 0 i (aH (leI 0 (ac_ .i64 (i-1))&&ltI (ac_ .i64 (i-1)) (nI n)) x H (tN (ac_ .i64 (i-1))*1) (λa=>bo_.l3 k x n i a t b (mkS []) (mkS []) false H Q)) (bo_.l3 k x n i s t b (mkS []) (mkS []) false H Q):=zz
theorem bo_.l3_eq:bo_.l3 (k+1) x n i s t b r S c H Q=bX i n (aH (leI 0 i&&ltI i (nI n)) x H (tN i*1) (λa=>en Q [s,a,false] H)) (en Q [s,t,b] H):=zz
theorem mN_:ao_ prog 279 (bo_):=sO eN nO func279
def aB_.cx S:=(⟨tys,[],[(8,[0,2,7,9,70,71,72])],[],[(268,g8_),(277,be_),(278,bE_),(279,bo_),(259,S)],aw_,[.tmp 8]⟩:Cx)
def aB_.st S:=fF (aB_.cx S) f259
def aB_.l8 S k a b c d e f g h i j l:=aT_ (aB_.cx S) f259 8 k (gP a::.bad::gI b::B 4 (.bx [.str c,.str d,.bool e]::.bad::.g (.ptr (some (f,g)))::B 60 (nL h i 1::gI j::gI l::B 18 [])))
theorem pi_:as_ (aB_.cx F) f259 (k+1) [x,i,j,.agg [s,t,b]] H Q=cD x H 5 0 i i λa c=>dg x H 1 0 i i λd e=>cK H d (e+tN i*1) (aT Q H) (aD H a (c+tN i*5) (λd=>aD H a (c+tN i*5+1) λe=>bn H a (c+tN i*5+1+1) 1 H a (c+tN i*5+1+1+1) 1 λf g h l=>dJ H a (c+tN i*5+1+1+1+1) λm n=>dk g8_ [.agg [d,e,.sl f g 1,.sl h l 1,.sl m n 1]] H Q λd=>aw 0 i (dJ d a (c+tN i*5+2) (λ_ e=>dq (nI e) 2 Q d (dJ d a (c+tN i*5+2) (λe f=>dk be_ [.agg [s,t,b],nL e f 1] d Q λd=>dg x d 1 0 i i λe f=>wr d e (f+tN i*1) true λd=>cK d a (c+tN i*5+1) (cy bE_ [x,.g (.ptr (some (a,c+tN i*5))),j] d Q) (dJ d a (c+tN i*5+4) (λe f=>aB_.l8 F k x j s t b a (c+tN i*5) e f (nI f) 0 d Q)))))) (dJ d a (c+tN i*5+2) (λe f=>dk be_ [.agg [s,t,b],nL e f 1] d Q λd=>dg x d 1 0 i i λe f=>wr d e (f+tN i*1) true λd=>cK d a (c+tN i*5+1) (cy bE_ [x,.g (.ptr (some (a,c+tN i*5))),j] d Q) (dJ d a (c+tN i*5+4) (λe f=>aB_.l8 F k x j s t b a (c+tN i*5) e f (nI f) 0 d Q)))))):=zz
theorem aB_.l8_eq:aB_.l8 F (k+1) x i s t b n m y l j h H Q=aw h j (aJ (leI 0 h&&ltI h (nI l)) y H (tN h*1) (λa=>dJ H n (m+2) λc d=>bh bo_ [.agg [s,t,b],nL c d 1,h] H λc d=>aO d λd e=>aO d λd f=>aP d λd g=>uN d (dk F [x,a,ac_ .i64 (i+1),.agg [e,f,g]] c Q (λa=>aB_.l8 F k x i s t b n m y l j (ac_ .i64 (h+1)) a Q)))) (Q true H):=zz
theorem aB_.st_ok(S:Sm)(hS:c4_ prog 259 S):ao_ prog 259 (aB_.st S):=l8_.sound (cx:=aB_.cx S) rfl (eZ t1_ func268 (eZ m9_ func277 (eZ pK_ func278 (eZ mN_ func279 (dK_.cons hS eN))))) nO func259 rfl
def aB_.at:Nat->Sm
 |0=>λ_ _ _=>False
 |n+1=>aB_.st (aB_.at n)
def aB_:Sm:=λxs H Q=>∃n,aB_.at n xs H Q
theorem aB_.at_ok:∀n,ao_ prog 259 (aB_.at n)
 |0=>λ_ _ _ h=>h.elim
 |n+1=>aB_.st_ok _ ((aB_.at_ok n).c ⟨_,func259,by kernel_rfl,by kernel_rfl⟩)
theorem pk_:ao_ prog 259 (aB_):=ao_.ex (aB_.at_ok)
def fM_.cx:Cx:=⟨tys,[],[],[],[],aw_,[.tmp 2]⟩
def fM_:=fF fM_.cx f280
theorem uh_:as_ fM_.cx f280 (k+1) [.agg [b,c,.sl x n 1,.sl y m 1,.sl z l 1]] H Q=aK b (aK c (da Q (ac_ .i64 (ac_ .i64 (nI n+nI m)+nI l)) 0 H) (aT Q H)) (aT Q H):=zz
theorem uT_:ao_ prog 280 (fM_):=sO eN nO func280
def bF_.cx:Cx:=⟨tys,[],[(2,[0,8,9,10])],[],[(280,fM_)],aw_,[.tmp 2]⟩
def bF_:=fF bF_.cx f260
def bF_.l2 k a b c d e:=aT_ (bF_.cx) f260 2 k (gP a::B 7 (nL b c 5::gI d::gI e::B 18 []))
theorem qn_:as_ bF_.cx f260 (k+1) [x] H Q=bw x H 5 λa b=>bF_.l2 k x a b (nI b) 0 H Q:=zz
theorem bF_.l2_eq:bF_.l2 (k+1) x y n i j H Q=aw j i (bV (leI 0 j&&ltI j (nI n)) y H (tN j*5) H (tN j*5) H (tN j*5) 1 H (tN j*5) 1 H (tN j*5) 1 (λa b c d e f g h=>dg x H 1 0 j j λl m=>rd H l (m+tN j*1) λl=>aj l (dk fM_ [.agg [a,b,.sl c d 1,.sl e f 1,.sl g h 1]] H Q (λa=>bF_.l2 k x y n i (ac_ .i64 (j+1)) a Q)) (bF_.l2 k x y n i (ac_ .i64 (j+1)) H Q))) (Q true H):=zz
theorem pF_:ao_ prog 260 (bF_):=sO (eZ uT_ func280 eN) nO func260
def hp_.cx:Cx:=⟨tys,[14,16],[],[],[(259,aB_),(260,bF_)],aw_,[.tmp 2]⟩
def hp_:=fF hp_.cx f233
theorem xG_:as_ hp_.cx f233 (k+1) [x] H Q=bw x H 5 λ_ a=>bg (nI a) 48 (Q (nN 0) H) (pS x (λa b=>bn H a (b+0) 5 (pu H (.row true 4 (k8_ (tN 48) [.bool false]))) a (b+0) 5 λa b c d=>eqv (nL a b 5) (nL c d 5) (ac aB_ [.g (.ptr (some (ln (pu H (.row true 4 (k8_ (tN 48) [.bool false]))),0))),nN 0,nN 1,.agg [mkS [],mkS [],true]] (pu (pu H (.row true 4 (k8_ (tN 48) [.bool false]))) (.row true 304 [.sl a b 5,.sl (some (ln H,0)) (tN 48) 1,.int .i64 (-1),nN 0])) (λa b=>aj b (Q (nN 0) a) (ac bF_ [.g (.ptr (some (ln (pu H (.row true 4 (k8_ (tN 48) [.bool false]))),0)))] a (λa b=>aj b (Q (nN 0) a) (aq a (ln (pu H (.row true 4 (k8_ (tN 48) [.bool false])))) 3 (λb=>aw 60 b (Q (nN 0) a) (aq a (ln (pu H (.row true 4 (k8_ (tN 48) [.bool false])))) 2 (λb=>Q b a)))))))))):=zz
theorem xN_:ao_ prog 233 (hp_):=sO (eZ pk_ func259 (eZ pF_ func260 eN)) nO func233
def d5_.cx:Cx:=⟨tys,[1],[],[],[(233,hp_)],aw_,[.tmp 2]⟩
def d5_:=fF d5_.cx f201
theorem wB_:as_ d5_.cx f201 (k+1) [.agg [.sl x n 5]] H Q=aG hp_ [.g (.ptr (some (ln H,0)))] (pu H (.row true 24 [.sl x n 5])) λa b=>cO Q (ltI 0 b) a:=zz
theorem jI_:ao_ prog 201 (d5_):=sO (eZ xN_ func233 eN) nO func201
def bh_.cx(E:Nat->Sm)(S:Sm):Cx:=⟨tys,[],[(2,[0,2,6,20,21,22]),(7,[2,6,34,35,36])],[],[(214,S)],E,[]⟩
def bh_.st(E:Nat->Sm)(S:Sm):Sm:=λxs H Q=>∃k,as_ (bh_.cx E S) f214 k xs H Q
def bh_.l2(E:Nat->Sm)(S:Sm)(k:Nat)(xx0:Pl)(nx1:Nat)(cx2:List (Nat × Nat))(nx3:Nat)(nx4:Nat)(xx5:Pl)(nx6:Nat)(ix7:Int)(ix8:Int)(H:Hp)(Q:Post):Prop:=aT_ (bh_.cx E S) f214 2 k ((.g (.ptr xx0)):: .bad::(.g (.fn nx1 cx2))::B 3 ((.g (.ptr (some (nx3,nx4))))::B 13 ((.g (.sl xx5 nx6 1))::(.g (.int .i64 ix7))::(.g (.int .i64 ix8))::B 30 ([])))) H Q
def bh_.l7(E:Nat->Sm)(S:Sm)(k:Nat)(nx0:Nat)(cx1:List (Nat × Nat))(nx2:Nat)(nx3:Nat)(xx4:Pl)(nx5:Nat)(ix6:Int)(ix7:Int)(H:Hp)(Q:Post):Prop:=aT_ (bh_.cx E S) f214 7 k (.bad:: .bad::(.g (.fn nx0 cx1))::B 3 ((.g (.ptr (some (nx2,nx3))))::B 27 ((.g (.sl xx4 nx5 1))::(.g (.int .i64 ix6))::(.g (.int .i64 ix7))::B 16 ([])))) H Q
theorem z3_:as_ (bh_.cx E F) f214 (k+1) [x,i,.g (.fn n p)] H Q=cD x H 5 0 i i λa b=>dJ H a (b+tN i*5+4) λc d=>bh_.l2 E F k x n p a (b+tN i*5) c d (nI d) 0 H Q:=zz
theorem bh_.l2_eq:bh_.l2 E F (k+1) x n p m l y o i j H Q=aw j i (aJ (leI 0 j&&ltI j (nI o)) y H (tN j*1) (λa=>cl F [x,a,.g (.fn n p)] H λ_ a=>bh_.l2 E F k x n p m l y o i (ac_ .i64 (j+1)) a Q)) (dJ H m (l+3) (λa b=>bh_.l7 E F k n p m l a b (nI b) 0 H Q)):=zz
theorem bh_.l7_eq:bh_.l7 E F (k+1) n p m l x o i j H Q=aw j i (aH (leI 0 j&&ltI j (nI o)) x H (tN j*1) (λa=>cQ H m (l+2) 1 0 j j λb c=>ah H b (c+tN j*1) λb=>cl (E n) (cpl [.agg [.str b,.str a]] p) H λ_ a=>bh_.l7 E F k n p m l x o i (ac_ .i64 (j+1)) a Q)) (ax Q [] H):=zz
theorem bh_.st_ok(E:Nat->Sm)(hE:∀f,c4_ prog f (E f))(S:Sm)(hS:c4_ prog 214 S):ao_ prog 214 (bh_.st E S):=l8_.sound (cx:=bh_.cx E S) rfl (dK_.cons hS eN) hE func214 rfl
def bh_.at(E:Nat->Sm):Nat->Sm
 |0=>λ_ _ _=>False
 |n+1=>bh_.st E (bh_.at E n)
def bh_(E:Nat->Sm):Sm:=λxs H Q=>∃n,bh_.at E n xs H Q
theorem bh_.at_ok(E:Nat->Sm)(hE:∀f,c4_ prog f (E f)):∀n,ao_ prog 214 (bh_.at E n)
 |0=>λ_ _ _ h=>h.elim
 |n+1=>bh_.st_ok E hE _ ((bh_.at_ok E hE n).c ⟨_,func214,by kernel_rfl,by kernel_rfl⟩)
theorem z1_(E:Nat->Sm)(hE:∀f,c4_ prog f (E f)):ao_ prog 214 (bh_ E):=ao_.ex (bh_.at_ok E hE)
def ex_.cx:Cx:=⟨tys,[],[],[],[],aw_,[]⟩
def ex_:=fF ex_.cx f215
theorem ux_:as_ ex_.cx f215 (k+1) [.agg [s,t],.g (.ptr (some (n,m))),.g (.ptr (some (l,o))),.g (.ptr (some (N,M)))] H Q=ah H n m λa=>aK (dE_ s a) (ah H l o (λa=>dY a [] (aa H N M 2 (λa b=>dD H 131 2 32 a b [s,t] λa b c=>bt c N M (.sl a b 2) Q [])) (ah H l o (λa=>b1_ (dE_ s a) (aa H N M 2 (λa b=>dD H 131 2 32 a b [s,t] λa b c=>bt c N M (.sl a b 2) Q [])) (ax Q [] H))))) (ax Q [] H):=zz
theorem uw_:ao_ prog 215 (ex_):=sO eN nO func215
def hr_.cx:Cx:=⟨tys,[3,4,5,8],[],[],[(201,d5_),(214,(bh_ (cO_ [(215,ex_)])))],aw_,[.tmp 6,.tmp 7]⟩
def hr_:=fF hr_.cx f170
theorem x3_:as_ hr_.cx f170 (k+1) [.agg [.sl x n 5],s,t] H Q=aa (pu (pu (pu H (.row true 24 [.sl x n 5])) (.row true 9 [s])) (.row true 9 [t])) (ln H) 0 5 λa b=>bq d5_ [.agg [.sl a b 5]] (pu (pu (pu H (.row true 24 [.sl x n 5])) (.row true 9 [s])) (.row true 9 [t])) Q [.s (.sl none 0 2),nN 1400] λa=>cl (bh_ (cO_ [(215,ex_)])) [.g (.ptr (some (ln H,0))),nN 0,.g (.fn 215 [(ln (pu H (.row true 24 [.sl x n 5])),0),(ln (pu (pu H (.row true 24 [.sl x n 5])) (.row true 9 [.str s])),0),(ln a,0)])] (pu a (.row true 95 [.sl none 0 2])) λ_ b=>aa b (ln a) 0 2 λa c=>ax Q [.s (.sl a c 2),nN 0] b:=zz
theorem xr_:ao_ prog 170 (hr_):=sO (eZ jI_ func201 (dK_.cons ((z1_ (cO_ [(215,ex_)]) (gw_ (eZ uw_ func215 eN))).c ⟨_,func214,by kernel_rfl,by kernel_rfl⟩) eN)) nO func170
def h1_.cx:Cx:=⟨tys,[],[],[],[(170,hr_)],aw_,[.tmp 2,.tmp 3]⟩
def h1_:=fF h1_.cx f130
theorem A6_:as_ h1_.cx f130 (k+1) [.agg [.sl x n 5]] H Q=bM hr_ [.agg [.sl x n 5],mkS [],mkS []] H 2 λa b c d=>bc b λb=>ax Q [.s (.sl c d 2),b] a:=zz
theorem tL_:ao_ prog 130 (h1_):=sO (eZ xr_ func170 eN) nO func130
def kd_.cx:Cx:=⟨tys,[],[],[],[],aw_,[.tmp 6]⟩
def kd_:=fF kd_.cx f216
theorem Fn_:as_ kd_.cx f216 (k+1) [s,.g (.int .u8 i),j] H Q=aZ j (sz s) (chk (leI 0 0&&ltI 0 (sz s)) (da Q (byt s (tN 0)) i H)) (aT Q H):=zz
theorem sa_:ao_ prog 216 (kd_):=sO eN nO func216
def dj_.cx:Cx:=⟨tys,[],[(2,[0,1,8,9])],[],[],aw_,[.tmp 4]⟩
def dj_:=fF dj_.cx f105
def dj_.l2 k a b c d:=aT_ (dj_.cx) f105 2 k (gS a::gI b::B 6 (gI c::gI d::B 28 []))
theorem Bi_:as_ dj_.cx f105 (k+1) [s,i] H Q=dj_.l2 k s i (sz s) 0 H Q:=zz
theorem dj_.l2_eq:dj_.l2 (k+1) s i j h H Q=aw h j (chk (leI 0 h&&ltI h (sz s)) (aw (byt s (tN h)) 97 (dq (byt s (tN h)) 48 Q H (dq 57 (byt s (tN h)) Q H (dj_.l2 k s i j (ac_ .i64 (h+1)) H Q))) (aw 122 (byt s (tN h)) (dq (byt s (tN h)) 48 Q H (dq 57 (byt s (tN h)) Q H (dj_.l2 k s i j (ac_ .i64 (h+1)) H Q))) (dj_.l2 k s i j (ac_ .i64 (h+1)) H Q)))) (dZ s [] (dv Q (sz s) i H) (aT Q H)):=zz
theorem t7_:ao_ prog 105 (dj_):=sO eN nO func105
def cU_.cx:Cx:=⟨tys,[],[],[],[(105,dj_)],aw_,[.tmp 2]⟩
def cU_:=fF cU_.cx f103
theorem xz_:as_ cU_.cx f103 (k+1) [s] H Q=cy dj_ [s,nN 4] H Q:=zz
theorem f5_:ao_ prog 103 (cU_):=sO (eZ t7_ func105 eN) nO func103
def jK_.cx:Cx:=⟨tys,[],[],[],[(216,kd_),(103,cU_)],aw_,[.tmp 2,.tmp 3]⟩
def jK_:=fF jK_.cx f171
theorem AN_:as_ jK_.cx f171 (k+1) [s] H Q=bq kd_ [s,.g (.int .u8 115),nN 1] H Q [mkS [],false] λa=>chk (leN (tN 1) (szN s)&&leN (szN s) (szN s)) (bq cU_ [sub s (tN 1) (szN s)] a Q [mkS [],false] (λa=>chk (leN (tN 1) (szN s)&&leN (szN s) (szN s)) (ax Q [sub s (tN 1) (szN s),true] a))):=zz
theorem B8_:ao_ prog 171 (jK_):=sO (eZ sa_ func216 (eZ f5_ func103 eN)) nO func171
def gD_.cx:Cx:=⟨tys,[],[],[],[],aw_,[.tmp 2]⟩
def gD_:=fF gD_.cx f218
theorem Ff_:as_ gD_.cx f218 (k+1) [i] H Q=aZ 1 i (dv Q i 255 H) (aT Q H):=zz
theorem jy_:ao_ prog 218 (gD_):=sO eN nO func218
def gV_.cx:Cx:=⟨tys,[],[],[],[],aw_,[.tmp 2]⟩
def gV_:=fF gV_.cx f178
theorem z0_:as_ gV_.cx f178 (k+1) [i] H Q=aZ 0 i (dv Q i 2 H) (aT Q H):=zz
theorem qW_:ao_ prog 178 (gV_):=sO eN nO func178
def fP_.cx:Cx:=⟨tys,[],[],[],[],aw_,[.tmp 2]⟩
def fP_:=fF fP_.cx f146
theorem pl_:ao_ prog 146 (fP_):=sO eN nO func146
def hU_.cx:Cx:=⟨tys,[],[],[],[(218,gD_),(178,gV_),(103,cU_),(146,fP_)],aw_,[.tmp 2]⟩
def hU_:=fF hU_.cx f217
theorem AM_:as_ hU_.cx f217 (k+1) [.agg [i,j,s,t]] H Q=ba gD_ [i] H λa b=>b1_ b (ba gV_ [j] a (λa b=>b1_ b (dY s [] (cy fP_ [t] a Q) (ba cU_ [s] a (λa b=>b1_ b (cy fP_ [t] a Q) (aT Q a)))) (aT Q a))) (aT Q a):=zz
theorem t9_:ao_ prog 217 (hU_):=sO (eZ jy_ func218 (eZ qW_ func178 (eZ f5_ func103 (eZ pl_ func146 eN)))) nO func217
def jZ_.cx:Cx:=⟨tys,[],[],[],[(217,hU_)],aw_,[.cell 2 81,.tmp 3]⟩
def jZ_:=fF jZ_.cx f172
theorem BX_:as_ jZ_.cx f172 (k+1) [s] H Q=ep (sz s) 3 Q [.a [nN 0,nN 0,mkS [],mkS []],nN 1700] H (chk (leI 0 2&&ltI 2 (sz s)) (ep (ac_ .i64 (sz s-3)) (ac_ .i64 (byt s (tN 2))) Q [.a [nN 0,nN 0,mkS [],mkS []],nN 1700] H (ae (leI 0 2&&ltI 2 (sz s)) (leI 0 0&&ltI 0 (sz s)) (ae (leI 0 1&&ltI 1 (sz s)) (leI 0 (ac_ .i64 (3+ac_ .i64 (byt s (tN 2))))) (ae (leN (tN 3) (tN (ac_ .i64 (3+ac_ .i64 (byt s (tN 2)))))&&leN (tN (ac_ .i64 (3+ac_ .i64 (byt s (tN 2))))) (szN s)) (leI 0 (ac_ .i64 (3+ac_ .i64 (byt s (tN 2))))) (chk (leN (tN (ac_ .i64 (3+ac_ .i64 (byt s (tN 2))))) (szN s)&&leN (szN s) (szN s)) (bq hU_ [.agg [ac_ .i64 (byt s (tN 0)),ac_ .i64 (byt s (tN 1)),sub s (tN 3) (tN (ac_ .i64 (3+ac_ .i64 (byt s (tN 2))))),sub s (tN (ac_ .i64 (3+ac_ .i64 (byt s (tN 2))))) (szN s)]] H Q [.a [nN 0,nN 0,mkS [],mkS []],nN 1700] (λa=>ax Q [.a [ac_ .i64 (byt s (tN 0)),ac_ .i64 (byt s (tN 1)),sub s (tN 3) (tN (ac_ .i64 (3+ac_ .i64 (byt s (tN 2))))),sub s (tN (ac_ .i64 (3+ac_ .i64 (byt s (tN 2))))) (szN s)],nN 0] a)))))))):=zz
theorem AO_:ao_ prog 172 (jZ_):=sO (eZ t9_ func217 eN) nO func172
def dd_.cx:Cx:=⟨tys,[],[],[],[(105,dj_)],aw_,[.tmp 2]⟩
def dd_:=fF dd_.cx f49
theorem x4_:as_ dd_.cx f49 (k+1) [s] H Q=cy dj_ [s,nN 3] H Q:=zz
theorem he_:ao_ prog 49 (dd_):=sO (eZ t7_ func105 eN) nO func49
def jJ_.cx:Cx:=⟨tys,[],[],[],[(216,kd_),(218,gD_),(49,dd_)],aw_,[.tmp 2,.tmp 3,.tmp 4]⟩
def jJ_:=fF jJ_.cx f173
theorem An_:as_ jJ_.cx f173 (k+1) [s] H Q=bq kd_ [s,.g (.int .u8 102),nN 2] H Q [nN 0,mkS [],false] λa=>chk (leI 0 1&&ltI 1 (sz s)) (bq gD_ [ac_ .i64 (byt s (tN 1))] a Q [nN 0,mkS [],false] (λa=>chk (leN (tN 2) (szN s)&&leN (szN s) (szN s)) (bq dd_ [sub s (tN 2) (szN s)] a Q [nN 0,mkS [],false] (λa=>ae (leI 0 1&&ltI 1 (sz s)) (leN (tN 2) (szN s)&&leN (szN s) (szN s)) (ax Q [ac_ .i64 (byt s (tN 1)),sub s (tN 2) (szN s),true] a))))):=zz
theorem AR_:ao_ prog 173 (jJ_):=sO (eZ sa_ func216 (eZ jy_ func218 (eZ he_ func49 eN))) nO func173
def hm_.cx:Cx:=⟨tys,[],[],[],[(216,kd_),(218,gD_)],aw_,[.tmp 2,.tmp 3]⟩
def hm_:=fF hm_.cx f174
theorem x6_:as_ hm_.cx f174 (k+1) [s] H Q=bq kd_ [s,.g (.int .u8 105),nN 2] H Q [nN 0,false] λa=>cp (sz s) 2 Q [nN 0,false] a (chk (leI 0 1&&ltI 1 (sz s)) (bq gD_ [ac_ .i64 (byt s (tN 1))] a Q [nN 0,false] (λa=>chk (leI 0 1&&ltI 1 (sz s)) (ax Q [ac_ .i64 (byt s (tN 1)),true] a)))):=zz
theorem xT_:ao_ prog 174 (hm_):=sO (eZ sa_ func216 (eZ jy_ func218 eN)) nO func174
def ds_.cx:Cx:=⟨tys,[],[],[],[],aw_,[.tmp 2]⟩
def ds_:=fF ds_.cx f111
theorem in_:ao_ prog 111 (ds_):=sO eN nO func111
def gY_.cx:Cx:=⟨tys,[],[],[],[(218,gD_),(111,ds_)],aw_,[.tmp 2]⟩
def gY_:=fF gY_.cx f219
theorem yZ_:as_ gY_.cx f219 (k+1) [.agg [i,s]] H Q=ba gD_ [i] H λa b=>b1_ b (cy ds_ [s] a Q) (aT Q a):=zz
theorem rS_:ao_ prog 219 (gY_):=sO (eZ jy_ func218 (eZ in_ func111 eN)) nO func219
def ia_.cx:Cx:=⟨tys,[],[],[],[(219,gY_)],aw_,[.cell 2 63,.tmp 3]⟩
def ia_:=fF ia_.cx f175
theorem zl_:as_ ia_.cx f175 (k+1) [s] H Q=dY s [] (ax Q [.a [nN 0,mkS []],nN 1800] H) (ae (leI 0 0&&ltI 0 (sz s)) (leN (tN 1) (szN s)&&leN (szN s) (szN s)) (bq gY_ [.agg [ac_ .i64 (byt s (tN 0)),sub s (tN 1) (szN s)]] H Q [.a [nN 0,mkS []],nN 1800] (λa=>ax Q [.a [ac_ .i64 (byt s (tN 0)),sub s (tN 1) (szN s)],nN 0] a))):=zz
theorem y9_:ao_ prog 175 (ia_):=sO (eZ rS_ func219 eN) nO func175
def dw_.cx:Cx:=⟨tys,[],[],[],[(171,jK_),(172,jZ_),(173,jJ_),(174,hm_),(175,ia_)],aw_,[.tmp 4]⟩
def dw_:=fF dw_.cx f131
theorem nl_:as_ dw_.cx f131 (k+1) [x,.agg [s,t]] H Q=bF jK_ [s] H λa b c=>bD b λb=>b1_ b (bf jZ_ [t] a (λa b d=>aM d λd e=>aM d λd f=>aO d λd g=>cM d λd=>bc b λb=>bP x a λh=>dA a h [.str] c (.a [e,f,g,d]) λa=>da Q b 0 a)) (bz jJ_ [s] a (λa b c=>af b λb d=>dS d λd=>bD b λb=>b1_ b (bg (sz t) 2 (aT Q a) (chk (leI 0 1&&ltI 1 (sz t)) (dq 1 (byt t (tN 1)) Q a (bO x a (λb=>ae (leI 0 0&&ltI 0 (sz t)) (leI 0 1&&ltI 1 (sz t)) (x5_ a b true [.int .i64,.str] (.a [c,d]) (.a [ac_ .i64 (byt t (tN 0)),.bool (eqI (byt t (tN 1)) 1)]) (λa=>Q true a))))))) (cd hm_ [s] a (λa b c=>bf ia_ [t] a λa d e=>aM e λe f=>cM e λe=>bc d λd=>bv x a λg=>dA a g [.int .i64] b (.a [f,e]) λa=>b1_ c (da Q d 0 a) (aT Q a))))):=zz
theorem on_:ao_ prog 131 (dw_):=sO (eZ B8_ func171 (eZ AO_ func172 (eZ AR_ func173 (eZ xT_ func174 (eZ y9_ func175 eN))))) nO func131
def aD_.cx:Cx:=⟨tys,[],[(3,[0,3,13]),(7,[0,3,27]),(1000016,[136]),(1000030,[137])],[],[],aw_,[.tmp 2]⟩
def aD_:=fF aD_.cx f132
def aD_.l3 k a b c d:=aT_ (aD_.cx) f132 3 k (gP a::.bad::.bad::gM b::B 9 (.g (.ptr (some (c,d)))::B 33 []))
def aD_.l7 k a b c d:=aT_ (aD_.cx) f132 7 k (gP a::.bad::.bad::gM b::B 23 (.g (.ptr (some (c,d)))::B 19 []))
theorem lJ_:as_ aD_.cx f132 (k+1) [x] H Q=bO x (pu H (.map [] 0)) λa=>rng (pu H (.map [] 0)) a λa=>aD_.l3 k x (some (ln H)) (ln (pu H (.map [] 0))) 0 a Q:=zz
theorem aD_.l3_eq:aD_.l3 (k+1) x a n m H Q=cE H n m n m (λb=>bv x b λc=>rng b c λc=>aD_.l7 k x a (ln b) 0 c Q) λb c d=>bk c λc _=>cR c (bk d (λc d=>d6 c (cT b a [.int .i64] d (nN 0) (λc _=>rS c λc=>ai c λc=>dA b a [.int .i64] d (ac_ .i64 (c+1)) λb=>aD_.l3 k x a n m b Q)))):=zz
theorem aD_.l7_eq:aD_.l7 (k+1) x a n m H Q=cE H n m n m (λb=>oS_ b a λa=>bv x b λc=>oS_ b c λc=>da Q (nI a) (nI c) b) λb c d=>rS c λc=>ai c λc=>bk d λd e=>cR d (cT b a [.int .i64] c (nN 0) (λc _=>rS c λc=>ai c λc=>bg c e (aT Q b) (aD_.l7 k x a n m b Q))):=zz
theorem mb_:ao_ prog 132 (aD_):=sO eN nO func132
def bp_.cx:Cx:=⟨tys,[],[(3,[0,3,11]),(1000014,[135])],[],[],aw_,[.tmp 2]⟩
def bp_:=fF bp_.cx f133
def bp_.l3 k a b c d:=aT_ (bp_.cx) f133 3 k (gP a::.bad::.bad::gM b::B 7 (.g (.ptr (some (c,d)))::B 15 []))
theorem mK_:as_ bp_.cx f133 (k+1) [x] H Q=bP x (pu H (.map [] 0)) λa=>rng (pu H (.map [] 0)) a λa=>bp_.l3 k x (some (ln H)) (ln (pu H (.map [] 0))) 0 a Q:=zz
theorem bp_.l3_eq:bp_.l3 (k+1) x a n m H Q=cE H n m n m (λb=>oS_ b a λa=>bP x b λc=>oS_ b c λc=>da Q (nI a) (nI c) b) λb c d=>dh c λ_=>bk d λc d=>d7 c λc _=>cR c (dA b a [.int .i64] d true (λb=>bp_.l3 k x a n m b Q)):=zz
theorem m0_:ao_ prog 133 (bp_):=sO eN nO func133
def aW_.cx E:=(⟨tys,[1],[],[],[],E,[.tmp 2]⟩:Cx)
def aW_ E:=fF (aW_.cx E) f176
theorem ff_:as_ (aW_.cx E) f176 (k+1) [.g (.map a)] H Q=cN Q (.fn 220 [(ln H,0)]) (pu H (.row true 135 [.map a])):=zz
theorem fg_(E)(h:eE E):ao_ prog 176 (aW_ E):=sO eN h func176
def al_.cx E:=(⟨tys,[],[(3,[0,1,2,8,9,10])],[],[],E,[.tmp 6,.tmp 7]⟩:Cx)
def al_ E:=fF (al_.cx E) f106
def al_.l3 E k a b c d e f g h:=aT_ (al_.cx E) f106 3 k (nL a b 3::gS c::.g (.fn d e)::B 5 (gI f::gI g::gI h::B 38 []))
theorem ep_:as_ (al_.cx E) f106 (k+1) [nL x n 3,s,.g (.fn m p)] H Q=al_.l3 E k x n s m p (nI n) 0 (nI n) H Q:=zz
theorem al_.l3_eq:al_.l3 E (k+1) x n s m p i j h H Q=aw j h (bC (leI 0 (ac_ .i64 (oY_ .u64 (ac_ .u64 (ac_ .i64 (j+h))) 1))&&ltI (ac_ .i64 (oY_ .u64 (ac_ .u64 (ac_ .i64 (j+h))) 1)) (nI n)) x H (tN (ac_ .i64 (oY_ .u64 (ac_ .u64 (ac_ .i64 (j+h))) 1))*3) (λa b c=>ah H a (b+tN (ac_ .i64 (oY_ .u64 (ac_ .u64 (ac_ .i64 (j+h))) 1))*3+1) λd=>aD H a (b+tN (ac_ .i64 (oY_ .u64 (ac_ .u64 (ac_ .i64 (j+h))) 1))*3+1+1) λa=>aG (E m) (cpl [.agg [.str c,.str d,.bool a],.g (.str s)] p) H λa b=>aw b 0 (al_.l3 E k x n s m p i (ac_ .i64 (ac_ .i64 (oY_ .u64 (ac_ .u64 (ac_ .i64 (j+h))) 1)+1)) h a Q) (al_.l3 E k x n s m p i j (ac_ .i64 (oY_ .u64 (ac_ .u64 (ac_ .i64 (j+h))) 1)) a Q))) (aw j i (bC (leI 0 j&&ltI j (nI n)) x H (tN j*3) (λa b c=>ah H a (b+tN j*3+1) λd=>aD H a (b+tN j*3+1+1) λa=>aG (E m) (cpl [.agg [.str c,.str d,.bool a],.g (.str s)] p) H λa b=>ax Q [j,.s (.bool (eqI b 0))] a)) (ax Q [j,false] H)):=zz
theorem eu_(E)(h:eE E):ao_ prog 106 (al_ E):=sO eN h func106
def c3_.cx:Cx:=⟨tys,[],[],[],[(187,bytealg_abigenruntimecmpstring)],aw_,[.tmp 4]⟩
def c3_:=fF c3_.cx f155
theorem kL_:as_ c3_.cx f155 (k+1) [s,t] H Q=aG bytealg_abigenruntimecmpstring [s,t] H λa b=>Q b a:=zz
theorem k1_:ao_ prog 155 (c3_):=sO (dK_.cons (eX_) eN) nO func155
def c8_.cx:Cx:=⟨tys,[],[],[],[(155,c3_)],aw_,[.tmp 4]⟩
def c8_:=fF c8_.cx f108
theorem pL_:as_ c8_.cx f108 (k+1) [s,t] H Q=aG c3_ [s,t] H λa b=>Q b a:=zz
theorem jT_:ao_ prog 108 (c8_):=sO (eZ k1_ func155 eN) nO func108
def db_.cx:Cx:=⟨tys,[],[],[],[(108,c8_)],aw_,[.tmp 4]⟩
def db_:=fF db_.cx f107
theorem qa_:as_ db_.cx f107 (k+1) [.agg [s,t,b],r] H Q=aG c8_ [s,r] H λa b=>Q b a:=zz
theorem pX_:ao_ prog 107 (db_):=sO (eZ jT_ func108 eN) nO func107
def cF_.cx:Cx:=⟨tys,[],[],[],[(106,(al_ (cO_ [(107,db_)])))],aw_,[.tmp 4,.tmp 5]⟩
def cF_:=fF cF_.cx f50
theorem tt_:as_ cF_.cx f50 (k+1) [nL x n 3,s] H Q=cd (al_ (cO_ [(107,db_)])) [nL x n 3,s,.g (.fn 107 [])] H λa b c=>ax Q [b,c] a:=zz
theorem gT_:ao_ prog 50 (cF_):=sO (dK_.cons ((eu_ (cO_ [(107,db_)]) (gw_ (eZ pX_ func107 eN))).c ⟨_,func106,by kernel_rfl,by kernel_rfl⟩) eN) nO func50
def bj_.cx:Cx:=⟨tys,[],[(3,[0,1,5,14]),(1000017,[136]),(2000000,[5])],[],[(50,cF_),(112,slices_Insert__api_File_api_File)],aw_,[.tmp 4]⟩
def bj_:=fF bj_.cx f177
def bj_.l3 k a b c d e f:=aT_ (bj_.cx) f177 3 k (gP a::gI b::B 3 (nL c d 3::B 8 (.g (.ptr (some (e,f)))::B 34 [])))
theorem nx_:as_ bj_.cx f177 (k+1) [x,i] H Q=bO x H λa=>rng H a λa=>bj_.l3 k x i none 0 (ln H) 0 a Q:=zz
theorem bj_.l3_eq:bj_.l3 (k+1) x i y n m l H Q=cE H m l m l (λa=>dC Q y n 3 a) λa b c=>bk b λb d=>cM b λb=>bk c λc e=>aP c λc f=>uN c (bj d i (bz cF_ [nL y n 3,b] a (λa c d=>aU c λc _=>uE c (bv x a (λc=>dK a c [.int .i64] e (.a [nN 0,mkS []]) λc _=>cM c λc=>aC slices_Insert__api_File_api_File [nL y n 3,d,nL (some (ln a,0)) 1 3] (pu a (.row false 1000003 [b,c,f])) 3 λa b c=>bj_.l3 k x i b c m l a Q)))) (bj_.l3 k x i y n m l a Q)):=zz
theorem ot_:ao_ prog 177 (bj_):=sO (eZ gT_ func50 (dK_.cons (ey_) eN)) nO func177
def bu_.cx E:=(⟨tys,[],[(3,[0,3,12,13,14]),(2000000,[3])],[],[(176,(aW_ E)),(161,slices_Sorted_string),(177,bj_)],E,[.tmp 2]⟩:Cx)
def bu_ E:=fF (bu_.cx E) f134
def bu_.l3 E k a b c d e f g:=aT_ (bu_.cx E) f134 3 k (gP a::.bad::.bad::nL b c 5::B 8 (nL d e 1::gI f::gI g::B 26 []))
theorem nA_:as_ (bu_.cx E) f134 (k+1) [x] H Q=bP x H λa=>ac (aW_ E) [.g (.map a)] H λa b=>aC slices_Sorted_string [b] a 1 λa b c=>bu_.l3 E k x none 0 b c (nI c) 0 a Q:=zz
theorem bu_.l3_eq:bu_.l3 E (k+1) x y n z m i j H Q=aw j i (aH (leI 0 j&&ltI j (nI m)) z H (tN j*1) (λa=>bP x H λb=>dK H b [.str] a (.a [nN 0,nN 0,mkS [],mkS []]) λb c=>aM b λb d=>aO b λb e=>cM b λb=>aC bj_ [x,c] H 3 λc f g=>dD c 52 5 80 y n [a,d,e,b,.sl f g 3] λa b c=>bu_.l3 E k x a b z m i (ac_ .i64 (j+1)) c Q)) (dC Q y n 5 H):=zz
theorem m8_(E)(h:eE E):ao_ prog 134 (bu_ E):=sO (eZ (fg_ E h) func176 (dK_.cons (fD_) (eZ ot_ func177 eN))) h func134
def bG_.cx:Cx:=⟨tys,[],[(2,[0,1,7,8,9])],[],[(49,dd_),(111,ds_)],aw_,[.tmp 4]⟩
def bG_:=fF bG_.cx f179
def bG_.l2 k a b c d e f g:=aT_ (bG_.cx) f179 2 k (nL a b 3::gB c::B 5 (nL d e 3::gI f::gI g::B 40 []))
theorem ui_:as_ bG_.cx f179 (k+1) [nL x n 3,b] H Q=bG_.l2 k x n b x n (nI n) 0 H Q:=zz
theorem bG_.l2_eq:bG_.l2 (k+1) x n b y m i j H Q=aw j i (bC (leI 0 j&&ltI j (nI m)) y H (tN j*3) (λa c d=>ah H a (c+tN j*3+1) λe=>aD H a (c+tN j*3+1+1) λa=>dk dd_ [d] H Q λc=>dk ds_ [e] c Q λc=>b1_ b (b1_ a (aT Q c) (aw 0 j (bo (leI 0 (ac_ .i64 (j-1))&&ltI (ac_ .i64 (j-1)) (nI n)) x c (tN (ac_ .i64 (j-1))*3) (λa=>aK (dE_ a d) (aT Q c) (bG_.l2 k x n b y m i (ac_ .i64 (j+1)) c Q))) (bG_.l2 k x n b y m i (ac_ .i64 (j+1)) c Q))) (aw 0 j (bo (leI 0 (ac_ .i64 (j-1))&&ltI (ac_ .i64 (j-1)) (nI n)) x c (tN (ac_ .i64 (j-1))*3) (λa=>aK (dE_ a d) (aT Q c) (bG_.l2 k x n b y m i (ac_ .i64 (j+1)) c Q))) (bG_.l2 k x n b y m i (ac_ .i64 (j+1)) c Q)))) (dv Q (nI n) 4 H):=zz
theorem uL_:ao_ prog 179 (bG_):=sO (eZ he_ func49 (eZ in_ func111 eN)) nO func179
def ak_.cx E:=(⟨tys,[],[(3,[0,1,2,8,9,10])],[],[],E,[.tmp 6,.tmp 7]⟩:Cx)
def ak_ E:=fF (ak_.cx E) f153
def ak_.l3 E k a b c d e f g h:=aT_ (ak_.cx E) f153 3 k (nL a b 5::gS c::.g (.fn d e)::B 5 (gI f::gI g::gI h::B 38 []))
theorem eq_:as_ (ak_.cx E) f153 (k+1) [nL x n 5,s,.g (.fn m p)] H Q=ak_.l3 E k x n s m p (nI n) 0 (nI n) H Q:=zz
theorem ak_.l3_eq:ak_.l3 E (k+1) x n s m p i j h H Q=aw j h (cZ (leI 0 (ac_ .i64 (oY_ .u64 (ac_ .u64 (ac_ .i64 (j+h))) 1))&&ltI (ac_ .i64 (oY_ .u64 (ac_ .u64 (ac_ .i64 (j+h))) 1)) (nI n)) x H (tN (ac_ .i64 (oY_ .u64 (ac_ .u64 (ac_ .i64 (j+h))) 1))*5) H H H H 3 (λa b c d e f=>aG (E m) (cpl [.agg [.str a,.int .i64 b,.str c,.str d,.sl e f 3],.g (.str s)] p) H λa b=>aw b 0 (ak_.l3 E k x n s m p i (ac_ .i64 (ac_ .i64 (oY_ .u64 (ac_ .u64 (ac_ .i64 (j+h))) 1)+1)) h a Q) (ak_.l3 E k x n s m p i j (ac_ .i64 (oY_ .u64 (ac_ .u64 (ac_ .i64 (j+h))) 1)) a Q))) (aw j i (cZ (leI 0 j&&ltI j (nI n)) x H (tN j*5) H H H H 3 (λa b c d e f=>aG (E m) (cpl [.agg [.str a,.int .i64 b,.str c,.str d,.sl e f 3],.g (.str s)] p) H λa b=>ax Q [j,.s (.bool (eqI b 0))] a)) (ax Q [j,false] H)):=zz
theorem et_(E)(h:eE E):ao_ prog 153 (ak_ E):=sO eN h func153
def fd_.cx:Cx:=⟨tys,[],[],[],[(108,c8_)],aw_,[.tmp 4]⟩
def fd_:=fF fd_.cx f154
theorem v3_:as_ fd_.cx f154 (k+1) [.agg [s,i,t,r,.sl x n 3],S] H Q=aG c8_ [s,S] H λa b=>Q b a:=zz
theorem vq_:ao_ prog 154 (fd_):=sO (eZ jT_ func108 eN) nO func154
def fE_.cx:Cx:=⟨tys,[],[],[],[(153,(ak_ (cO_ [(154,fd_)])))],aw_,[.tmp 4,.tmp 5]⟩
def fE_:=fF fE_.cx f104
theorem Ag_:as_ fE_.cx f104 (k+1) [nL x n 5,s] H Q=cd (ak_ (cO_ [(154,fd_)])) [nL x n 5,s,.g (.fn 154 [])] H λa b c=>ax Q [b,c] a:=zz
theorem lI_:ao_ prog 104 (fE_):=sO (dK_.cons ((et_ (cO_ [(154,fd_)]) (gw_ (eZ vq_ func154 eN))).c ⟨_,func153,by kernel_rfl,by kernel_rfl⟩) eN) nO func104
def b6_.cx:Cx:=⟨tys,[],[(2,[0,1,9,10])],[],[(104,fE_)],aw_,[.tmp 4]⟩
def b6_:=fF b6_.cx f180
def b6_.l2 k a b c d e:=aT_ (b6_.cx) f180 2 k (nL a b 5::gI c::B 7 (gI d::gI e::B 26 []))
theorem sR_:as_ b6_.cx f180 (k+1) [nL x n 5,i] H Q=b6_.l2 k x n i (nI n) 0 H Q:=zz
theorem b6_.l2_eq:b6_.l2 (k+1) x n i j h H Q=aw h j (aB (leI 0 i&&ltI i (nI n)) x (λa b=>ah H a (b+tN i*5+2) λa=>dY a [] (Q true H) (cd fE_ [nL x n 5,a] H (λa b c=>aK c (aT Q a) (bZ (leI 0 b&&ltI b (nI n)) x a (tN b*5) (λc=>bg c 2 (aT Q a) (b6_.l2 k x n b j (ac_ .i64 (h+1)) a Q))))))) (aT Q H):=zz
theorem tb_:ao_ prog 180 (b6_):=sO (eZ lI_ func104 eN) nO func180
def bx_.cx:Cx:=⟨tys,[],[(2,[0,6,7,8]),(8,[0,55,56])],[],[(103,cU_),(178,gV_),(146,fP_),(179,bG_),(180,b6_)],aw_,[.tmp 2]⟩
def bx_:=fF bx_.cx f135
def bx_.l2 k a b c d e f:=aT_ (bx_.cx) f135 2 k (nL a b 5::B 5 (nL c d 5::gI e::gI f::B 58 []))
def bx_.l8 k a b c d:=aT_ (bx_.cx) f135 8 k (nL a b 5::B 54 (gI c::gI d::B 10 []))
theorem xD_:as_ bx_.cx f135 (k+1) [nL x n 5] H Q=bx_.l2 k x n x n (nI n) 0 H Q:=zz
theorem bx_.l2_eq:bx_.l2 (k+1) x n y m i j H Q=aw j i (cF (leI 0 j&&ltI j (nI m)) y H (tN j*5) H (tN j*5) (λa b c d=>ah H a (b+tN j*5+1+1) λ_=>ah H a (b+tN j*5+1+1+1) λe=>aa H a (b+tN j*5+1+1+1+1) 3 λa b=>dk cU_ [c] H Q λf=>dk gV_ [d] f Q λf=>dk fP_ [e] f Q λe=>dk bG_ [nL a b 3,.g (.bool (eqI d 1))] e Q λa=>aw 0 j (bo (leI 0 (ac_ .i64 (j-1))&&ltI (ac_ .i64 (j-1)) (nI n)) x a (tN (ac_ .i64 (j-1))*5) (λb=>aK (dE_ b c) (aT Q a) (bx_.l2 k x n y m i (ac_ .i64 (j+1)) a Q))) (bx_.l2 k x n y m i (ac_ .i64 (j+1)) a Q))) (bx_.l8 k x n (nI n) 0 H Q):=zz
theorem bx_.l8_eq:bx_.l8 (k+1) x n i j H Q=aw j i (dk b6_ [nL x n 5,j] H Q (λa=>bx_.l8 k x n i (ac_ .i64 (j+1)) a Q)) (dv Q (nI n) 6 H):=zz
theorem pn_:ao_ prog 135 (bx_):=sO (eZ f5_ func103 (eZ qW_ func178 (eZ pl_ func146 (eZ uL_ func179 (eZ tb_ func180 eN))))) nO func135
def dJ_.cx E:=(⟨tys,[19],[(4,[5,6,19,20,21,22])],[],[(130,h1_),(131,dw_),(132,aD_),(133,bp_),(134,(bu_ E)),(135,bx_)],E,[.tmp 2,.tmp 3]⟩:Cx)
def dJ_ E:=fF (dJ_.cx E) f78
def dJ_.l4 E k a b c d e f g h i:=aT_ (dJ_.cx E) f78 4 k (B 5 (gI a::.g (.ptr (some (b,c)))::B 12 (.g (.ptr (some (d,e)))::nL f g 2::gI h::gI i::B 31 [])))
theorem Ap_:as_ (dJ_.cx E) f78 (k+1) [.agg [.sl x n 5]] H Q=bM h1_ [.agg [.sl x n 5]] H 2 λa b c d=>bc b λb=>dJ_.l4 E k b (ln (pu (pu (pu a (.map [] 0)) (.map [] 0)) (.map [] 0))) 0 (ln (pu (pu (pu a (.map [] 0)) (.map [] 0)) (.map [] 0))) 0 c d (nI d) 0 (pu (pu (pu (pu a (.map [] 0)) (.map [] 0)) (.map [] 0)) (.row true 139 [.sl x n 5,.map (some (ln a)),.map (some (ln (pu a (.map [] 0)))),.map (some (ln (pu (pu a (.map [] 0)) (.map [] 0)))),.sl none 0 5])) Q:=zz
theorem dJ_.l4_eq:dJ_.l4 E (k+1) i n m l o x N j h H Q=aw h j (bC (leI 0 h&&ltI h (nI N)) x H (tN h*2) (λa b c=>ah H a (b+tN h*2+1) λa=>bq dw_ [.g (.ptr (some (n,m))),.agg [c,a]] H Q [.s (.ptr none),false] λa=>dJ_.l4 E k i n m l o x N j (ac_ .i64 (h+1)) a Q)) (cp i 0 Q [.s (.ptr none),false] H (dO aD_ [.g (.ptr (some (n,m)))] H Q [.s (.ptr none),false] bp_ [.g (.ptr (some (n,m)))] Q (λa=>aC (bu_ E) [.g (.ptr (some (n,m)))] a 5 λa b c=>dt a n (m+4) b c 5 λa=>aa a n (m+4) 5 λb c=>ba bx_ [nL b c 5] a λa b=>ax Q [.s (.ptr (some (n,m))),b] a))):=zz
theorem tR_(E)(h:eE E):ao_ prog 78 (dJ_ E):=sO (eZ tL_ func130 (eZ on_ func131 (eZ mb_ func132 (eZ m0_ func133 (eZ (m8_ E h) func134 (eZ pn_ func135 eN)))))) h func78
end Go.Am
namespace Go.Am
open List
open Go.Proofs.Tryz
variable{E:Nat->Sm}{k:Nat}{H:Hp}{Q:Post}{U X Y Z u w x x1 y z:Pl}{D L M N O l m n n1 o:Nat}{I g h i j:Int}{C b b1 b2 c d:Bool}{R S e r s t:ByteArray}{A a:Option Nat}{p q:List (Nat×Nat)}{F:Sm}
def gF_.cx E:=(⟨tys,[],[],[],[(78,(dJ_ E))],E,[.tmp 2,.tmp 3]⟩:Cx)
def gF_ E:=fF (gF_.cx E) f31
theorem vO_:as_ (gF_.cx E) f31 (k+1) [.agg [.sl x n 5]] H Q=dl (dJ_ E) [.agg [.sl x n 5]] H λa b c=>d9 b (ax Q [.s (.sl none 0 5),nN 2000] a) (co c a 5 (λb c=>ax Q [.s (.sl b c 5),nN 0] a)):=zz
theorem vo_(E)(h:eE E):ao_ prog 31 (gF_ E):=sO (eZ (tR_ E h) func78 eN) h func31
def if_.cx E:=(⟨tys,[],[],[],[(31,(gF_ E)),(103,cU_),(104,fE_)],E,[.cell 4 52,.tmp 5]⟩:Cx)
def if_ E:=fF (if_.cx E) f48
theorem xo_:as_ (if_.cx E) f48 (k+1) [.agg [.sl x n 5],s] H Q=bM (gF_ E) [.agg [.sl x n 5]] H 5 λa b c d=>cP b 0 Q (.a [mkS [],nN 0,mkS [],mkS [],.sl none 0 3]) a (bq cU_ [s] a Q [.a [mkS [],nN 0,mkS [],mkS [],.sl none 0 3],nN 1901] (λa=>cd fE_ [nL c d 5,s] a λa b e=>aK e (ax Q [.a [mkS [],nN 0,mkS [],mkS [],.sl none 0 3],nN 1903] a) (cZ (leI 0 b&&ltI b (nI d)) c a (tN b*5) a a a a 3 (λb c d e f g=>ax Q [.a [b,c,d,e,.sl f g 3],nN 0] a)))):=zz
theorem xK_(E)(h:eE E):ao_ prog 48 (if_ E):=sO (eZ (vo_ E h) func31 (eZ f5_ func103 (eZ lI_ func104 eN))) h func48
def ef_.cx E:=(⟨tys,[],[],[],[(48,(if_ E)),(49,dd_),(50,cF_)],E,[.tmp 6,.tmp 7]⟩:Cx)
def ef_ E:=fF (ef_.cx E) f15
theorem xF_:as_ (ef_.cx E) f15 (k+1) [.agg [.sl x n 5],s,t] H Q=bf (if_ E) [.agg [.sl x n 5],s] H λa b c=>aO c λc _=>d7 c λc _=>aO c λc _=>aL c 3 λc d=>cP b 0 Q (mkS []) a (bq dd_ [t] a Q [mkS [],nN 1907] (λa=>cd cF_ [nL c d 3,t] a λa b e=>aK e (ax Q [mkS [],nN 1908] a) (dE (leI 0 b&&ltI b (nI d)) c a (tN b*3) (λb=>ax Q [b,nN 0] a)))):=zz
theorem po_(E)(h:eE E):ao_ prog 15 (ef_ E):=sO (eZ (xK_ E h) func48 (eZ he_ func49 (eZ gT_ func50 eN))) h func15
def bT_.cx:Cx:=⟨tys,[],[(2,[0,3])],[],[],aw_,[.tmp 2]⟩
def bT_:=fF bT_.cx f267
def bT_.l2 k a b c:=aT_ (bT_.cx) f267 2 k (nL a b 1::.bad::.bad::gI c::B 36 [])
theorem v0_:as_ bT_.cx f267 (k+1) [nL x n 1] H Q=bT_.l2 k x n 0 H Q:=zz
theorem bT_.l2_eq:bT_.l2 (k+1) x n i H Q=bX i n (aH (leI 0 i&&ltI i (nI n)) x H (tN i*1) (λa=>dq (sz a) 1 Q H (aH (leI 0 i&&ltI i (nI n)) x H (tN i*1) (λa=>dq 6 (sz a) Q H (aw 0 i (aH (leI 0 i&&ltI i (nI n)) x H (tN i*1) (λa=>aH (leI 0 (ac_ .i64 (i-1))&&ltI (ac_ .i64 (i-1)) (nI n)) x H (tN (ac_ .i64 (i-1))*1) λb=>b1_ (dE_ a b||gf_ a b) (aT Q H) (bT_.l2 k x n (ac_ .i64 (i+1)) H Q))) (bT_.l2 k x n (ac_ .i64 (i+1)) H Q)))))) (Q true H):=zz
theorem wG_:ao_ prog 267 (bT_):=sO eN nO func267
def aJ_.cx:Cx:=⟨tys,[],[(5,[2,5]),(11,[2,6]),(16,[2,6,7])],[],[(267,bT_)],aw_,[.tmp 4]⟩
def aJ_:=fF aJ_.cx f241
def aJ_.l5 k a b c d e f g h i:=aT_ (aJ_.cx) f241 5 k (.bad::.bad::.bx [.bool a,.bool b,.sl c d 1,.sl e f 1,.sl g h 1]::.bad::.bad::gI i::B 104 [])
def aJ_.l11 k a b c d e f g h i:=aT_ (aJ_.cx) f241 11 k (.bad::.bad::.bx [.bool a,.bool b,.sl c d 1,.sl e f 1,.sl g h 1]::B 3 (gI i::B 103 []))
def aJ_.l16 k a b c d e f g h i j:=aT_ (aJ_.cx) f241 16 k (.bad::.bad::.bx [.bool a,.bool b,.sl c d 1,.sl e f 1,.sl g h 1]::B 3 (gI i::gI j::B 102 []))
theorem fF_:as_ aJ_.cx f241 (k+1) [.agg [b,c,.sl x n 1,.sl y m 1,.sl z l 1],i] H Q=aK b (aT Q H) (dk bT_ [nL x n 1] H Q (λa=>bX i n (aT Q a) (b1_ c (aJ_.l5 k b c x n y m z l 0 a Q) (aJ_.l11 k b c x n y m z l 0 a Q)))):=zz
theorem aJ_.l5_eq:aJ_.l5 (k+1) b c x n y m z l i H Q=bX i m (aH (leI 0 i&&ltI i (nI m)) y H (tN i*1) (λa=>dq 10 (sz a) Q H (aJ_.l5 k b c x n y m z l (ac_ .i64 (i+1)) H Q))) (eI m (nI n) (da Q (nI l) 0 H) (aT Q H)):=zz
theorem aJ_.l11_eq:aJ_.l11 (k+1) b c x n y m z l i H Q=bX i l (aJ (leI 0 i&&ltI i (nI l)) z H (tN i*1) (λa=>dq a 1 Q H (aJ (leI 0 i&&ltI i (nI l)) z H (tN i*1) (λa=>aZ 48 a (aT Q H) (aJ_.l16 k b c x n y m z l i 0 H Q))))) (aZ 1 (nI n) (eI m 0 (da Q (nI l) (ac_ .i64 (nI n+1)) H) (aT Q H)) (aT Q H)):=zz
theorem aJ_.l16_eq:aJ_.l16 (k+1) b c x n y m z l i j H Q=aw j i (aJ (leI 0 j&&ltI j (nI l)) z H (tN j*1) (λa=>aJ (leI 0 i&&ltI i (nI l)) z H (tN i*1) λd=>bj a d (aT Q H) (aJ_.l16 k b c x n y m z l i (ac_ .i64 (j+1)) H Q))) (aJ_.l11 k b c x n y m z l (ac_ .i64 (i+1)) H Q):=zz
theorem sI_:ao_ prog 241 (aJ_):=sO (eZ wG_ func267 eN) nO func241
def gJ_.cx:Cx:=⟨tys,[],[],[],[(241,aJ_)],aw_,[.tmp 2]⟩
def gJ_:=fF gJ_.cx f223
theorem uA_:ao_ prog 223 (gJ_):=sO (eZ sI_ func241 eN) nO func223
def ag_.cx S:=(⟨tys,[],[(13,[0,3,4,5,7,12,13])],[(10,[0,3,12]),(18,[0,3,4,5,7,12,13,14,15]),(20,[0,3,4,5,7,12,13,14,15])],[(223,gJ_),(185,S)],aw_,[]⟩:Cx)
def ag_.st S:=fF (ag_.cx S) f185
def ag_.l10 S k a b c d e f g h i j:=aT_ (ag_.cx S) f185 10 k (gP a::.bad::.bad::gI b::B 8 (.bx [.bool c,.bool d,.sl e f 1,.sl g h 1,.sl i j 1]::B 150 []))
def ag_.l13 S k a b c d e f g h i j l m n o p:=aT_ (ag_.cx S) f185 13 k (gP a::.bad::.bad::gI b::gS c::gS d::.bad::.bx [.sl e f 5]::B 4 (.bx [.bool g,.bool h,.sl i j 1,.sl l m 1,.sl n o 1]::gI p::B 149 []))
def ag_.l18 S k a b c d e f g h i j l m n o p q r:=aT_ (ag_.cx S) f185 18 k (gP a::.bad::.bad::gI b::gS c::gS d::.bad::.bx [.sl e f 5]::B 4 (.bx [.bool g,.bool h,.sl i j 1,.sl l m 1,.sl n o 1]::gI p::gS q::gS r::B 147 []))
def ag_.l20 S k a b c d e f g h i j l m n o p q r:=aT_ (ag_.cx S) f185 20 k (gP a::.bad::.bad::gI b::gS c::gS d::.bad::.bx [.sl e f 5]::B 4 (.bx [.bool g,.bool h,.sl i j 1,.sl l m 1,.sl n o 1]::gI p::gS q::gS r::B 147 []))
theorem jQ_:as_ (ag_.cx F) f185 (k+1) [x,.agg [.sl y n 5],i,j,s,t] H Q=pS x λa b=>cK H a (b+3) (cq x H true Q []) (cD x H 1 0 i i (λa b=>cK H a (b+tN i*1) (cq x H true Q []) (bV (leI 0 i&&ltI i (nI n)) y H (tN i*5) H (tN i*5) H (tN i*5) 1 H (tN i*5) 1 H (tN i*5) 1 (λa b c d e f g h=>ac gJ_ [.agg [a,b,.sl c d 1,.sl e f 1,.sl g h 1]] H λa b=>aj b (cq x a true Q []) (cD x a 1 0 i i (λb c=>wr a b (c+tN i*1) true λa=>bV (leI 0 i&&ltI i (nI n)) y a (tN i*5) a (tN i*5) a (tN i*5) 1 a (tN i*5) 1 a (tN i*5) 1 λb c d e f g h l=>bg i 0 (aw (nI e) 2 (cq x a true Q []) (bX 0 e (ew (leI 0 0&&ltI 0 (nI e)) d a (tN 0*1) s (cq x a true Q []) (dZ t [] (aH (leI 0 (ac_ .i64 (nI e-1))&&ltI (ac_ .i64 (nI e-1)) (nI e)) d a (tN (ac_ .i64 (nI e-1))*1) (λi=>aK (dE_ i t) (cq x a true Q []) (b1_ c (eM x a 0 (bQ x a j (λa=>ag_.l10 F k x j b c d e f g h l a Q)) (ag_.l10 F k x j b c d e f g h l a Q)) (ag_.l13 F k x j s t y n b c d e f g h l 0 a Q)))) (b1_ c (eM x a 0 (bQ x a j (λa=>ag_.l10 F k x j b c d e f g h l a Q)) (ag_.l10 F k x j b c d e f g h l a Q)) (ag_.l13 F k x j s t y n b c d e f g h l 0 a Q)))) (b1_ c (eM x a 0 (bQ x a j (λa=>ag_.l10 F k x j b c d e f g h l a Q)) (ag_.l10 F k x j b c d e f g h l a Q)) (ag_.l13 F k x j s t y n b c d e f g h l 0 a Q)))) (bX 0 e (ew (leI 0 0&&ltI 0 (nI e)) d a (tN 0*1) s (cq x a true Q []) (dZ t [] (aH (leI 0 (ac_ .i64 (nI e-1))&&ltI (ac_ .i64 (nI e-1)) (nI e)) d a (tN (ac_ .i64 (nI e-1))*1) (λi=>aK (dE_ i t) (cq x a true Q []) (b1_ c (eM x a 0 (bQ x a j (λa=>ag_.l10 F k x j b c d e f g h l a Q)) (ag_.l10 F k x j b c d e f g h l a Q)) (ag_.l13 F k x j s t y n b c d e f g h l 0 a Q)))) (b1_ c (eM x a 0 (bQ x a j (λa=>ag_.l10 F k x j b c d e f g h l a Q)) (ag_.l10 F k x j b c d e f g h l a Q)) (ag_.l13 F k x j s t y n b c d e f g h l 0 a Q)))) (b1_ c (eM x a 0 (bQ x a j (λa=>ag_.l10 F k x j b c d e f g h l a Q)) (ag_.l10 F k x j b c d e f g h l a Q)) (ag_.l13 F k x j s t y n b c d e f g h l 0 a Q))))))))):=zz
theorem ag_.l10_eq:ag_.l10 F (k+1) x i b c y n z m u l H Q=cC x H λa=>pS x λb c=>wr H b (c+3) (.bool (!(eqI a i))) λa=>pS x λb c=>aq a b (c+2) λb=>pS x λc d=>bt a c (d+2) (ac_ .i64 (b+nI n)) Q []:=zz
theorem ag_.l13_eq:ag_.l13 F (k+1) x i s t y n b c z m u l w o j H Q=bX j o (aw 0 j (aH (leI 0 (ac_ .i64 (j-1))&&ltI (ac_ .i64 (j-1)) (nI m)) z H (tN (ac_ .i64 (j-1))*1) (λa=>ag_.l18 F k x i s t y n b c z m u l w o j a t H Q)) (ag_.l18 F k x i s t y n b c z m u l w o j s t H Q)) (ax Q [] H):=zz
theorem ag_.l18_eq:ag_.l18 F (k+1) x i s t y n b c z m u l w o j r S H Q=bX j m (aH (leI 0 j&&ltI j (nI m)) z H (tN j*1) (λa=>ag_.l20 F k x i s t y n b c z m u l w o j r a H Q)) (ag_.l20 F k x i s t y n b c z m u l w o j r S H Q):=zz
theorem ag_.l20_eq:ag_.l20 F (k+1) x i s t y n b c z m u l w o j r S H Q=aJ (leI 0 j&&ltI j (nI o)) w H (tN j*1) λa=>cl F [x,.agg [.sl y n 5],a,ac_ .i64 (i+1),r,S] H λ_ a=>ag_.l13 F k x i s t y n b c z m u l w o (ac_ .i64 (j+1)) a Q:=zz
theorem ag_.st_ok(S:Sm)(hS:c4_ prog 185 S):ao_ prog 185 (ag_.st S):=l8_.sound (cx:=ag_.cx S) rfl (eZ uA_ func223 (dK_.cons hS eN)) nO func185 rfl
def ag_.at:Nat->Sm
 |0=>λ_ _ _=>False
 |n+1=>ag_.st (ag_.at n)
def ag_:Sm:=λxs H Q=>∃n,ag_.at n xs H Q
theorem ag_.at_ok:∀n,ao_ prog 185 (ag_.at n)
 |0=>λ_ _ _ h=>h.elim
 |n+1=>ag_.st_ok _ ((ag_.at_ok n).c ⟨_,func185,by kernel_rfl,by kernel_rfl⟩)
theorem qo_:ao_ prog 185 (ag_):=ao_.ex (ag_.at_ok)
def fW_.cx:Cx:=⟨tys,[],[],[],[],aw_,[.tmp 2]⟩
def fW_:=fF fW_.cx f186
theorem uo_:as_ fW_.cx f186 (k+1) [.agg [b,c,.sl x n 1,.sl y m 1,.sl z l 1]] H Q=aK b (aK c (da Q (ac_ .i64 (ac_ .i64 (nI n+nI m)+nI l)) 0 H) (aT Q H)) (aT Q H):=zz
theorem uS_:ao_ prog 186 (fW_):=sO eN nO func186
def cv_.cx:Cx:=⟨tys,[10,12],[(6,[1,4,5,12])],[],[(185,ag_),(186,fW_)],aw_,[.tmp 2,.tmp 3]⟩
def cv_:=fF cv_.cx f148
def cv_.l6 k a b c d e f g:=aT_ (cv_.cx) f148 6 k (.bad::.bx [.sl a b 5]::.bad::.bad::.g (.ptr (some (c,d)))::gI e::B 6 (.g (.ptr (some (f,g)))::B 40 []))
theorem xg_:as_ cv_.cx f148 (k+1) [.agg [.sl x n 5]] H Q=cp (nI n) 48 Q [.s (.ptr none),false] H (cl ag_ [.g (.ptr (some (ln (pu H (.row true 4 (k8_ (tN 48) [.bool false]))),0))),.agg [.sl x n 5],nN 0,nN 1,mkS [],mkS []] (pu (pu H (.row true 4 (k8_ (tN 48) [.bool false]))) (.row true 230 [.sl (some (ln H,0)) (tN 48) 1,nN 0,nN 0,false])) (λ_ a=>cv_.l6 k x n (ln (pu H (.row true 4 (k8_ (tN 48) [.bool false])))) 0 0 (ln (pu H (.row true 4 (k8_ (tN 48) [.bool false])))) 0 a Q)):=zz
theorem cv_.l6_eq:cv_.l6 (k+1) x n m l i o N H Q=aw i 48 (cQ H m (l+0) 1 0 i i (λa b=>rd H a (b+tN i*1) λa=>aj a (bV (leI 0 i&&ltI i (nI n)) x H (tN i*5) H (tN i*5) H (tN i*5) 1 H (tN i*5) 1 H (tN i*5) 1 (λa b c d e f g h=>ac fW_ [.agg [a,b,.sl c d 1,.sl e f 1,.sl g h 1]] H λa b=>aj b (wr a m (l+3) true (λa=>cv_.l6 k x n m l (ac_ .i64 (i+1)) o N a Q)) (cv_.l6 k x n m l (ac_ .i64 (i+1)) o N a Q))) (cv_.l6 k x n m l (ac_ .i64 (i+1)) o N H Q))) (rd H m (l+3) (λa=>aj a (aq H m (l+2) (λa=>ax Q [.s (.ptr (some (m,l))),.s (.bool (leI a 60))] H)) (ax Q [.s (.ptr (some (m,l))),false] H))):=zz
theorem vZ_:ao_ prog 148 (cv_):=sO (eZ qo_ func185 (eZ uS_ func186 eN)) nO func148
def fO_.cx:Cx:=⟨tys,[],[],[],[(148,cv_)],aw_,[.tmp 2]⟩
def fO_:=fF fO_.cx f98
theorem xL_:as_ fO_.cx f98 (k+1) [.agg [.sl x n 5]] H Q=dl cv_ [.agg [.sl x n 5]] H λa b _=>bD b λb=>Q b a:=zz
theorem pB_:ao_ prog 98 (fO_):=sO (eZ vZ_ func148 eN) nO func98
def bs_.cx S:=(⟨tys,[],[(3,[2,3,7,8]),(7,[2,3,7,9]),(2000000,[2])],[],[(101,S)],aw_,[.tmp 6]⟩:Cx)
def bs_.st S:=fF (bs_.cx S) f101
def bs_.l3 S k a b c d e f g h i j l m n:=aT_ (bs_.cx S) f101 3 k (.bad::.bad::nL a b 2::.bx [.sl c d 5]::B 3 (.bx [.bool e,.bool f,.sl g h 1,.sl i j 1,.sl l m 1]::gI n::B 43 []))
def bs_.l7 S k a b c d e f g h i j l m n:=aT_ (bs_.cx S) f101 7 k (.bad::.bad::nL a b 2::.bx [.sl c d 5]::B 3 (.bx [.bool e,.bool f,.sl g h 1,.sl i j 1,.sl l m 1]::.bad::gI n::B 42 []))
theorem Bf_:as_ (bs_.cx F) f101 (k+1) [.agg [.sl x n 5],i,nL y m 2] H Q=bV (leI 0 i&&ltI i (nI n)) x H (tN i*5) H (tN i*5) H (tN i*5) 1 H (tN i*5) 1 H (tN i*5) 1 λa b c d e f g h=>bs_.l3 F k y m x n a b c d e f g h 0 H Q:=zz
theorem bs_.l3_eq:bs_.l3 F (k+1) x n y m b c z l u o w N i H Q=bX i o (aH (leI 0 i&&ltI i (nI l)) z H (tN i*1) (λa=>aH (leI 0 i&&ltI i (nI o)) u H (tN i*1) λd=>dD H 131 2 32 x n [a,d] λa d e=>bs_.l3 F k a d y m b c z l u o w N (ac_ .i64 (i+1)) e Q)) (bs_.l7 F k x n y m b c z l u o w N 0 H Q):=zz
theorem bs_.l7_eq:bs_.l7 F (k+1) x n y m b c z l u o w N i H Q=bX i N (aJ (leI 0 i&&ltI i (nI N)) w H (tN i*1) (λa=>aC F [.agg [.sl y m 5],a,nL x n 2] H 2 λa d e=>bs_.l7 F k d e y m b c z l u o w N (ac_ .i64 (i+1)) a Q)) (dC Q x n 2 H):=zz
theorem bs_.st_ok(S:Sm)(hS:c4_ prog 101 S):ao_ prog 101 (bs_.st S):=l8_.sound (cx:=bs_.cx S) rfl (dK_.cons hS eN) nO func101 rfl
def bs_.at:Nat->Sm
 |0=>λ_ _ _=>False
 |n+1=>bs_.st (bs_.at n)
def bs_:Sm:=λxs H Q=>∃n,bs_.at n xs H Q
theorem bs_.at_ok:∀n,ao_ prog 101 (bs_.at n)
 |0=>λ_ _ _ h=>h.elim
 |n+1=>bs_.st_ok _ ((bs_.at_ok n).c ⟨_,func101,by kernel_rfl,by kernel_rfl⟩)
theorem tM_:ao_ prog 101 (bs_):=ao_.ex (bs_.at_ok)
def jS_.cx:Cx:=⟨tys,[],[],[],[(98,fO_),(101,bs_)],aw_,[.tmp 2,.tmp 3]⟩
def jS_:=fF jS_.cx f46
theorem Ch_:as_ jS_.cx f46 (k+1) [.agg [.sl x n 5]] H Q=bq fO_ [.agg [.sl x n 5]] H Q [.s (.sl none 0 2),nN 1400] λa=>aC bs_ [.agg [.sl x n 5],nN 0,nL none 0 2] a 2 λa b c=>ax Q [.s (.sl b c 2),nN 0] a:=zz
theorem A2_:ao_ prog 46 (jS_):=sO (eZ pB_ func98 (eZ tM_ func101 eN)) nO func46
def cm_.cx:Cx:=⟨tys,[],[(2,[0,1,5])],[],[],aw_,[.tmp 4]⟩
def cm_:=fF cm_.cx f109
def cm_.l2 k a b c:=aT_ (cm_.cx) f109 2 k (gS a::gI b::B 3 (gI c::B 38 []))
theorem xq_:as_ cm_.cx f109 (k+1) [s,i] H Q=cm_.l2 k s i 0 H Q:=zz
theorem cm_.l2_eq:cm_.l2 (k+1) s i j H Q=aw j (sz s) (chk (leI 0 j&&ltI j (sz s)) (aZ 97 (byt s (tN j)) (chk (leI 0 j&&ltI j (sz s)) (aZ (byt s (tN j)) 122 (cm_.l2 k s i (ac_ .i64 (j+1)) H Q) (chk (leI 0 j&&ltI j (sz s)) (aZ 48 (byt s (tN j)) (chk (leI 0 j&&ltI j (sz s)) (aK (leI (byt s (tN j)) 57) (aT Q H) (cm_.l2 k s i (ac_ .i64 (j+1)) H Q))) (aT Q H))))) (chk (leI 0 j&&ltI j (sz s)) (aZ 48 (byt s (tN j)) (chk (leI 0 j&&ltI j (sz s)) (aK (leI (byt s (tN j)) 57) (aT Q H) (cm_.l2 k s i (ac_ .i64 (j+1)) H Q))) (aT Q H))))) (aZ 1 (sz s) (dv Q (sz s) i H) (aT Q H)):=zz
theorem pw_:ao_ prog 109 (cm_):=sO eN nO func109
def bt_.cx:Cx:=⟨tys,[],[],[],[(109,cm_)],aw_,[.tmp 2]⟩
def bt_:=fF bt_.cx f51
theorem sW_:as_ bt_.cx f51 (k+1) [s] H Q=cy cm_ [s,nN 4] H Q:=zz
theorem dR_:ao_ prog 51 (bt_):=sO (eZ pw_ func109 eN) nO func51
def fY_.cx:Cx:=⟨tys,[],[],[],[(51,bt_)],aw_,[.tmp 2,.tmp 3]⟩
def fY_:=fF fY_.cx f125
theorem uE_:as_ fY_.cx f125 (k+1) [s] H Q=ep (sz s) 1 Q [mkS [],false] H (chk (leI 0 0&&ltI 0 (sz s)) (cp (byt s (tN 0)) 115 Q [mkS [],false] H (chk (leN (tN 1) (szN s)&&leN (szN s) (szN s)) (bq bt_ [sub s (tN 1) (szN s)] H Q [mkS [],false] (λa=>chk (leN (tN 1) (szN s)&&leN (szN s) (szN s)) (ax Q [sub s (tN 1) (szN s),true] a)))))):=zz
theorem uU_:ao_ prog 125 (fY_):=sO (eZ dR_ func51 eN) nO func125
def do_.cx:Cx:=⟨tys,[],[],[],[],aw_,[.tmp 2]⟩
def do_:=fF do_.cx f213
theorem wA_:as_ do_.cx f213 (k+1) [i] H Q=aZ 1 i (dv Q i 255 H) (aT Q H):=zz
theorem hG_:ao_ prog 213 (do_):=sO eN nO func213
def dX_.cx:Cx:=⟨tys,[],[],[],[(213,do_),(51,bt_)],aw_,[.tmp 2]⟩
def dX_:=fF dX_.cx f168
theorem tg_:as_ dX_.cx f168 (k+1) [.agg [i,j,s,t]] H Q=ba do_ [i] H λa b=>b1_ b (aZ 0 j (aZ j 2 (dY s [] (dv Q (sz t) 3 a) (ba bt_ [s] a (λa b=>b1_ b (dv Q (sz t) 3 a) (aT Q a)))) (aT Q a)) (aT Q a)) (aT Q a):=zz
theorem lg_:ao_ prog 168 (dX_):=sO (eZ hG_ func213 (eZ dR_ func51 eN)) nO func168
def fq_.cx:Cx:=⟨tys,[],[],[],[(168,dX_)],aw_,[.cell 2 81,.tmp 3]⟩
def fq_:=fF fq_.cx f126
theorem so_:as_ fq_.cx f126 (k+1) [s] H Q=ep (sz s) 3 Q [.a [nN 0,nN 0,mkS [],mkS []],nN 1700] H (chk (leI 0 2&&ltI 2 (sz s)) (ep (sz s) (ac_ .i64 (3+ac_ .i64 (byt s (tN 2)))) Q [.a [nN 0,nN 0,mkS [],mkS []],nN 1700] H (ae (leI 0 2&&ltI 2 (sz s)) (leI 0 0&&ltI 0 (sz s)) (ae (leI 0 1&&ltI 1 (sz s)) (leI 0 (ac_ .i64 (3+ac_ .i64 (byt s (tN 2))))) (ae (leN (tN 3) (tN (ac_ .i64 (3+ac_ .i64 (byt s (tN 2)))))&&leN (tN (ac_ .i64 (3+ac_ .i64 (byt s (tN 2))))) (szN s)) (leI 0 (ac_ .i64 (3+ac_ .i64 (byt s (tN 2))))) (chk (leN (tN (ac_ .i64 (3+ac_ .i64 (byt s (tN 2))))) (szN s)&&leN (szN s) (szN s)) (bq dX_ [.agg [ac_ .i64 (byt s (tN 0)),ac_ .i64 (byt s (tN 1)),sub s (tN 3) (tN (ac_ .i64 (3+ac_ .i64 (byt s (tN 2))))),sub s (tN (ac_ .i64 (3+ac_ .i64 (byt s (tN 2))))) (szN s)]] H Q [.a [nN 0,nN 0,mkS [],mkS []],nN 1700] (λa=>ax Q [.a [ac_ .i64 (byt s (tN 0)),ac_ .i64 (byt s (tN 1)),sub s (tN 3) (tN (ac_ .i64 (3+ac_ .i64 (byt s (tN 2))))),sub s (tN (ac_ .i64 (3+ac_ .i64 (byt s (tN 2))))) (szN s)],nN 0] a)))))))):=zz
theorem r4_:ao_ prog 126 (fq_):=sO (eZ lg_ func168 eN) nO func126
def cE_.cx:Cx:=⟨tys,[],[],[],[(109,cm_)],aw_,[.tmp 2]⟩
def cE_:=fF cE_.cx f53
theorem sc_:as_ cE_.cx f53 (k+1) [s] H Q=cy cm_ [s,nN 3] H Q:=zz
theorem gW_:ao_ prog 53 (cE_):=sO (eZ pw_ func109 eN) nO func53
def fN_.cx:Cx:=⟨tys,[],[],[],[(53,cE_)],aw_,[.tmp 2,.tmp 3,.tmp 4]⟩
def fN_:=fF fN_.cx f127
theorem ur_:as_ fN_.cx f127 (k+1) [s] H Q=ep (sz s) 2 Q [nN 0,mkS [],false] H (chk (leI 0 0&&ltI 0 (sz s)) (cp (byt s (tN 0)) 102 Q [nN 0,mkS [],false] H (chk (leI 0 1&&ltI 1 (sz s)) (bj (byt s (tN 1)) 0 (ax Q [nN 0,mkS [],false] H) (chk (leN (tN 2) (szN s)&&leN (szN s) (szN s)) (bq cE_ [sub s (tN 2) (szN s)] H Q [nN 0,mkS [],false] (λa=>ae (leI 0 1&&ltI 1 (sz s)) (leN (tN 2) (szN s)&&leN (szN s) (szN s)) (ax Q [ac_ .i64 (byt s (tN 1)),sub s (tN 2) (szN s),true] a)))))))):=zz
theorem uB_:ao_ prog 127 (fN_):=sO (eZ gW_ func53 eN) nO func127
def eL_.cx:Cx:=⟨tys,[],[],[],[],aw_,[.tmp 2,.tmp 3]⟩
def eL_:=fF eL_.cx f128
theorem qO_:as_ eL_.cx f128 (k+1) [s] H Q=cp (sz s) 2 Q [nN 0,false] H (chk (leI 0 0&&ltI 0 (sz s)) (cp (byt s (tN 0)) 105 Q [nN 0,false] H (chk (leI 0 1&&ltI 1 (sz s)) (bj (byt s (tN 1)) 0 (ax Q [nN 0,false] H) (chk (leI 0 1&&ltI 1 (sz s)) (ax Q [ac_ .i64 (byt s (tN 1)),true] H)))))):=zz
theorem q6_:ao_ prog 128 (eL_):=sO eN nO func128
def dt_.cx:Cx:=⟨tys,[],[],[],[(213,do_)],aw_,[.tmp 2]⟩
def dt_:=fF dt_.cx f169
theorem ru_:as_ dt_.cx f169 (k+1) [.agg [i,s]] H Q=ba do_ [i] H λa b=>b1_ b (dv Q (sz s) 6 a) (aT Q a):=zz
theorem kr_:ao_ prog 169 (dt_):=sO (eZ hG_ func213 eN) nO func169
def eJ_.cx:Cx:=⟨tys,[],[],[],[(169,dt_)],aw_,[.cell 2 63,.tmp 3]⟩
def eJ_:=fF eJ_.cx f129
theorem q9_:as_ eJ_.cx f129 (k+1) [s] H Q=dY s [] (ax Q [.a [nN 0,mkS []],nN 1800] H) (ae (leI 0 0&&ltI 0 (sz s)) (leN (tN 1) (szN s)&&leN (szN s) (szN s)) (bq dt_ [.agg [ac_ .i64 (byt s (tN 0)),sub s (tN 1) (szN s)]] H Q [.a [nN 0,mkS []],nN 1800] (λa=>ax Q [.a [ac_ .i64 (byt s (tN 0)),sub s (tN 1) (szN s)],nN 0] a))):=zz
theorem q0_:ao_ prog 129 (eJ_):=sO (eZ kr_ func169 eN) nO func129
def dM_.cx:Cx:=⟨tys,[],[],[],[(125,fY_),(126,fq_),(127,fN_),(128,eL_),(129,eJ_)],aw_,[.tmp 4]⟩
def dM_:=fF dM_.cx f74
theorem o6_:as_ dM_.cx f74 (k+1) [x,.agg [s,t]] H Q=bF fY_ [s] H λa b c=>bD b λb=>b1_ b (bf fq_ [t] a (λa b d=>aM d λd e=>aM d λd f=>aO d λd g=>cM d λd=>bc b λb=>bw x a 5 λh i=>dD a 83 5 64 h i [c,e,f,g,d] λa c d=>pS x λe f=>dt d e (f+0) a c 5 λa=>da Q b 0 a)) (bz fN_ [s] a (λa b c=>af b λb d=>dS d λd=>bD b λb=>b1_ b (bg (sz t) 2 (aT Q a) (chk (leI 0 1&&ltI 1 (sz t)) (dq 1 (byt t (tN 1)) Q a (dW x a 4 (λb e=>ae (leI 0 0&&ltI 0 (sz t)) (leI 0 1&&ltI 1 (sz t)) (eF a 87 4 40 b e [c,d,ac_ .i64 (byt t (tN 0)),.bool (eqI (byt t (tN 1)) 1)] x (λa=>Q true a))))))) (cd eL_ [s] a (λa b c=>bf eJ_ [t] a λa d e=>aM e λe f=>cM e λe=>bc d λd=>cI x a 3 λg h=>dD a 65 3 32 g h [b,f,e] λa b e=>pS x λf g=>dt e f (g+2) a b 3 λa=>b1_ c (da Q d 0 a) (aT Q a))))):=zz
theorem oX_:ao_ prog 74 (dM_):=sO (eZ uU_ func125 (eZ r4_ func126 (eZ uB_ func127 (eZ q6_ func128 (eZ q0_ func129 eN))))) nO func74
def bb_.cx:Cx:=⟨tys,[],[(2,[0,1,5])],[],[],aw_,[.tmp 4]⟩
def bb_:=fF bb_.cx f75
def bb_.l2 k a b c:=aT_ (bb_.cx) f75 2 k (gP a::gI b::B 3 (gI c::B 21 []))
theorem ph_:as_ bb_.cx f75 (k+1) [x,i] H Q=bb_.l2 k x i 0 H Q:=zz
theorem bb_.l2_eq:bb_.l2 (k+1) x i j H Q=eJ x H 5 j (cD x H 5 0 j j (λa b=>aq H a (b+tN j*5+1+0) λa=>bj a i (Q j H) (bb_.l2 k x i (ac_ .i64 (j+1)) H Q))) (dQ Q .i64 (-1) H):=zz
theorem g0_:ao_ prog 75 (bb_):=sO eN nO func75
def aQ_.cx:Cx:=⟨tys,[],[(2,[0,1,5])],[],[],aw_,[.tmp 4]⟩
def aQ_:=fF aQ_.cx f55
def aQ_.l2 k a b c:=aT_ (aQ_.cx) f55 2 k (gP a::gI b::B 3 (gI c::B 20 []))
theorem nN_:as_ aQ_.cx f55 (k+1) [x,i] H Q=aQ_.l2 k x i 0 H Q:=zz
theorem aQ_.l2_eq:aQ_.l2 (k+1) x i j H Q=eK x H 3 j (eG x H 3 0 j j (λa b=>aq H a (b+tN j*3+0) λa=>bj a i (Q j H) (aQ_.l2 k x i (ac_ .i64 (j+1)) H Q))) (dQ Q .i64 (-1) H):=zz
theorem d3_:ao_ prog 55 (aQ_):=sO eN nO func55
def av_.cx:Cx:=⟨tys,[],[(2,[0,3]),(7,[0,4]),(11,[0,4,5,6])],[],[(55,aQ_)],aw_,[.tmp 2]⟩
def av_:=fF av_.cx f76
def av_.l2 k a b:=aT_ (av_.cx) f76 2 k (gP a::.bad::.bad::gI b::B 71 [])
def av_.l7 k a b:=aT_ (av_.cx) f76 7 k (gP a::B 3 (gI b::B 70 []))
def av_.l11 k a b c d:=aT_ (av_.cx) f76 11 k (gP a::B 3 (gI b::gI c::gI d::B 68 []))
theorem m3_:as_ av_.cx f76 (k+1) [x] H Q=av_.l2 k x 0 H Q:=zz
theorem av_.l2_eq:av_.l2 (k+1) x i H Q=cw x H 4 i (dg x H 4 0 i i (λa b=>aq H a (b+tN i*4+2) λa=>aG aQ_ [x,a] H λa b=>dq b 0 Q a (av_.l2 k x (ac_ .i64 (i+1)) a Q))) (av_.l7 k x 0 H Q):=zz
theorem av_.l7_eq:av_.l7 (k+1) x i H Q=eK x H 3 i (av_.l11 k x i 0 0 H Q) (Q true H):=zz
theorem av_.l11_eq:av_.l11 (k+1) x i j h H Q=cw x H 4 h (dg x H 4 0 h h (λa b=>aq H a (b+tN h*4+2) λa=>eG x H 3 0 i i λb c=>aq H b (c+tN i*3+0) λb=>bj a b (av_.l11 k x i (ac_ .i64 (j+1)) (ac_ .i64 (h+1)) H Q) (av_.l11 k x i j (ac_ .i64 (h+1)) H Q))) (eG x H 3 0 i i (λa b=>aq H a (b+tN i*3+1+0) λa=>bg j a (aT Q H) (av_.l7 k x (ac_ .i64 (i+1)) H Q))):=zz
theorem mV_:ao_ prog 76 (av_):=sO (eZ d3_ func55 eN) nO func76
def ax_.cx:Cx:=⟨tys,[],[(3,[0,3,4]),(8,[0,3,4,5,6,7])],[],[(55,aQ_)],aw_,[.tmp 2]⟩
def ax_:=fF ax_.cx f66
def ax_.l3 k a b c d:=aT_ (ax_.cx) f66 3 k (gP a::.bad::.bad::nL b c 5::gI d::B 87 [])
def ax_.l8 k a b c d e f g h i j l m n o p q:=aT_ (ax_.cx) f66 8 k (gP a::.bad::.bad::nL b c 5::gI d::.bx [.str e,.int .i64 f,.int .i64 g,.str h,.str i]::.bx [.str j,.int .i64 l,.str m,.str n,.sl o p 3]::gI q::B 84 [])
theorem ob_:as_ ax_.cx f66 (k+1) [x] H Q=ax_.l3 k x none 0 0 H Q:=zz
theorem ax_.l3_eq:ax_.l3 (k+1) x y n i H Q=eJ x H 5 i (cD x H 5 0 i i (λa b=>ah H a (b+tN i*5) λc=>aq H a (b+tN i*5+1) λd=>aq H a (b+tN i*5+1+1) λe=>cA H a (b+tN i*5+1+1+1) H a (b+tN i*5+1+1+1+1) λa b=>ax_.l8 k x y n i c d e a b c e a b none 0 0 H Q)) (dC Q y n 5 H):=zz
theorem ax_.l8_eq:ax_.l8 (k+1) x y n i s j h t r S g R e z m I H Q=cw x H 4 I (dg x H 4 0 I I (λa b=>aq H a (b+tN I*4) λc=>ah H a (b+tN I*4+1) λd=>aq H a (b+tN I*4+1+1) λf=>aD H a (b+tN I*4+1+1+1) λa=>aG aQ_ [x,f] H λb f=>bj c j (aZ 0 f (eG x b 3 0 f f (λc l=>ah b c (l+tN f*3+1+1) λc=>dD b 108 3 40 z m [d,c,a] λa b c=>ax_.l8 k x y n i s j h t r S g R e a b (ac_ .i64 (I+1)) c Q)) (ax_.l8 k x y n i s j h t r S g R e z m (ac_ .i64 (I+1)) b Q)) (ax_.l8 k x y n i s j h t r S g R e z m (ac_ .i64 (I+1)) b Q))) (dD H 52 5 80 y n [S,g,R,e,.sl z m 3] (λa b c=>ax_.l3 k x a b (ac_ .i64 (i+1)) c Q)):=zz
theorem d2_:ao_ prog 66 (ax_):=sO (eZ d3_ func55 eN) nO func66
def cg_.cx:Cx:=⟨tys,[],[(2,[0,1,5])],[],[],aw_,[.tmp 4]⟩
def cg_:=fF cg_.cx f95
def cg_.l2 k a b c d:=aT_ (cg_.cx) f95 2 k (nL a b 5::gS c::B 3 (gI d::B 14 []))
theorem Cn_:as_ cg_.cx f95 (k+1) [nL x n 5,s] H Q=cg_.l2 k x n s 0 H Q:=zz
theorem cg_.l2_eq:cg_.l2 (k+1) x n s i H Q=bX i n (bo (leI 0 i&&ltI i (nI n)) x H (tN i*5) (λa=>cS a s (Q i H) (cg_.l2 k x n s (ac_ .i64 (i+1)) H Q))) (dQ Q .i64 (-1) H):=zz
theorem kn_:ao_ prog 95 (cg_):=sO eN nO func95
def aV_.cx:Cx:=⟨tys,[],[(4,[0,3,5]),(11,[0,7,8])],[],[(51,bt_),(53,cE_),(95,cg_)],aw_,[.tmp 4]⟩
def aV_:=fF aV_.cx f77
def aV_.l4 k a b c d e f g h i:=aT_ (aV_.cx) f77 4 k (nL a b 5::.bad::.bad::.bx [.str c,.int .i64 d,.str e,.str f,.sl g h 3]::.bad::gI i::B 105 [])
def aV_.l11 k a b c d:=aT_ (aV_.cx) f77 11 k (nL a b 5::B 6 (gS c::gI d::B 102 []))
theorem ts_:as_ aV_.cx f77 (k+1) [nL x n 5,.agg [s,i,t,r,.sl y m 3]] H Q=dk bt_ [s] H Q λa=>dq i 0 Q a (dq 2 i Q a (dq 3 (sz r) Q a (bX 4 m (aT Q a) (aV_.l4 k x n s i t r y m 0 a Q)))):=zz
theorem aV_.l4_eq:aV_.l4 (k+1) x n s i t r y m j H Q=bX j m (bC (leI 0 j&&ltI j (nI m)) y H (tN j*3) (λa b c=>ah H a (b+tN j*3+1) λd=>aD H a (b+tN j*3+1+1) λa=>dk cE_ [c] H Q λb=>dq 6 (sz d) Q b (b1_ a (bj i 1 (aT Q b) (aw 0 j (eg (leI 0 (ac_ .i64 (j-1))&&ltI (ac_ .i64 (j-1)) (nI m)) y b (tN (ac_ .i64 (j-1))*3) c c (aT Q b) (aV_.l4 k x n s i t r y m (ac_ .i64 (j+1)) b Q)) (aV_.l4 k x n s i t r y m (ac_ .i64 (j+1)) b Q))) (aw 0 j (eg (leI 0 (ac_ .i64 (j-1))&&ltI (ac_ .i64 (j-1)) (nI m)) y b (tN (ac_ .i64 (j-1))*3) c c (aT Q b) (aV_.l4 k x n s i t r y m (ac_ .i64 (j+1)) b Q)) (aV_.l4 k x n s i t r y m (ac_ .i64 (j+1)) b Q))))) (aV_.l11 k x n t 0 H Q):=zz
theorem aV_.l11_eq:aV_.l11 (k+1) x n s i H Q=dZ s [] (aG cg_ [nL x n 5,s] H (λa b=>dq b 0 Q a (bZ (leI 0 b&&ltI b (nI n)) x a (tN b*5) (λc=>bg c 2 (aT Q a) (dq 6 i Q a (aB (leI 0 b&&ltI b (nI n)) x (λc d=>ah a c (d+tN b*5+2) λb=>aV_.l11 k x n b (ac_ .i64 (i+1)) a Q))))))) (Q true H):=zz
theorem s2_:ao_ prog 77 (aV_):=sO (eZ dR_ func51 (eZ gW_ func53 (eZ kn_ func95 eN))) nO func77
def a5_.cx:Cx:=⟨tys,[],[(4,[0,3])],[],[(77,aV_)],aw_,[.tmp 2]⟩
def a5_:=fF a5_.cx f29
def a5_.l4 k a b c:=aT_ (a5_.cx) f29 4 k (nL a b 5::.bad::.bad::gI c::B 34 [])
theorem pO_:as_ a5_.cx f29 (k+1) [nL x n 5] H Q=bX 6 n (aT Q H) (a5_.l4 k x n 0 H Q):=zz
theorem a5_.l4_eq:a5_.l4 (k+1) x n i H Q=bX i n (cZ (leI 0 i&&ltI i (nI n)) x H (tN i*5) H H H H 3 (λa b c d e f=>dk aV_ [nL x n 5,.agg [a,b,c,d,.sl e f 3]] H Q λa=>aw 0 i (bo (leI 0 i&&ltI i (nI n)) x a (tN i*5) (λb=>eg (leI 0 (ac_ .i64 (i-1))&&ltI (ac_ .i64 (i-1)) (nI n)) x a (tN (ac_ .i64 (i-1))*5) b b (aT Q a) (a5_.l4 k x n (ac_ .i64 (i+1)) a Q))) (a5_.l4 k x n (ac_ .i64 (i+1)) a Q))) (Q true H):=zz
theorem f0_:ao_ prog 29 (a5_):=sO (eZ s2_ func77 eN) nO func29
def b0_.cx:Cx:=⟨tys,[15],[(6,[4,6,7,15]),(11,[6,8,15])],[],[(46,jS_),(74,dM_),(75,bb_),(76,av_),(66,ax_),(29,a5_)],aw_,[.tmp 2,.tmp 3]⟩
def b0_:=fF b0_.cx f28
def b0_.l6 k a b c d e f g:=aT_ (b0_.cx) f28 6 k (B 4 (nL a b 2::.bad::.g (.ptr (some (c,d)))::gI e::B 7 (.g (.ptr (some (f,g)))::B 48 [])))
def b0_.l11 k a b c d e:=aT_ (b0_.cx) f28 11 k (B 6 (.g (.ptr (some (a,b)))::.bad::gI c::B 6 (.g (.ptr (some (d,e)))::B 48 [])))
theorem Ck_:as_ b0_.cx f28 (k+1) [.agg [.sl x n 5]] H Q=bM jS_ [.agg [.sl x n 5]] H 2 λa b c d=>bc b λb=>cp b 0 Q [.s (.ptr (some (ln a,0))),false] (pu a (.row true 61 [.sl none 0 5,.sl none 0 4,.sl none 0 3])) (b0_.l6 k c d (ln a) 0 0 (ln a) 0 (pu a (.row true 61 [.sl none 0 5,.sl none 0 4,.sl none 0 3])) Q):=zz
theorem b0_.l6_eq:b0_.l6 (k+1) x n m l i o N H Q=bX i n (bC (leI 0 i&&ltI i (nI n)) x H (tN i*2) (λa b c=>ah H a (b+tN i*2+1) λa=>bq dM_ [.g (.ptr (some (m,l))),.agg [c,a]] H Q [.s (.ptr (some (m,l))),false] λa=>b0_.l6 k x n m l (ac_ .i64 (i+1)) o N a Q)) (b0_.l11 k m l 0 o N H Q):=zz
theorem b0_.l11_eq:b0_.l11 (k+1) n m i l o H Q=aY H n (m+0) 5 i (cQ H n (m+0) 5 0 i i (λa b=>aq H a (b+tN i*5+1+0) λa=>aG bb_ [.g (.ptr (some (n,m))),a] H λa b=>cp b i Q [.s (.ptr (some (n,m))),false] a (b0_.l11 k n m (ac_ .i64 (i+1)) l o a Q))) (ba av_ [.g (.ptr (some (n,m)))] H (λa b=>b1_ b (aC ax_ [.g (.ptr (some (n,m)))] a 5 (λa b c=>ba a5_ [nL b c 5] a λa b=>ax Q [.s (.ptr (some (n,m))),b] a)) (ax Q [.s (.ptr (some (n,m))),false] a))):=zz
theorem kE_:ao_ prog 28 (b0_):=sO (eZ A2_ func46 (eZ oX_ func74 (eZ g0_ func75 (eZ mV_ func76 (eZ d2_ func66 (eZ f0_ func29 eN)))))) nO func28
def aU_.cx:Cx:=⟨tys,[],[(2,[0,1,5])],[],[],aw_,[.tmp 4]⟩
def aU_:=fF aU_.cx f52
def aU_.l2 k a b c:=aT_ (aU_.cx) f52 2 k (gP a::gS b::B 3 (gI c::B 20 []))
theorem nG_:as_ aU_.cx f52 (k+1) [x,s] H Q=aU_.l2 k x s 0 H Q:=zz
theorem aU_.l2_eq:aU_.l2 (k+1) x s i H Q=eJ x H 5 i (cD x H 5 0 i i (λa b=>ah H a (b+tN i*5+0) λa=>cS a s (Q i H) (aU_.l2 k x s (ac_ .i64 (i+1)) H Q))) (dQ Q .i64 (-1) H):=zz
theorem fb_:ao_ prog 52 (aU_):=sO eN nO func52
def a9_.cx:Cx:=⟨tys,[],[(3,[0,2,7,8])],[],[(52,aU_)],aw_,[.tmp 6]⟩
def a9_:=fF a9_.cx f54
def a9_.l3 k a b c d:=aT_ (a9_.cx) f54 3 k (gP a::.bad::gS b::B 4 (gI c::gI d::B 43 []))
theorem mO_:as_ a9_.cx f54 (k+1) [x,s,t] H Q=dp x H 5 λa b c d=>aG aU_ [x,s] H λe f=>bL e a (b+0) 5 (nL c d 5) (cL (leI 0 f&&ltI f (nI d)) c e (tN f*5) (λa=>a9_.l3 k x t a 0 e Q)):=zz
theorem a9_.l3_eq:a9_.l3 (k+1) x s i j H Q=cw x H 4 j (dg x H 4 0 j j (λa b=>aq H a (b+tN j*4+0) λa=>bj a i (dg x H 4 0 j j (λa b=>ah H a (b+tN j*4+1) λa=>cS a s (Q j H) (a9_.l3 k x s i (ac_ .i64 (j+1)) H Q))) (a9_.l3 k x s i (ac_ .i64 (j+1)) H Q))) (dQ Q .i64 (-1) H):=zz
theorem mR_:ao_ prog 54 (a9_):=sO (eZ fb_ func52 eN) nO func54
def dT_.cx:Cx:=⟨tys,[],[],[],[],aw_,[.tmp 2]⟩
def dT_:=fF dT_.cx f113
theorem pa_:as_ dT_.cx f113 (k+1) [x] H Q=bP x H λa=>oS_ H a λa=>bO x H λb=>oS_ H b λb=>bv x H λc=>oS_ H c λc=>Q (ac_ .i64 (ac_ .i64 (nI a+nI b)+nI c)) H:=zz
theorem oT_:ao_ prog 113 (dT_):=sO eN nO func113
def aE_.cx:Cx:=⟨tys,[],[(3,[0,3,13]),(8,[3,6,25]),(1000016,[135]),(1000028,[136])],[],[],aw_,[.tmp 2]⟩
def aE_:=fF aE_.cx f158
def aE_.l3 k a b c d:=aT_ (aE_.cx) f158 3 k (gP a::.bad::.bad::gM b::B 9 (.g (.ptr (some (c,d)))::B 26 []))
def aE_.l8 k a b c d e:=aT_ (aE_.cx) f158 8 k (B 3 (gM a::.bad::.bad::nL b c 2::B 18 (.g (.ptr (some (d,e)))::B 14 [])))
theorem lS_:as_ aE_.cx f158 (k+1) [x] H Q=bP x (pu H (.map [] 0)) λa=>rng (pu H (.map [] 0)) a λa=>aE_.l3 k x (some (ln H)) (ln (pu H (.map [] 0))) 0 a Q:=zz
theorem aE_.l3_eq:aE_.l3 (k+1) x a n m H Q=cE H n m n m (λb=>bO x b λc=>rng b c λc=>aE_.l8 k a none 0 (ln b) 0 c Q) λb c d=>dh c λ_=>bk d λc d=>d7 c λc _=>cR c (dA b a [.int .i64] d true (λb=>aE_.l3 k x a n m b Q)):=zz
theorem aE_.l8_eq:aE_.l8 (k+1) a x n m l H Q=cE H m l m l (λa=>dC Q x n 2 a) λb c d=>bk c λc e=>cM c λc=>bk d λd _=>d6 d (cT b a [.int .i64] e false (λd _=>rS d λd=>aj d (dD b 144 2 24 x n [e,c] (λb c d=>aE_.l8 k a b c m l d Q)) (aE_.l8 k a x n m l b Q))):=zz
theorem mh_:ao_ prog 158 (aE_):=sO eN nO func158
def bX_.cx:Cx:=⟨tys,[],[],[],[],aw_,[]⟩
def bX_:=fF bX_.cx f116
theorem mL_:as_ bX_.cx f116 (k+1) [x,.agg [i,s]] H Q=bO x H λa=>sy_ H a true [.int .i64,.str] (.a [i,s]) (.a [nN 0,false]) λa _=>bk a λa b=>d6 a (bO x H (λa=>C3_ H a true [.int .i64,.str] (.a [i,s]) λa=>bv x a λc=>dK a c [.int .i64] b (.a [nN 0,mkS []]) λc d=>cM c λc=>bj (ac_ .i64 (d-1)) 0 (bv x a (λc=>C3_ a c false [.int .i64] b λa=>ax Q [] a)) (bv x a (λe=>dA a e [.int .i64] b (.a [ac_ .i64 (d-1),c]) λa=>ax Q [] a)))):=zz
theorem f7_:ao_ prog 116 (bX_):=sO eN nO func116
def bw_.cx:Cx:=⟨tys,[],[(1,[0,5,6,7])],[],[(158,aE_),(116,bX_)],aw_,[]⟩
def bw_:=fF bw_.cx f114
def bw_.l1 k a b c d e:=aT_ (bw_.cx) f114 1 k (gP a::B 4 (nL b c 2::gI d::gI e::B 7 []))
theorem nU_:as_ bw_.cx f114 (k+1) [x] H Q=aC aE_ [x] H 2 λa b c=>bw_.l1 k x b c (nI c) 0 a Q:=zz
theorem bw_.l1_eq:bw_.l1 (k+1) x y n i j H Q=aw j i (aB (leI 0 j&&ltI j (nI n)) y (λa b=>aq H a (b+tN j*2) λc=>ah H a (b+tN j*2+1) λa=>cl bX_ [x,.agg [c,a]] H λ_ a=>bw_.l1 k x y n i (ac_ .i64 (j+1)) a Q)) (ax Q [] H):=zz
theorem nn_:ao_ prog 114 (bw_):=sO (eZ mh_ func158 (eZ f7_ func116 eN)) nO func114
def jH_.cx:Cx:=⟨tys,[7],[],[],[(103,cU_)],aw_,[.tmp 2,.tmp 3]⟩
def jH_:=fF jH_.cx f189
theorem Ba_:as_ jH_.cx f189 (k+1) [s] H Q=dy cU_ [s] H Q [mkS [],nN 1600] (.row true 5 [.int .u8 115]) 1 s Q (nN 0):=zz
theorem Bg_:ao_ prog 189 (jH_):=sO (eZ f5_ func103 eN) nO func189
def j0_.cx:Cx:=⟨tys,[17],[],[],[(217,hU_)],aw_,[.tmp 2,.tmp 3]⟩
def j0_:=fF j0_.cx f190
theorem BP_:as_ j0_.cx f190 (k+1) [.agg [i,j,s,t]] H Q=cU hU_ [.agg [i,j,s,t]] H Q [mkS [],nN 1700] (.row true 5 [.int .u8 (ac_ .u8 i),.int .u8 (ac_ .u8 j),.int .u8 (ac_ .u8 (sz s))]) 3 λa b=>Hm_ b s λb=>db b t Q (nN 0) (pu a (.row true 5 [.int .u8 (ac_ .u8 i),.int .u8 (ac_ .u8 j),.int .u8 (ac_ .u8 (sz s))])):=zz
theorem BI_:ao_ prog 190 (j0_):=sO (eZ t9_ func217 eN) nO func190
def jU_.cx:Cx:=⟨tys,[16],[],[],[(218,gD_),(49,dd_)],aw_,[.tmp 4,.tmp 5]⟩
def jU_:=fF jU_.cx f191
theorem Cm_:as_ jU_.cx f191 (k+1) [i,s] H Q=bq gD_ [i] H Q [mkS [],nN 1600] λa=>dy dd_ [s] a Q [mkS [],nN 1600] (.row true 5 [.int .u8 102,.int .u8 (ac_ .u8 i)]) 2 s Q (nN 0):=zz
theorem A4_:ao_ prog 191 (jU_):=sO (eZ jy_ func218 (eZ he_ func49 eN)) nO func191
def ic_.cx:Cx:=⟨tys,[9],[],[],[(218,gD_)],aw_,[.tmp 2,.tmp 3]⟩
def ic_:=fF ic_.cx f192
theorem zi_:as_ ic_.cx f192 (k+1) [i] H Q=cU gD_ [i] H Q [mkS [],nN 1600] (.row true 5 [.int .u8 105,.int .u8 (ac_ .u8 i)]) 2 λa b=>ax Q [b,nN 0] (pu a (.row true 5 [.int .u8 105,.int .u8 (ac_ .u8 i)])):=zz
theorem z2_:ao_ prog 192 (ic_):=sO (eZ jy_ func218 eN) nO func192
def ig_.cx:Cx:=⟨tys,[10],[],[],[(219,gY_)],aw_,[.tmp 2,.tmp 3]⟩
def ig_:=fF ig_.cx f193
theorem zH_:as_ ig_.cx f193 (k+1) [.agg [i,s]] H Q=dy gY_ [.agg [i,s]] H Q [mkS [],nN 1800] (.row true 5 [.int .u8 (ac_ .u8 i)]) 1 s Q (nN 0):=zz
theorem zQ_:ao_ prog 193 (ig_):=sO (eZ rS_ func219 eN) nO func193
def ap_.cx:Cx:=⟨tys,[66],[(3,[0,3,22]),(8,[0,3,44]),(16,[3,72]),(1000025,[135]),(1000047,[136]),(1000075,[137])],[(14,[0,3,9,10,12,44])],[(189,jH_),(190,j0_),(191,jU_),(192,ic_),(193,ig_)],aw_,[.tmp 2]⟩
def ap_:=fF ap_.cx f159
def ap_.l3 k a b c d:=aT_ (ap_.cx) f159 3 k (gP a::.bad::.bad::gM b::B 18 (.g (.ptr (some (c,d)))::B 68 []))
def ap_.l8 k a b c d:=aT_ (ap_.cx) f159 8 k (gP a::.bad::.bad::gM b::B 40 (.g (.ptr (some (c,d)))::B 46 []))
def ap_.l14 k a b c d e f g h:=aT_ (ap_.cx) f159 14 k (gP a::.bad::.bad::gM b::B 5 (.bx [.int .i64 c,.bool d]::gS e::.bad::.g (.int .u8 f)::B 31 (.g (.ptr (some (g,h)))::B 46 [])))
def ap_.l16 k a b c:=aT_ (ap_.cx) f159 16 k (B 3 (gM a::B 68 (.g (.ptr (some (b,c)))::B 18 [])))
theorem lM_:as_ ap_.cx f159 (k+1) [x] H Q=bP x (pu H (.map [] 0)) λa=>rng (pu H (.map [] 0)) a λa=>ap_.l3 k x (some (ln H)) (ln (pu H (.map [] 0))) 0 a Q:=zz
theorem ap_.l3_eq:ap_.l3 (k+1) x a n m H Q=cE H n m n m (λb=>bO x b λc=>rng b c λc=>ap_.l8 k x a (ln b) 0 c Q) λb c d=>dh c λc=>bk d λd e=>aM d λd f=>aO d λd g=>cM d λd=>du jH_ [c] b λb c=>du j0_ [.agg [e,f,g,d]] b λb d=>dA b a [.str] c d λb=>ap_.l3 k x a n m b Q:=zz
theorem ap_.l8_eq:ap_.l8 (k+1) x a n m H Q=cE H n m n m (λb=>bv x b λc=>rng b c λc=>ap_.l16 k a (ln b) 0 c Q) λb c d=>bk c λc e=>cM c λc=>bk d λd f=>aP d λd g=>uN d (du jU_ [e,c] b (λb c=>b1_ g (ap_.l14 k x a f g c 1 n m b Q) (ap_.l14 k x a f g c 0 n m b Q))):=zz
theorem ap_.l14_eq:ap_.l14 (k+1) x a i b s j n m H Q=rdN (pu H (.row true 5 [.int .u8 (ac_ .u8 i),.int .u8 j])) (some (ln H,0)) 2 λb=>txt b λb=>dA (pu H (.row true 5 [.int .u8 (ac_ .u8 i),.int .u8 j])) a [.str] s b λb=>ap_.l8 k x a n m b Q:=zz
theorem ap_.l16_eq:ap_.l16 (k+1) a n m H Q=cE H n m n m (λb=>cN Q (.map a) b) λb c d=>rS c λc=>ai c λc=>bk d λd e=>cM d λd=>du ic_ [c] b λb c=>du ig_ [.agg [e,d]] b λb d=>dA b a [.str] c d λb=>ap_.l16 k a n m b Q:=zz
theorem lH_:ao_ prog 159 (ap_):=sO (eZ Bg_ func189 (eZ BI_ func190 (eZ A4_ func191 (eZ z2_ func192 (eZ zQ_ func193 eN))))) nO func159
def cx_.cx:Cx:=⟨tys,[],[(3,[0,1,6,9,10,11])],[],[],aw_,[.tmp 4,.tmp 5]⟩
def cx_:=fF cx_.cx f226
def cx_.l3 k a b c d e f g h:=aT_ (cx_.cx) f226 3 k (nL a b 1::gS c::B 4 (gI d::.bad::.bad::nL e f 1::gI g::gI h::B 22 []))
theorem z6_:as_ cx_.cx f226 (k+1) [nL x n 1,s] H Q=cx_.l3 k x n s 0 x n (nI n) 0 H Q:=zz
theorem cx_.l3_eq:cx_.l3 (k+1) x n s i y m j h H Q=aw h j (ew (leI 0 h&&ltI h (nI m)) y H (tN h*1) s (cx_.l3 k x n s (ac_ .i64 (i+1)) y m j (ac_ .i64 (h+1)) H Q) (cx_.l3 k x n s i y m j (ac_ .i64 (h+1)) H Q)) (bX i n (aH (leI 0 i&&ltI i (nI n)) x H (tN i*1) (λa=>ax Q [i,.s (.bool (gf_ a s))] H)) (ax Q [i,false] H)):=zz
theorem jl_:ao_ prog 226 (cx_):=sO eN nO func226
def gB_.cx:Cx:=⟨tys,[],[],[],[(226,cx_)],aw_,[.tmp 4]⟩
def gB_:=fF gB_.cx f225
theorem Bp_:as_ gB_.cx f225 (k+1) [x,s] H Q=cI x H 1 λa b=>cd cx_ [nL a b 1,s] H λa b c=>b1_ c (Q (ac_ .i64 (b+1)) a) (Q b a):=zz
theorem og_:ao_ prog 225 (gB_):=sO (eZ jl_ func226 eN) nO func225
def dn_.cx:Cx:=⟨tys,[],[(4,[1,2,7]),(2000000,[7])],[],[(201,d5_),(225,gB_),(226,cx_)],aw_,[.tmp 4,.tmp 5,.tmp 6]⟩
def dn_:=fF dn_.cx f194
def dn_.l4 k a b c d e:=aT_ (dn_.cx) f194 4 k (.bad::gS a::.bx [.sl b c 5]::B 4 (.g (.ptr (some (d,e)))::B 43 []))
theorem Af_:as_ dn_.cx f194 (k+1) [.agg [.sl x n 5],s] H Q=bq d5_ [.agg [.sl x n 5]] H Q [mkS [],false,nN 1100] λa=>aB (leI 0 0&&ltI 0 (nI n)) x λb c=>dn_.l4 k s x n b (c+tN 0*5) a Q:=zz
theorem dn_.l4_eq:dn_.l4 (k+1) s x n m l H Q=rd H m (l+1) λa=>aj a (dJ H m (l+4) (λa b=>aG gB_ [.g (.ptr (some (m,l))),s] H λc d=>cz c m (l+4) 1 (nL a b 1) (aJ (leI 0 d&&ltI d (nI b)) a c (tN d*1) (λa=>aB (leI 0 a&&ltI a (nI n)) x λb d=>dn_.l4 k s x n b (d+tN a*5) c Q)))) (dJ H m (l+2) (λa b=>cd cx_ [nL a b 1,s] H λa b c=>aK c (ax Q [mkS [],false,nN 0] a) (cQ a m (l+3) 1 0 b b (λc d=>ah a c (d+tN b*1) λb=>ax Q [b,true,nN 0] a)))):=zz
theorem rd_:ao_ prog 194 (dn_):=sO (eZ jI_ func201 (eZ og_ func225 (eZ jl_ func226 eN))) nO func194
def bC_.cx:Cx:=⟨tys,[],[],[],[],aw_,[.tmp 2]⟩
def bC_:=fF bC_.cx f242
theorem ij_:as_ bC_.cx f242 (k+1) [nL x n 1] H Q=b1_ (isNone x) (dC Q none 0 1 H) (aN (dG H x (n*1) H 9 1 16 n (λa=>dC Q (some (ln H,0)) n 1 a))):=zz
theorem id_:ao_ prog 242 (bC_):=sO eN nO func242
def cK_.cx:Cx:=⟨tys,[],[],[],[],aw_,[.tmp 2]⟩
def cK_:=fF cK_.cx f243
theorem kT_:as_ cK_.cx f243 (k+1) [nL x n 1] H Q=b1_ (isNone x) (dC Q none 0 1 H) (aN (dG H x (n*1) H 3 1 8 n (λa=>dC Q (some (ln H,0)) n 1 a))):=zz
theorem kQ_:ao_ prog 243 (cK_):=sO eN nO func243
def e4_.cx:Cx:=⟨tys,[],[],[],[(242,bC_),(243,cK_)],aw_,[.cell 2 100]⟩
def e4_:=fF e4_.cx f227
theorem zM_:as_ e4_.cx f227 (k+1) [.agg [b,c,.sl x n 1,.sl y m 1,.sl z l 1]] H Q=aC bC_ [nL x n 1] H 1 λa d e=>aC bC_ [nL y m 1] a 1 λa f g=>aC cK_ [nL z l 1] a 1 λa h i=>en Q [b,c,.sl d e 1,.sl f g 1,.sl h i 1] a:=zz
theorem lZ_:ao_ prog 227 (e4_):=sO (eZ id_ func242 (eZ kQ_ func243 eN)) nO func227
def cA_.cx:Cx:=⟨tys,[],[(3,[2,3,8,9,10])],[],[(227,e4_)],aw_,[.cell 2 24]⟩
def cA_:=fF cA_.cx f195
def cA_.l3 k a b c d e f g h:=aT_ (cA_.cx) f195 3 k (.bad::.bad::.bx [.sl a b 5]::.bx [.sl c d 5]::B 4 (nL e f 5::gI g::gI h::B 12 []))
theorem xs_:as_ cA_.cx f195 (k+1) [.agg [.sl x n 5]] H Q=cA_.l3 k none 0 none 0 x n (nI n) 0 H Q:=zz
theorem cA_.l3_eq:cA_.l3 (k+1) x n y m z l i j H Q=aw j i (bV (leI 0 j&&ltI j (nI l)) z H (tN j*5) H (tN j*5) H (tN j*5) 1 H (tN j*5) 1 H (tN j*5) 1 (λa b c d e f g h=>bh e4_ [.agg [a,b,.sl c d 1,.sl e f 1,.sl g h 1]] H λa b=>ct b 1 1 1 λb c d e f g h o=>dD a 100 5 80 y m [b,c,.sl d e 1,.sl f g 1,.sl h o 1] λa b c=>cA_.l3 k x n a b z l i (ac_ .i64 (j+1)) c Q)) (en Q [.sl y m 5] H):=zz
theorem pz_:ao_ prog 195 (cA_):=sO (eZ lZ_ func227 eN) nO func195
end Go.Am
