import Derived.Test.YtjbgjfikgpffmaaGreatM1
import Derived.Test.YtjbgjfikgpffmaaGreatProg
import Derived.KernelRfl
import Derived.RangeFuncBox
import Derived.RangeFuncLeaves
import Derived.Shelf.Abstract
import Derived.WalkKit
import Derived.OwnWalkIn
import Derived.TacticsInMore
import Derived.LoopNIn
import Derived.LoopIn
import Derived.Maps.AppendAt
import Derived.Shelf.SortM.Plain
import Derived.Shelf.SortM.SortNone
import Derived.Lib.SlKeysI
import Derived.Shelf.SlIter.Nil
import Derived.Sort.Walk0
import Derived.Lib.Bytealg
import Derived.Shelf.Spec.SlicesInsertGrow
import Derived.Shelf.SlMaps.Clone
set_option linter.all false
set_option autoImplicit true
set_option relaxedAutoImplicit true
set_option maxRecDepth 100000
namespace Go.Am
open List
def tys:List TI:=[
⟨false,[],0,[],0,4,[],0⟩,
⟨false,[.fn],0,[],8,0,[],0⟩,
⟨false,[(.int .i64)],0,[],8,0,[],0⟩,
⟨false,[(.int .i64)],0,[],8,0,[],0⟩,
⟨false,[.bool],0,[],1,0,[],0⟩,
⟨false,[(.int .u8)],0,[],1,0,[],0⟩,
⟨false,[(.int .u8)],0,[],1,0,[],0⟩,
⟨true,[(.int .i64),(.int .i64),.bool,(.int .u8)],1,[(0,2),(1,3),(2,4),(3,6)],24,0,[],0⟩,
⟨true,[(.int .i64),(.int .i64),.bool,(.int .u8)],1,[(0,2),(1,3),(2,4),(3,6)],24,0,[],0⟩,
⟨false,[.str],0,[],16,3,[],0⟩,
⟨false,[.str],0,[],16,3,[],0⟩,
⟨false,[.str],0,[],16,3,[],0⟩,
⟨false,[(.int .u64)],0,[],8,0,[],0⟩,
⟨true,[.str,(.int .u64)],0,[(0,9),(1,12)],24,0,[],0⟩,
⟨true,[.str,(.int .u64)],0,[(0,9),(1,12)],24,0,[],0⟩,
⟨false,[.ptr],349,[],8,2,[],0⟩,
⟨false,[.ptr],352,[],8,2,[],0⟩,
⟨false,[.ptr],360,[],8,2,[],0⟩,
⟨true,[.ptr],0,[(0,17)],8,0,[],0⟩,
⟨true,[.ptr],0,[(0,17)],8,0,[],0⟩,
⟨false,[.iface],0,[],16,0,[],0⟩,
⟨false,[(.int .i32)],0,[],4,0,[],0⟩,
⟨false,[(.sl 5)],100,[],24,1,[],0⟩,
⟨true,[(.sl 5)],0,[(0,22)],24,0,[],0⟩,
⟨true,[(.sl 5)],0,[(0,22)],24,0,[],0⟩,
⟨false,[.fn],0,[],8,0,[],0⟩,
⟨false,[(.int .i64)],0,[],8,0,[],0⟩,
⟨false,[],0,[(0,9),(0,26)],0,4,[],0⟩,
⟨false,[.fn],0,[],8,0,[],0⟩,
⟨false,[],0,[(0,9),(0,3)],0,4,[],0⟩,
⟨false,[.fn],0,[],8,0,[],0⟩,
⟨false,[],0,[(0,24),(0,26)],0,4,[],0⟩,
⟨false,[.fn],0,[],8,0,[],0⟩,
⟨false,[.fn],0,[],8,0,[],0⟩,
⟨false,[.fn],0,[],8,0,[],0⟩,
⟨false,[.fn],0,[],8,0,[],0⟩,
⟨false,[(.sl 5)],52,[],24,1,[],0⟩,
⟨false,[],0,[(0,36),(0,3)],0,4,[],0⟩,
⟨false,[.fn],0,[],8,0,[],0⟩,
⟨false,[.fn],0,[],8,0,[],0⟩,
⟨false,[.fn],0,[],8,0,[],0⟩,
⟨false,[.fn],0,[],8,0,[],0⟩,
⟨false,[.fn],0,[],8,0,[],0⟩,
⟨false,[.fn],0,[],8,0,[],0⟩,
⟨false,[.fn],0,[],8,0,[],0⟩,
⟨false,[.fn],0,[],8,0,[],0⟩,
⟨false,[(.sl 1)],9,[],24,1,[],0⟩,
⟨false,[(.sl 1)],3,[],24,1,[],0⟩,
⟨false,[(.int .u64)],0,[],8,0,[],0⟩,
⟨false,[.fn],0,[],8,0,[],0⟩,
⟨false,[(.sl 3)],108,[],24,1,[],0⟩,
⟨true,[.str,(.int .i64),.str,.str,(.sl 3)],0,[(0,9),(1,3),(2,9),(3,9),(4,50)],80,0,[],0⟩,
⟨true,[.str,(.int .i64),.str,.str,(.sl 3)],0,[(0,9),(1,3),(2,9),(3,9),(4,50)],80,0,[],0⟩,
⟨false,[.fn],0,[],8,0,[],0⟩,
⟨false,[.ptr],61,[],8,2,[],0⟩,
⟨false,[],0,[(0,54),(0,4)],0,4,[],0⟩,
⟨false,[.fn],0,[],8,0,[],0⟩,
⟨false,[(.sl 5)],83,[],24,1,[],0⟩,
⟨false,[(.sl 4)],87,[],24,1,[],0⟩,
⟨false,[(.sl 3)],65,[],24,1,[],0⟩,
⟨true,[(.sl 5),(.sl 4),(.sl 3)],0,[(0,57),(1,58),(2,59)],72,0,[],0⟩,
⟨true,[(.sl 5),(.sl 4),(.sl 3)],0,[(0,57),(1,58),(2,59)],72,0,[],0⟩,
⟨true,[(.int .i64),.str],1,[(0,3),(1,9)],24,0,[],0⟩,
⟨true,[(.int .i64),.str],1,[(0,3),(1,9)],24,0,[],0⟩,
⟨true,[(.int .i64),(.int .i64),.str],0,[(0,3),(1,63)],32,0,[],0⟩,
⟨true,[(.int .i64),(.int .i64),.str],0,[(0,3),(1,63)],32,0,[],0⟩,
⟨false,[.fn],0,[],8,0,[],0⟩,
⟨false,[.fn],0,[],8,0,[],0⟩,
⟨false,[.fn],0,[],8,0,[],0⟩,
⟨true,[.str,.str,.str,.str],9,[],64,6,[],4⟩,
⟨true,[.bool,.bool,.bool,.bool],4,[],4,6,[],4⟩,
⟨false,[(.sl 1)],5,[],24,1,[],0⟩,
⟨false,[.fn],0,[],8,0,[],0⟩,
⟨false,[],0,[(0,36),(0,26)],0,4,[],0⟩,
⟨false,[.fn],0,[],8,0,[],0⟩,
⟨false,[.fn],0,[],8,0,[],0⟩,
⟨false,[.fn],0,[],8,0,[],0⟩,
⟨false,[.fn],0,[],8,0,[],0⟩,
⟨false,[.fn],0,[],8,0,[],0⟩,
⟨false,[.fn],0,[],8,0,[],0⟩,
⟨true,[(.int .i64),(.int .i64),.str,.str],1,[(0,3),(1,3),(2,9),(3,9)],48,0,[],0⟩,
⟨true,[(.int .i64),(.int .i64),.str,.str],1,[(0,3),(1,3),(2,9),(3,9)],48,0,[],0⟩,
⟨true,[.str,(.int .i64),(.int .i64),.str,.str],0,[(0,9),(1,81)],64,0,[],0⟩,
⟨true,[.str,(.int .i64),(.int .i64),.str,.str],0,[(0,9),(1,81)],64,0,[],0⟩,
⟨false,[],0,[(0,24),(0,3)],0,4,[],0⟩,
⟨false,[.fn],0,[],8,0,[],0⟩,
⟨true,[(.int .i64),.str,(.int .i64),.bool],1,[(0,3),(1,9),(2,3),(3,4)],40,0,[],0⟩,
⟨true,[(.int .i64),.str,(.int .i64),.bool],1,[(0,3),(1,9),(2,3),(3,4)],40,0,[],0⟩,
⟨false,[.fn],0,[],8,0,[],0⟩,
⟨false,[(.sl 1)],24,[],24,1,[],0⟩,
⟨false,[(.sl 1)],4,[],24,1,[],0⟩,
⟨false,[(.sl 10)],93,[],24,1,[],0⟩,
⟨true,[(.int .i64),.str,.str,.str,.str,.str,(.int .i64),.str,(.int .i64),(.int .i64)],1,[(0,3),(1,9),(2,9),(3,9),(4,9),(5,9),(6,3),(7,9),(8,3),(9,3)],128,0,[],0⟩,
⟨true,[(.int .i64),.str,.str,.str,.str,.str,(.int .i64),.str,(.int .i64),(.int .i64)],1,[(0,3),(1,9),(2,9),(3,9),(4,9),(5,9),(6,3),(7,9),(8,3),(9,3)],128,0,[],0⟩,
⟨false,[.fn],0,[],8,0,[],0⟩,
⟨false,[(.sl 2)],131,[],24,1,[],0⟩,
⟨false,[],0,[(0,95),(0,3)],0,4,[],0⟩,
⟨false,[.fn],0,[],8,0,[],0⟩,
⟨false,[.fn],0,[],8,0,[],0⟩,
⟨true,[.bool,.bool,(.sl 1),(.sl 1),(.sl 1)],0,[(0,4),(1,4),(2,46),(3,46),(4,47)],80,0,[],0⟩,
⟨true,[.bool,.bool,(.sl 1),(.sl 1),(.sl 1)],0,[(0,4),(1,4),(2,46),(3,46),(4,47)],80,0,[],0⟩,
⟨false,[.fn],0,[],8,0,[],0⟩,
⟨false,[],0,[(0,52),(0,26)],0,4,[],0⟩,
⟨false,[.fn],0,[],8,0,[],0⟩,
⟨false,[.fn],0,[],8,0,[],0⟩,
⟨false,[],0,[(0,3),(0,4)],0,4,[],0⟩,
⟨false,[.fn],0,[],8,0,[],0⟩,
⟨true,[.str,.str,.bool],1,[(0,9),(1,9),(2,4)],40,0,[],0⟩,
⟨true,[.str,.str,.bool],1,[(0,9),(1,9),(2,4)],40,0,[],0⟩,
⟨false,[.fn],0,[],8,0,[],0⟩,
⟨false,[.fn],0,[],8,0,[],0⟩,
⟨false,[.fn],0,[],8,0,[],0⟩,
⟨false,[.fn],0,[],8,0,[],0⟩,
⟨false,[.fn],0,[],8,0,[],0⟩,
⟨false,[.fn],0,[],8,0,[],0⟩,
⟨false,[.ptr],139,[],8,2,[],0⟩,
⟨false,[.fn],0,[],8,0,[],0⟩,
⟨false,[.fn],0,[],8,0,[],0⟩,
⟨false,[.fn],0,[],8,0,[],0⟩,
⟨false,[.fn],0,[],8,0,[],0⟩,
⟨false,[.fn],0,[],8,0,[],0⟩,
⟨false,[.fn],0,[],8,0,[],0⟩,
⟨false,[],0,[(0,3),(0,3)],0,4,[],0⟩,
⟨false,[.fn],0,[],8,0,[],0⟩,
⟨false,[.fn],0,[],8,0,[],0⟩,
⟨false,[.fn],0,[],8,0,[],0⟩,
⟨false,[.fn],0,[],8,0,[],0⟩,
⟨false,[.fn],0,[],8,0,[],0⟩,
⟨false,[.fn],0,[],8,0,[],0⟩,
⟨false,[.fn],0,[],8,0,[],0⟩,
⟨true,[.str,.str],1,[(0,9),(1,9)],32,0,[],0⟩,
⟨true,[.str,.str],1,[(0,9),(1,9)],32,0,[],0⟩,
⟨false,[.fn],0,[],8,0,[],0⟩,
⟨false,[],0,[(0,115),(0,4)],0,4,[],0⟩,
⟨false,[.fn],0,[],8,0,[],0⟩,
⟨false,[.map],81,[],8,5,[],9⟩,
⟨false,[.map],146,[],8,5,[],144⟩,
⟨false,[.map],63,[],8,5,[],3⟩,
⟨true,[(.sl 5),.map,.map,.map,(.sl 5)],0,[(0,24),(1,135),(2,136),(3,137),(4,36)],72,0,[],0⟩,
⟨true,[(.sl 5),.map,.map,.map,(.sl 5)],0,[(0,24),(1,135),(2,136),(3,137),(4,36)],72,0,[],0⟩,
⟨false,[.fn],0,[],8,0,[],0⟩,
⟨false,[.fn],0,[],8,0,[],0⟩,
⟨false,[.fn],0,[],8,0,[],0⟩,
⟨true,[(.int .i64),.str],1,[(0,3),(1,9)],24,0,[],0⟩,
⟨true,[(.int .i64),.str],1,[(0,3),(1,9)],24,0,[],0⟩,
⟨true,[(.int .i64),.bool],1,[(0,3),(1,4)],16,0,[],0⟩,
⟨true,[(.int .i64),.bool],1,[(0,3),(1,4)],16,0,[],0⟩,
⟨false,[.fn],0,[],8,0,[],0⟩,
⟨false,[.fn],0,[],8,0,[],0⟩,
⟨false,[.fn],0,[],8,0,[],0⟩,
⟨false,[.fn],0,[],8,0,[],0⟩,
⟨false,[.fn],0,[],8,0,[],0⟩,
⟨false,[.fn],0,[],8,0,[],0⟩,
⟨false,[.fn],0,[],8,0,[],0⟩,
⟨false,[.fn],0,[],8,0,[],0⟩,
⟨false,[.fn],0,[],8,0,[],0⟩,
⟨false,[.fn],0,[],8,0,[],0⟩,
⟨false,[.fn],0,[],8,0,[],0⟩,
⟨false,[.fn],0,[],8,0,[],0⟩,
⟨false,[.fn],0,[],8,0,[],0⟩,
⟨false,[.ptr],52,[],8,2,[],0⟩,
⟨false,[],0,[(0,36),(0,160),(0,26)],0,4,[],0⟩,
⟨false,[.fn],0,[],8,0,[],0⟩,
⟨false,[.fn],0,[],8,0,[],0⟩,
⟨false,[],0,[(0,146),(0,4)],0,4,[],0⟩,
⟨false,[.fn],0,[],8,0,[],0⟩,
⟨false,[.fn],0,[],8,0,[],0⟩,
⟨false,[.fn],0,[],8,0,[],0⟩,
⟨false,[.fn],0,[],8,0,[],0⟩,
⟨false,[.fn],0,[],8,0,[],0⟩,
⟨false,[],0,[(0,9),(0,4)],0,4,[],0⟩,
⟨false,[.fn],0,[],8,0,[],0⟩,
⟨false,[],0,[(0,81),(0,3)],0,4,[],0⟩,
⟨false,[.fn],0,[],8,0,[],0⟩,
⟨false,[],0,[(0,3),(0,9),(0,4)],0,4,[],0⟩,
⟨false,[.fn],0,[],8,0,[],0⟩,
⟨false,[.fn],0,[],8,0,[],0⟩,
⟨false,[],0,[(0,63),(0,3)],0,4,[],0⟩,
⟨false,[.fn],0,[],8,0,[],0⟩,
⟨false,[],0,[(0,95),(0,26)],0,4,[],0⟩,
⟨false,[.fn],0,[],8,0,[],0⟩,
⟨false,[.fn],0,[],8,0,[],0⟩,
⟨false,[.fn],0,[],8,0,[],0⟩,
⟨false,[.fn],0,[],8,0,[],0⟩,
⟨false,[.map],4,[],8,5,[],3⟩,
⟨false,[.fn],0,[],8,0,[],0⟩,
⟨false,[.fn],0,[],8,0,[],0⟩,
⟨false,[],0,[(0,36),(0,3),(0,26)],0,4,[],0⟩,
⟨false,[.fn],0,[],8,0,[],0⟩,
⟨false,[.fn],0,[],8,0,[],0⟩,
⟨false,[.fn],0,[],8,0,[],0⟩,
⟨false,[.fn],0,[],8,0,[],0⟩,
⟨false,[.ptr],230,[],8,2,[],0⟩,
⟨false,[],0,[(0,192),(0,4)],0,4,[],0⟩,
⟨false,[.fn],0,[],8,0,[],0⟩,
⟨false,[.fn],0,[],8,0,[],0⟩,
⟨false,[.fn],0,[],8,0,[],0⟩,
⟨true,[(.sl 5),(.sl 1)],0,[(0,22),(1,46)],48,0,[],0⟩,
⟨true,[(.sl 5),(.sl 1)],0,[(0,22),(1,46)],48,0,[],0⟩,
⟨false,[.fn],0,[],8,0,[],0⟩,
⟨false,[.fn],0,[],8,0,[],0⟩,
⟨false,[.fn],0,[],8,0,[],0⟩,
⟨false,[.fn],0,[],8,0,[],0⟩,
⟨false,[.fn],0,[],8,0,[],0⟩,
⟨false,[(.sl 2)],144,[],24,1,[],0⟩,
⟨false,[.fn],0,[],8,0,[],0⟩,
⟨false,[.map],9,[],8,5,[],9⟩,
⟨false,[.fn],0,[],8,0,[],0⟩,
⟨false,[],0,[(0,24),(0,4),(0,26)],0,4,[],0⟩,
⟨false,[.fn],0,[],8,0,[],0⟩,
⟨false,[.fn],0,[],8,0,[],0⟩,
⟨false,[.fn],0,[],8,0,[],0⟩,
⟨false,[.fn],0,[],8,0,[],0⟩,
⟨false,[.fn],0,[],8,0,[],0⟩,
⟨false,[],0,[(0,63),(0,4)],0,4,[],0⟩,
⟨false,[.fn],0,[],8,0,[],0⟩,
⟨false,[.fn],0,[],8,0,[],0⟩,
⟨false,[.fn],0,[],8,0,[],0⟩,
⟨false,[],0,[(0,81),(0,26)],0,4,[],0⟩,
⟨false,[.fn],0,[],8,0,[],0⟩,
⟨false,[],0,[(0,63),(0,26)],0,4,[],0⟩,
⟨false,[.fn],0,[],8,0,[],0⟩,
⟨false,[.map],3,[],8,5,[],3⟩,
⟨false,[.fn],0,[],8,0,[],0⟩,
⟨false,[.fn],0,[],8,0,[],0⟩,
⟨false,[.fn],0,[],8,0,[],0⟩,
⟨false,[.fn],0,[],8,0,[],0⟩,
⟨false,[.fn],0,[],8,0,[],0⟩,
⟨false,[.fn],0,[],8,0,[],0⟩,
⟨true,[(.sl 1),(.int .i64),(.int .i64),.bool],0,[(0,90),(1,3),(2,3),(3,4)],48,0,[],0⟩,
⟨true,[(.sl 1),(.int .i64),(.int .i64),.bool],0,[(0,90),(1,3),(2,3),(3,4)],48,0,[],0⟩,
⟨false,[.fn],0,[],8,0,[],0⟩,
⟨false,[.fn],0,[],8,0,[],0⟩,
⟨false,[.fn],0,[],8,0,[],0⟩,
⟨false,[.fn],0,[],8,0,[],0⟩,
⟨false,[.fn],0,[],8,0,[],0⟩,
⟨false,[.fn],0,[],8,0,[],0⟩,
⟨false,[.fn],0,[],8,0,[],0⟩,
⟨false,[],0,[(0,9),(0,4),(0,26)],0,4,[],0⟩,
⟨false,[.fn],0,[],8,0,[],0⟩,
⟨false,[.ptr],242,[],8,2,[],0⟩,
⟨true,[(.sl 5)],0,[(0,22)],24,0,[],0⟩,
⟨true,[(.sl 5)],0,[(0,22)],24,0,[],0⟩,
⟨false,[.fn],0,[],8,0,[],0⟩,
⟨false,[.fn],0,[],8,0,[],0⟩,
⟨false,[.fn],0,[],8,0,[],0⟩,
⟨false,[.ptr],24,[],8,2,[],0⟩,
⟨false,[.ptr],250,[],8,2,[],0⟩,
⟨false,[(.sl 1)],3,[],24,1,[],0⟩,
⟨true,[(.sl 5),(.sl 1)],0,[(0,22),(1,248)],48,0,[],0⟩,
⟨true,[(.sl 5),(.sl 1)],0,[(0,22),(1,248)],48,0,[],0⟩,
⟨false,[.fn],0,[],8,0,[],0⟩,
⟨false,[.ptr],248,[],8,2,[("Len",337,false),("Less",338,false),("Pop",340,true),("Push",341,true),("Swap",339,false)],0⟩,
⟨false,[.ptr],257,[],8,2,[],0⟩,
⟨false,[.fn],0,[],8,0,[],0⟩,
⟨false,[.fn],0,[],8,0,[],0⟩,
⟨true,[.str,(.int .i64)],1,[(0,9),(1,3)],24,0,[],0⟩,
⟨true,[.str,(.int .i64)],1,[(0,9),(1,3)],24,0,[],0⟩,
⟨false,[.fn],0,[],8,0,[],0⟩,
⟨false,[.fn],0,[],8,0,[],0⟩,
⟨false,[.fn],0,[],8,0,[],0⟩,
⟨false,[.fn],0,[],8,0,[],0⟩,
⟨false,[.fn],0,[],8,0,[],0⟩,
⟨false,[.fn],0,[],8,0,[],0⟩,
⟨false,[.fn],0,[],8,0,[],0⟩,
⟨false,[.fn],0,[],8,0,[],0⟩,
⟨false,[.fn],0,[],8,0,[],0⟩,
⟨false,[.ptr],100,[],8,2,[],0⟩,
⟨false,[.fn],0,[],8,0,[],0⟩,
⟨false,[.fn],0,[],8,0,[],0⟩,
⟨false,[.fn],0,[],8,0,[],0⟩,
⟨false,[.fn],0,[],8,0,[],0⟩,
⟨false,[.fn],0,[],8,0,[],0⟩,
⟨false,[.fn],0,[],8,0,[],0⟩,
⟨false,[.iface],0,[],16,0,[],0⟩,
⟨false,[.iface],0,[],16,0,[],0⟩,
⟨false,[.fn],0,[],8,0,[],0⟩,
⟨false,[.fn],0,[],8,0,[],0⟩,
⟨false,[.fn],0,[],8,0,[],0⟩,
⟨false,[.fn],0,[],8,0,[],0⟩,
⟨false,[.fn],0,[],8,0,[],0⟩,
⟨false,[.fn],0,[],8,0,[],0⟩,
⟨false,[.fn],0,[],8,0,[],0⟩,
⟨false,[.fn],0,[],8,0,[],0⟩,
⟨false,[],0,[(0,100),(0,26)],0,4,[],0⟩,
⟨false,[.fn],0,[],8,0,[],0⟩,
⟨false,[.fn],0,[],8,0,[],0⟩,
⟨false,[.fn],0,[],8,0,[],0⟩,
⟨false,[],0,[(0,100),(0,9),(0,100)],0,4,[],0⟩,
⟨false,[.fn],0,[],8,0,[],0⟩,
⟨false,[.fn],0,[],8,0,[],0⟩,
⟨false,[(.int .i64)],0,[],8,0,[],0⟩,
⟨false,[],0,[(0,3),(0,291)],0,4,[],0⟩,
⟨false,[.fn],0,[],8,0,[],0⟩,
⟨false,[.fn],0,[],8,0,[],0⟩,
⟨false,[.fn],0,[],8,0,[],0⟩,
⟨false,[.fn],0,[],8,0,[],0⟩,
⟨false,[.fn],0,[],8,0,[],0⟩,
⟨false,[.fn],0,[],8,0,[],0⟩,
⟨false,[(.int .u32)],0,[],4,0,[],0⟩,
⟨false,[.fn],0,[],8,0,[],0⟩,
⟨false,[(.int .u64)],0,[],8,0,[],0⟩,
⟨false,[.ptr],304,[],8,2,[],0⟩,
⟨true,[(.sl 5),(.sl 1),(.int .i64),(.int .i64)],0,[(0,22),(1,90),(2,3),(3,3)],64,0,[],0⟩,
⟨true,[(.sl 5),(.sl 1),(.int .i64),(.int .i64)],0,[(0,22),(1,90),(2,3),(3,3)],64,0,[],0⟩,
⟨false,[.fn],0,[],8,0,[],0⟩,
⟨true,[.str,.str,.bool],1,[(0,9),(1,9),(2,4)],40,0,[],0⟩,
⟨true,[.str,.str,.bool],1,[(0,9),(1,9),(2,4)],40,0,[],0⟩,
⟨false,[.fn],0,[],8,0,[],0⟩,
⟨false,[.fn],0,[],8,0,[],0⟩,
⟨false,[.fn],0,[],8,0,[],0⟩,
⟨false,[.fn],0,[],8,0,[],0⟩,
⟨false,[],0,[(0,100),(0,9),(0,100),(0,26)],0,4,[],0⟩,
⟨false,[.fn],0,[],8,0,[],0⟩,
⟨false,[.fn],0,[],8,0,[],0⟩,
⟨false,[.fn],0,[],8,0,[],0⟩,
⟨false,[.fn],0,[],8,0,[],0⟩,
⟨false,[(.int .u64)],0,[],8,0,[],0⟩,
⟨false,[.fn],0,[],8,0,[],0⟩,
⟨false,[.fn],0,[],8,0,[],0⟩,
⟨false,[.fn],0,[],8,0,[],0⟩,
⟨false,[.ptr],3,[],8,2,[],0⟩,
⟨false,[.fn],0,[],8,0,[],0⟩,
⟨false,[.fn],0,[],8,0,[],0⟩,
⟨false,[.fn],0,[],8,0,[],0⟩,
⟨false,[.ptr],317,[],8,2,[],0⟩,
⟨false,[.fn],0,[],8,0,[],0⟩,
⟨false,[.fn],0,[],8,0,[],0⟩,
⟨false,[.fn],0,[],8,0,[],0⟩,
⟨false,[.fn],0,[],8,0,[],0⟩,
⟨false,[.fn],0,[],8,0,[],0⟩,
⟨false,[.fn],0,[],8,0,[],0⟩,
⟨false,[.fn],0,[],8,0,[],0⟩,
⟨false,[.fn],0,[],8,0,[],0⟩,
⟨false,[.fn],0,[],8,0,[],0⟩,
⟨false,[.fn],0,[],8,0,[],0⟩,
⟨false,[.fn],0,[],8,0,[],0⟩,
⟨false,[.fn],0,[],8,0,[],0⟩,
⟨false,[.fn],0,[],8,0,[],0⟩,
⟨false,[.fn],0,[],8,0,[],0⟩,
⟨false,[.fn],0,[],8,0,[],0⟩,
⟨false,[.fn],0,[],8,0,[],0⟩,
⟨false,[.fn],0,[],8,0,[],0⟩,
⟨false,[.fn],0,[],8,0,[],0⟩,
⟨false,[.fn],0,[],8,0,[],0⟩,
⟨false,[.fn],0,[],8,0,[],0⟩,
⟨false,[.fn],0,[],8,0,[],0⟩,
⟨false,[.fn],0,[],8,0,[],0⟩,
⟨true,[.ptr,.ptr,.ptr,.str],0,[(0,17),(1,17),(2,17),(3,9)],40,0,[],0⟩,
⟨true,[.ptr,.ptr,.ptr,.str],0,[(0,17),(1,17),(2,17),(3,9)],40,0,[],0⟩,
⟨true,[],16,[],0,6,[],0⟩,
⟨true,[],0,[(0,350)],0,0,[],0⟩,
⟨true,[],0,[(0,350)],0,0,[],0⟩,
⟨false,[(.int .u8)],0,[],1,0,[],0⟩,
⟨false,[(.int .u8)],0,[],1,0,[],0⟩,
⟨false,[.fn],0,[],8,0,[],0⟩,
⟨false,[.ptr],5,[],8,2,[],0⟩,
⟨false,[(.int .i32)],0,[],4,0,[],0⟩,
⟨false,[(.int .i32)],0,[],4,0,[],0⟩,
⟨true,[(.int .u64),(.int .u64),(.int .u32),(.int .u8),(.int .u8),(.int .u8),(.int .u8),.fn,.ptr,(.int .i32),(.int .i32)],0,[(0,12),(1,12),(2,299),(3,353),(4,5),(5,5),(6,354),(7,355),(8,356),(9,357),(10,358)],48,0,[],0⟩,
⟨true,[(.int .u64),(.int .u64),(.int .u32),(.int .u8),(.int .u8),(.int .u8),(.int .u8),.fn,.ptr,(.int .i32),(.int .i32)],0,[(0,12),(1,12),(2,299),(3,353),(4,5),(5,5),(6,354),(7,355),(8,356),(9,357),(10,358)],48,0,[],0⟩,
⟨false,[],0,[],8,0,[],0⟩]
def l7_:Dj_ Go.Proofs.Tryz.prog tys:=⟨KM_ (by kernel_rfl),by kernel_rfl⟩
end Go.Am
namespace Go.Proofs
open List
open Go.RowKit Go.Shelf
attribute [local go_sem] Oper.semAt_some
def Uq.upto(zs:List Int)(k:Nat):List Int:=(List.range k).map λj=>zs[j]?.getD 0
theorem Uq.upto_succ(zs:List Int)(k:Nat):Uq.upto zs (k+1)=Uq.upto zs k++[zs[k]?.getD 0]:=by simp[Uq.upto,range_succ]
theorem Uq.upto_length(zs:List Int)(k:Nat):(Uq.upto zs k).length=k:=by simp[Uq.upto]
theorem Uq.upto_all(zs:List Int):Uq.upto zs zs.length=zs:=by
 apply ext_getElem
 .simp[Uq.upto]
 .intro i h1 h2;simp[Uq.upto,h2]
set_option maxHeartbeats 2000000 in
theorem Uq.values1_in (F:Fence) (n:Nat) (h7:F.fn 303) (hro:F.round=none) (hn:1<=n) (l Bs n₀ b off len cap:Nat) (zs:List Int) (hreach:len*8<=140737488355328) (hb:b<n₀) (J Jx:List Int->World->Prop)
 (hY:∀pre x W,J pre W->pre.length<len->YieldAt F (n-1) Tryz.prog l #[.int .i64 x] W λe W'=>
  (e= .returned (.bool true)/\J (pre++[x]) W'/\Below n₀ W W')\/(e= .returned (.bool false)/\Jx (pre++[x]) W'))
 (W:World) (hBs:W.cell? ⟨Bs,0,none⟩=some (.slice (some ⟨b,off,none⟩) len cap)) (hc:∀j,j<len->W.cell? ⟨b,off+j,none⟩=some (.int .i64 (zs[j]?.getD 0))) (h0:J [] W):
 CallsIn F n Tryz.prog 303 #[.func (.yield l) #[] #[],.pointer (some ⟨Bs,0,none⟩)] W λe W'=>(∃v,e= .returned v)/\
  ((∃ys,ys=Uq.upto zs len/\J ys W')\/(∃pre,(∃k,k<=len/\pre=Uq.upto zs k)/\Jx pre W')):=by
 refine callsIn_of_wp Tryz.func303 rfl h7 ?_ hro;simp only[Tryz.ntmps303,size_toArray,length_cons,length_nil,Nat.reduceAdd,Nat.reduceSub,Array.replicate_succ,Array.replicate_zero,push_toArray,append_toArray,nil_append,cons_append];gi_wp2;gi_loopw [7] (λi wr=>∃k:Nat,k<=len/\i= .int .i64 k/\J (Uq.upto zs k) wr/\Below n₀ W wr)
  (λi _=>len-(intOf i).toNat)
 case atStart=>exact⟨0,Nat.zero_le _,rfl,h0,Below.refl _ _⟩
 case round=>
  obtain⟨k,hk,rfl,hJs,hnx⟩:=hrel;have hcx:k<len->wr.cell? ⟨b,off+k,none⟩=some (.int .i64 (zs[k]?.getD 0)):=λh=>(hnx.cell (p:=⟨b,off+k,none⟩) hb).trans (hc k h);by_cases hlt:k<len
  ·obtain⟨fn,tmps,assign,body,hy,hR⟩:=hY _ (zs[k]?.getD 0) wr hJs (by rw[Uq.upto_length];exact hlt);have hcx':=hcx hlt;gi_wp2;refine hR.mono ?_;rintro e W3 (⟨rfl,hJ3,hk3⟩|⟨rfl,hJx3⟩)
   .gi_wp2;go_roundw
    case rel=>exact⟨k+1,by omega,by simp,by rw[Uq.upto_succ];exact hJ3,hnx.trans hk3⟩
    case measure=>simp[intOf];omega
   .gi_wp2;refine bodyPost_ret (results_none rfl _ _ _) rfl ?_;exact⟨⟨_,rfl⟩,.inr ⟨_,⟨k+1,by omega,(Uq.upto_succ _ _).symm⟩,hJx3⟩⟩
  .obtain rfl:k=len:=by omega
   gi_wp2;go_end0;exact⟨⟨_,rfl⟩,.inl ⟨_,rfl,hJs⟩⟩
set_option maxHeartbeats 1000000 in
theorem Uq.values1_nil_in (F:Fence) (n:Nat) (h7:F.fn 303) (hro:F.round=none) (l Bs:Nat) (J:List Int->World->Prop) (W:World) (p:Option Addr) (cap:Nat) (hBs:W.cell? ⟨Bs,0,none⟩=some (.slice p 0 cap)) (h0:J [] W):
 CallsIn F n Tryz.prog 303 #[.func (.yield l) #[] #[],.pointer (some ⟨Bs,0,none⟩)] W λe W'=>(∃v,e= .returned v)/\J [] W':=by
 refine callsIn_of_wp Tryz.func303 rfl h7 ?_ hro;simp only[Tryz.ntmps303,size_toArray,length_cons,length_nil,Nat.reduceAdd,Nat.reduceSub,Array.replicate_succ,Array.replicate_zero,push_toArray,append_toArray,nil_append,cons_append];gi_wp2;gi_loopw [7] (λi wr=>i= .int .i64 0/\J [] wr) (λ_ _=>0)
 case atStart=>exact⟨rfl,h0⟩
 case round=>
  obtain⟨rfl,hJs⟩:=hrel;gi_wp2;go_end0;exact⟨⟨_,rfl⟩,hJs⟩
def Uq.Ints(n₀:Nat)(W:World)(sv:Value)(zs:List Int):Prop:=
 (∃p cap,sv= .slice p 0 cap/\zs=[])\/∃b off cap,sv= .slice (some ⟨b,off,none⟩) zs.length cap/\b<n₀/\∀j,j<zs.length->W.cell? ⟨b,off+j,none⟩=some (.int .i64 (zs[j]?.getD 0))
theorem Uq.Ints.below{n₀:Nat}{A B:World}(h:Below n₀ A B){sv:Value}{zs:List Int}:Uq.Ints n₀ A sv zs->Uq.Ints n₀ B sv zs
 | .inl e=> .inl e
 | .inr ⟨b,off,cap,e,hb,hc⟩=> .inr ⟨b,off,cap,e,hb,λj hj=>(h.cell (p:=⟨b,off+j,none⟩) hb).trans (hc j hj)⟩
theorem Uq.values_stops (F:Fence) (n:Nat) (h7:F.fn 303) (hro:F.round=none) (hn:1<=n) (Bs n₀:Nat) (sv:Value) (zs:List Int) (hreach:zs.length*8<=140737488355328) (w:World) (hBs:Bs<w.heap.size) (hn₀:n₀<=w.heap.size)
 (hc:w.cell? ⟨Bs,0,none⟩=some sv) (hI:Uq.Ints n₀ w sv zs):
 SeqStopsK F n Tryz.prog 303 #[.pointer (some ⟨Bs,0,none⟩)] (λx:Int=> #[Value.int .i64 x]) (Below n₀) (λys=>ys=zs) (λ_=>True) zs.length w:=λl J Jx W hW _ _ hY h0=>by
 have hc':=(hW.cell (p:=⟨Bs,0,none⟩) hBs).trans hc;rcases hI.below (hW.mono hn₀) with⟨p,cap,rfl,rfl⟩|⟨b,off,cap,rfl,hb,hcs⟩
 .exact (Uq.values1_nil_in F n h7 hro l Bs J W p cap hc' h0).mono λe W' ⟨he,hj⟩=>⟨he,.inl ⟨_,rfl,hj⟩⟩
 .refine (Uq.values1_in F n h7 hro hn l Bs n₀ b off zs.length cap zs hreach hb J Jx hY W hc' hcs h0).mono ?_;rintro e W' ⟨he,⟨ys,rfl,hj⟩|⟨pre,⟨k,hk,rfl⟩,hj⟩⟩
  .exact⟨he,.inl ⟨_,Uq.upto_all zs,hj⟩⟩
  .exact⟨he,.inr ⟨_,trivial,hj⟩⟩
theorem Uq.info3:(Tryz.prog.info? 3).map (λi=>(i.zero,i.size,i.bytes))=some (some (.int .i64 0),1,8):=by kernel_rfl
set_option maxHeartbeats 2000000 in
theorem Uq.appendSeq_in (F:Fence) (n:Nat) (h3:F.fn 304) (h7:F.fn 303) (hro:F.round=none) (hn:3<=n) (Bs:Nat) (sv:Value) (zs:List Int) (hreach:zs.length*8<=140737488355328) (w:World) (hBs:Bs<w.heap.size)
 (hc:w.cell? ⟨Bs,0,none⟩=some sv) (hI:Uq.Ints w.heap.size w sv zs):
 CallsIn F n Tryz.prog 304 #[.slice none 0 0,.func (.func 303) #[] #[.pointer (some ⟨Bs,0,none⟩)]] w λe W'=>∃v,e= .returned v/\
  W'.ownsRow w.heap.size 3 1 v zs.length (zs.map (Value.int .i64))/\(v= .slice none 0 0↔zs=[])/\Below w.heap.size w W':=by
 have h1:1<=n:=by omega
 obtain⟨i0,hi,hz0,hz1,hz2⟩:=info_parts Uq.info3;refine callsIn_of_wp_marks Tryz.func304 rfl h3 ?_ hro;simp only[Tryz.ntmps304,size_toArray,length_cons,length_nil,Nat.reduceAdd,Nat.reduceSub,Array.replicate_succ,Array.replicate_zero,push_toArray,append_toArray,nil_append,cons_append];gi_wp2;have bS:=Boxed.new w 47 (.slice none 0 0);have hB0:Below w.heap.size w (w.alloc (.cells #[.slice none 0 0] 47)):=(Below.refl _ w).alloc (Nat.le_refl _) _;refine wpIn_rangeFunc_ownG hro h1 (gf:=303) (lb:= #[.pointer (some ⟨Bs,0,none⟩)]) rfl h7 (enters_of Tryz.func303 (by kernel_rfl) rfl)
  (Uq.values_stops F (n-1) h7 hro (by omega) Bs w.heap.size _ zs hreach _ (by simp;omega) (by simp) ((hB0.cell (p:=⟨Bs,0,none⟩) hBs).trans hc) (hI.below hB0)) belowK_t (belowK_b (by simp)) (Below.refl _ _) (λ_=>rfl)
  (λpre W=>(∃v,Boxed W w.heap.size 47 v/\W.ownsRow w.heap.size 3 1 v pre.length (pre.map (Value.int .i64))/\(v= .slice none 0 0↔pre=[]))/\Below w.heap.size w W)
  (λ_ _ _=>False)
  (OwnFrom.and (Own.from (holdsRow_own w.heap.size w.heap.size 47 3 1 (λpre:List Int=>pre.length) (λpre=>pre.map (Value.int .i64)) (λpre v=>(v= .slice none 0 0↔pre=[]))) _) (ownFrom_below (Nat.le_refl _) (by simp)))
  (λ_ _ _ _ _ hs _ _=>hs)
  ⟨⟨_,bS,World.ownsRow_nil _ _ _ _,by simp⟩,hB0⟩
  (λx=>{ tmps:= #[.slice none 0 0,.func (.func 303) #[] #[.pointer (some ⟨Bs,0,none⟩)],.pointer (some ⟨w.heap.size,0,none⟩),undef,.slice none 0 0,.int .i64 x,.func (.func 303) #[] #[.pointer (some ⟨Bs,0,none⟩)],.int .i64 x,undef,undef,undef,undef,undef],defers:=[] }) ?assign ?body ?done ?stop
 case assign=>
  intro l x W K hK;gi_wp2;exact hK
 case body=>
  rintro l pre x W ⟨⟨v,hv,hrow,hnil⟩,hB⟩ hlt;have hvc:=hv.cell;have hle:w.heap.size<=w.heap.size:=Nat.le_refl _;have hm:(pre.length+1)*8<=140737488355328:=by omega
  have hm':pre.length+1<=maxLen:=by unfold maxLen;omega
  gi_wp2_with (gi_at_builtin;refine wpListIn_append_own _ rfl _ _ 47 rfl w.heap.size 3 i0 (.int .i64 0) 1 8 Tryz.underlying47 hi hz0 hz1 hz2 rfl (by decide) _ _ _ rfl (hrow.alloc _) ⟨W.heap.size,0,none⟩ 1 1 [.int .i64 x] rfl rfl (cell_one_new _ _ _) (by simp[Value.oneCell']) (by omega) (by omega) (by have:=hB.size;simp;omega) ?_;intro v' w1 hown' hgrow _;obtain⟨g',cap',rfl⟩:=ownsRow_succ hown';obtain⟨hv1,hv2,hr2,hk2,hb2⟩:=hv.appended (by decide) hrow hB.size hle hown' hgrow;have hc1:=hv1.cell;have hf1:=hv1.frozen);exact⟨hk2.from _,hb2,⟨_,hv2,by simpa using hr2,by simp⟩,hB.trans hb2⟩
 case done=>
  rintro D ys W hD rfl ⟨⟨v,hv,hrow,hnil⟩,hB⟩ hK;have hvc:=hv.cell;gi_wp2;refine⟨by simp,.inl ⟨_,_,rfl,run_takeDeferred hK,?_⟩⟩;exact⟨_,results_tmp rfl _ _ _,v,rfl,ownsRow_putObj hrow _ hK rfl,hnil,hB.trans (belowK_b (w:=w) (Nat.le_refl _) W D _ _ (by simp at hD;omega) hK rfl rfl)⟩
 case stop=>
  rintro D c pre W _ _ h _;exact h.elim
end Go.Proofs
namespace Go.Proofs
open List
open Go.Shelf
theorem lF{n:Nat}{f g:Func}(h:Tryz.prog.funcs[n]?=some f)(e:f=g:=by kernel_rfl):Tryz.prog.funcs[n]?=some g:=h.trans (congrArg some e)
open Tryz
def Uq.sortA_ren:Go.Shelf.Ren:=⟨fun|5=>302|8=>232|7=>305|19=>257|20=>258|10=>306|11=>307|12=>308|13=>309|14=>310|15=>311|16=>312|17=>313|18=>314|30=>315|31=>272|32=>273|33=>316|34=>317|35=>318|40=>319|n=>n,fun|23=>47|25=>3|3=>3|32=>48|22=>47|0=>0|44=>299|46=>301|4=>4|36=>292|35=>291|41=>105|5=>5|9=>9|53=>317|57=>321|63=>325|64=>122|n=>n,fun|n=>n⟩
theorem Uq.sortA:Go.Proofs.SlLaysM.n5 Tryz.prog Uq.sortA_ren:=⟨by kernel_rfl,⟨f302.name,by decide,lF func302⟩,⟨f305.name,by decide,lF func305⟩,lF func232,⟨f306.name,by decide,lF func306⟩,⟨f307.name,by decide,lF func307⟩,⟨f308.name,by decide,lF func308⟩,⟨f309.name,by decide,lF func309⟩,⟨f310.name,by decide,lF func310⟩,⟨f311.name,by decide,lF func311⟩,⟨f312.name,by decide,lF func312⟩,⟨f313.name,by decide,lF func313⟩,⟨f314.name,by decide,lF func314⟩,lF func257,lF func258,⟨f315.name,by decide,lF func315⟩,lF func272,lF func273,⟨f316.name,by decide,lF func316⟩,⟨f317.name,by decide,lF func317⟩,⟨f318.name,by decide,lF func318⟩,⟨f319.name,by decide,lF func319⟩,underlying0,isAgg0,sizeOf0,zeroValue0,underlying3,isAgg3,sizeOf3,zeroValue3,underlying4,isAgg4,sizeOf4,zeroValue4,underlying5,isAgg5,sizeOf5,zeroValue5,underlying9,isAgg9,sizeOf9,zeroValue9,underlying47,isAgg47,sizeOf47,zeroValue47,underlying47,isAgg47,sizeOf47,zeroValue47,underlying3,isAgg3,sizeOf3,zeroValue3,underlying48,isAgg48,sizeOf48,zeroValue48,underlying291,isAgg291,sizeOf291,zeroValue291,underlying292,isAgg292,sizeOf292,zeroValue292,underlying105,isAgg105,sizeOf105,zeroValue105,underlying299,isAgg299,sizeOf299,zeroValue299,underlying301,isAgg301,sizeOf301,zeroValue301,underlying317,isAgg317,sizeOf317,zeroValue317,underlying321,isAgg321,sizeOf321,zeroValue321,underlying325,isAgg325,sizeOf325,zeroValue325,underlying122,isAgg122,sizeOf122,zeroValue122⟩
end Go.Proofs
namespace Go.Am
open List
open Go.Proofs Go.RowKit Go.Sort
theorem bS_.stay {φ:List LI} {H:Hp} {w w':World} (h:cX_ φ H w) (hb:Below w.heap.size w w'):bS_ φ H w φ H w':=
 ⟨prefix_refl _,⟨h.len,λl o hl hv=>by obtain⟨i,hi,hr⟩:=h.obj l o hl hv;exact⟨i,hi,hr.keep (hb.block _ (h.blockLt ⟨l,o,i,hl,hv,hi,rfl⟩)) hb.size⟩,h.apart⟩,
  ⟨hb.os,hb.tape,hb.output,hb.size,λb h1 _=>hb.block b h1⟩,λ_ h=> .inl h,λ_ h=> .inl h⟩
theorem bS_.made {φ:List LI} {H:Hp} {w w':World} (h:cX_ φ H w) (hb:Below w.heap.size w w') {t:TypeId} {cs:List GV} {g cap:Nat} {cur:Array Value} (hg:w.heap.size<=g)
 (hc:w'.heap[g]?=some (.cells cur t (0,0))) (hs:cur.size=cap) (hle:cs.length<=cap) (his:Is2 φ cs (cur.toList.take cs.length)):
 bS_ φ H w (φ++[⟨g,0,true,cs.length,cap⟩]) (H++[.row true t cs]) w':=
 bS_.snoc h ⟨hb.os,hb.tape,hb.output,hb.size,λb h1 _=>hb.block b h1⟩ (λb q=>hb.block b (h.blockLt q))
  ⟨rfl,rfl,(Array.getElem?_eq_some_iff.1 hc).1,rfl,cur,t,(0,0),hc,λ_=>rfl,hs,(λj _ h2=>by simp at h2),by omega,Is2.mono (prefix_append _ _) his⟩ hg
theorem AY_(φ:List LI):∀zs:List Int,Is2 φ (zs.map (GV.int .i64)) (zs.map (Value.int .i64))
 |[]=> .nil
 |_::zs=> .cons rfl (AY_ φ zs)
theorem zL_ {φ:List LI}:∀{zs:List Int}{xs:List Value},Is2 φ (zs.map (GV.int .i64)) xs->xs=zs.map (Value.int .i64)
 |[],_,h=>by rw[cA_.nil_inv h];rfl
 |z::zs,_,h=>by
  obtain⟨b,bs,rfl,h1,h2⟩:=cA_.cons_inv h;rw[zL_ h2,show b=_ from h1];rfl
theorem cA_.two{α β:Type}{R:α->β->Prop}{a b:α}{vs:List β}(h:cA_ R [a,b] vs):∃x y,vs=[x,y]/\R a x/\R b y:=by
 obtain⟨x,vs,rfl,h1,h⟩:=h.cons_inv;obtain⟨y,vs,rfl,h2,h⟩:=h.cons_inv;rw[h.nil_inv];exact⟨x,y,rfl,h1,h2⟩
theorem cA_.one{α β:Type}{R:α->β->Prop}{a:α}{vs:List β}(h:cA_ R [a] vs):∃x,vs=[x]/\R a x:=by
 obtain⟨x,vs,rfl,h1,h⟩:=h.cons_inv;rw[h.nil_inv];exact⟨x,rfl,h1⟩
def slices_AppendSeq__int_int:Sm:=λxs H Q=>∃l t cs a n zs,xs=[.g (.sl none 0 1),.g (.fn 303 [(l,0)])]/\H[l]?=some (.row true t cs)/\cs[0]?=some (.sl a n 1)/\cells? H a n=some (zs.map (GV.int .i64))/\zs.length*8<=Lim/\
 (zs=[]->Q (.g (.sl none 0 1)) H)/\(zs≠[]->Q (.g (.sl (some (ln H,0)) zs.length 1)) (pu H (.row true 3 (zs.map (GV.int .i64)))))
theorem Ir_ {φ:List LI} {H:Hp} {w:World} (h:cX_ φ H w) {a:Pl} {n:Nat} {zs:List Int} (hz:cells? H a n=some (zs.map (GV.int .i64))) {x:Value} (hx:GV.is φ (.sl a n 1) x):Uq.Ints w.heap.size w x zs:=by
 cases a with
 |none=>
  obtain⟨rfl,rfl⟩:=hx;simp[cells?]at hz;exact .inl ⟨none,0,rfl,hz⟩
 | some p=>
  obtain⟨l,o⟩:=p;obtain⟨i,ad,c,hi,rfl,hq,hnc,hu,_⟩:=hx;obtain⟨i',hi',hlen,xs,his,hcell⟩:=h.cells hz;rw[hi]at hi';cases hi';simp at hlen;subst hlen;have hxs:=zL_ his;subst hxs;cases zs with
  |nil=>exact .inl ⟨_,c,rfl,rfl⟩
  | cons z zs=>
   have hq:=hq.resolve_right (by simp at hnc;omega);subst hq;refine .inr ⟨i.b,i.p+o,c,rfl,?_,λj hj=>?_⟩
   .have:=hcell 0 (.int .i64 z) (by simp);rcases Nat.lt_or_ge i.b w.heap.size with h1|h1
    .exact h1
    .simp[World.cell?,Array.getElem?_eq_none h1]at this
   .exact hcell j _ (by rw[getElem?_map,getElem?_eq_getElem hj];simp)
theorem ge_:de_ Tryz.prog 304 slices_AppendSeq__int_int:=by
 intro as0 H Q ⟨l,t,cs,a,n,zs,e,hl,h0,hz,hlim,hQ1,hQ2⟩ φ w vs hr ha;subst e;obtain⟨x,y,rfl,hx,hy⟩:=ha.two;obtain⟨_,rfl⟩:=hx;obtain⟨xs,rfl,hc⟩:=hy;obtain⟨p,rfl,i,hi,rfl⟩:=hc.one;obtain⟨i',hi',hrow⟩:=hr.row l true t cs hl;rw[hi]at hi';cases hi';obtain⟨_,hu,hlt,hp,c,t',fz,hb,_,hs,_,hle,his⟩:=hrow;obtain⟨sv,hsv,hvx⟩:=his.get h0;have hcell:w.cell? ⟨i.b,0,none⟩=some sv:=by
  rw[go_ hb];rw[getElem?_take]at hsv;split at hsv
  .simpa using hsv
  .simp at hsv
 have e0:i.p+0=0:=by omega
 show DR_ Tryz.prog 304 #[.slice none 0 0,.func (.func 303) #[] #[.pointer (some ⟨i.b,i.p+0,none⟩)]] w _;rw[e0];refine .inl ⟨enters_of Tryz.func304 (by kernel_rfl) rfl _ _,?_⟩;refine ((callsIn_wide (n:=3)).1 (Uq.appendSeq_in Fence.wide 3 trivial trivial rfl (by omega) i.b sv zs hlim w hlt hcell (Ir_ hr hz hvx))).mono ?_;rintro e w' ⟨v,rfl,⟨_,hown⟩,hnil,hbel⟩;by_cases hze:zs=[]
 .exact⟨_,H,φ,v,hQ1 hze,rfl,⟨rfl,hnil.2 hze⟩,bS_.stay hr hbel⟩
 .rcases hown with⟨rfl,h1⟩|⟨g,cap,cur,rfl,hg,hgb,h1,h2,h3,h4⟩
  .exact (hze (hnil.1 rfl)).elim
  .have B:=bS_.made (cs:=zs.map (GV.int .i64)) hr hbel hg hgb (by simpa using h3) (by simpa using h1) (by rw[length_map,<-Nat.mul_one zs.length,h4];exact AY_ φ zs);refine⟨_,_,_,_,hQ2 hze,rfl,?_,B⟩;refine⟨⟨g,0,true,(zs.map (GV.int .i64)).length,cap⟩,_,cap,?_,rfl,.inl rfl,h1,by simp;omega,λ_=>⟨rfl,by simp,by unfold maxLen at h2;exact h2⟩⟩;show (φ++[_])[ln H]?=_;rw[show ln H=φ.length from hr.len.symm];simp
def slices_Sort__int_int:Sm:=λxs H Q=>(xs=[.g (.sl none 0 1)]/\Q (.tup []) H)\/
 ∃l zs,xs=[.g (.sl (some (l,0)) zs.length 1)]/\zs≠[]/\zs.length*8<=Lim/\H[l]?=some (.row true 3 (zs.map (GV.int .i64)))/\Q (.tup []) (H.set l (.row true 3 ((zs.mergeSort λx y=>decide (x<=y)).map (GV.int .i64))))
theorem hF_:de_ Tryz.prog 302 slices_Sort__int_int:=by
 intro as0 H Q hS φ w vs hr ha;rcases hS with⟨rfl,hQ⟩|⟨l,zs,rfl,hne,hlim,hl,hQ⟩
 .obtain⟨x,rfl,hx⟩:=ha.one;obtain⟨_,rfl⟩:=hx;refine .inl ⟨enters_of Tryz.func302 (by kernel_rfl) rfl _ _,?_⟩;refine (AnyM.slices_Sort_int_none Uq.sortA none 0 w).mono ?_;rintro e w' ⟨rfl,rfl⟩;exact⟨_,H,φ,_,hQ,rfl,⟨#[],rfl,.nil⟩,bS_.refl hr⟩
 ·obtain⟨x,rfl,hx⟩:=ha.one;obtain⟨i,ad,c,hi,rfl,hq,hnc,hu,ho⟩:=hx;obtain⟨i',hi',hrow⟩:=hr.row l true 3 _ hl;rw[hi]at hi';cases hi';obtain⟨ho',hu',hlt,hp,cur,t',fz,hb,ht',hs,hfz,hle,his⟩:=hrow;have hzl:0<zs.length:=length_pos_iff.2 hne;have hq':ad=⟨i.b,0,none⟩:=by
   rcases hq with h|h
   .rw[h,hp]
   .omega
  subst hq';have hcur:cur.toList.take zs.length=zs.map (Value.int .i64):=by
   have:=zL_ his;rwa [length_map]at this
  have hH:Holds (Value.int .i64) w i.b 0 zs.toArray:=by
   intro j hj;have hj':j<zs.length:=by simpa using hj
   rw[Nat.zero_add];constructor
   .rw[go_ hb];have h1:(cur.toList.take zs.length)[j]?=(zs.map (Value.int .i64))[j]? :=by rw[hcur]
    rw[getElem?_take_of_lt hj',getElem?_map,getElem?_eq_getElem hj']at h1;simp at h1;rw[h1];simp[hj']
   ·simp only[World.frozen?,hb];simp only[length_map]at hle;by_cases h1:fz.1<=j
    .by_cases h2:j<fz.2
     .have:=hfz j h1 h2;omega
     .simp;omega
    .simp;omega
  refine .inl ⟨enters_of Tryz.func302 (by kernel_rfl) rfl _ _,?_⟩;refine (AnyM.slices_Sort_int Uq.sortA i.b 0 c zs w hH hlt (by unfold Lim at hlim;omega)).mono ?_;rintro e w' ⟨rfl,k,os,rfl⟩;have hlen:(zs.mergeSort λx y=>decide (x<=y)).length=zs.length:=by simp
  refine⟨_,_,φ,_,hQ,rfl,⟨#[],rfl,.nil⟩,?_⟩;have hg:=grownBy_sorted_i (w:=w) (g:=i.b) (n:=k) (os:=os) (zs.mergeSort λx y=>decide (x<=y)).toArray;refine bS_.turn hr hl hi (by simp at hle;omega) ⟨hg.os,hg.tape,hg.output,hg.size,λb h1 h2=>hg.block b h1 (λe=>h2 (by cases e;rfl))⟩ ?_;have hb':=heap_sorted_i (n:=k) (os:=os) (zs.mergeSort λx y=>decide (x<=y)).toArray hb;refine⟨ho',by simp[hu'],(Array.getElem?_eq_some_iff.1 hb').1,hp,_,t',fz,hb',ht',by simp[putCells,hs],hfz,by simp[putCells];simpa using hle,?_⟩;have htk:=take_putCells_i cur (zs.mergeSort λx y=>decide (x<=y)) (by simpa using hle);rw[length_map,htk];exact AY_ φ _
end Go.Am
namespace Go.Am
open List
abbrev tS:Nat:=9
abbrev tI:Nat:=3
abbrev tB:Nat:=4
abbrev tU8:Nat:=5
abbrev tPg:Nat:=100
abbrev Ll_:Nat:=22
abbrev tTr:Nat:=24
abbrev tSs:Nat:=46
abbrev tIs:Nat:=47
abbrev Lj_:Nat:=71
abbrev tKV:Nat:=131
abbrev K1_:Nat:=95
abbrev GG_:Nat:=304
abbrev D5_:Nat:=230
abbrev Lb_:Nat:=198
abbrev iI_:Nat:=250
abbrev Li_:Nat:=248
abbrev w6_:Nat:=257
abbrev sS_:Nat:=252
abbrev Ar_:Nat:=242
abbrev Lk_:Nat:=26
abbrev KZ_:Nat:=104
abbrev K5_:Nat:=49
abbrev IW_:Nat:=202
abbrev H2_:Nat:=203
abbrev Is_:Nat:=290
abbrev Jb_:Nat:=293
abbrev Jc_:Nat:=295
abbrev hb_:Nat:=52
abbrev gl_:Nat:=108
abbrev zW_:Nat:=139
abbrev Kv_:Nat:=61
abbrev GD_:Nat:=83
abbrev zM_:Nat:=87
abbrev Ib_:Nat:=65
abbrev Cw_:Nat:=144
abbrev rG_:Nat:=107
abbrev H6_:Nat:=154
end Go.Am
namespace Go.Proofs
open List
open Go.RowKit Go.Maps Go.Sort Go.Shelf
open Tryz
def Uq.keysN_ren:Go.Shelf.Ren:=⟨fun|7=>162|10=>200|n=>n,fun|23=>206|26=>9|3=>9|28=>212|0=>0|27=>211|33=>104|4=>4|n=>n,fun|n=>n⟩
theorem Uq.keysN:Go.Proofs.SlLaysZ.n7 Tryz.prog Uq.keysN_ren:=⟨by kernel_rfl,⟨f162.name,by decide,lF func162⟩,⟨f200.name,by decide,lF func200⟩,underlying0,isAgg0,sizeOf0,zeroValue0,underlying4,isAgg4,sizeOf4,zeroValue4,underlying206,isAgg206,sizeOf206,zeroValue206,underlying9,isAgg9,sizeOf9,zeroValue9,underlying211,isAgg211,sizeOf211,zeroValue211,underlying212,isAgg212,sizeOf212,zeroValue212,underlying104,isAgg104,sizeOf104,zeroValue104⟩
def Uq.keysS_ren:Go.Shelf.Ren:=⟨fun|7=>176|10=>220|n=>n,fun|23=>135|26=>9|3=>81|28=>212|0=>0|27=>211|33=>104|4=>4|n=>n,fun|n=>n⟩
theorem Uq.keysS:Go.Proofs.SlLaysZ.n7 Tryz.prog Uq.keysS_ren:=⟨by kernel_rfl,⟨f176.name,by decide,lF func176⟩,⟨f220.name,by decide,lF func220⟩,underlying0,isAgg0,sizeOf0,zeroValue0,underlying4,isAgg4,sizeOf4,zeroValue4,underlying135,isAgg135,sizeOf135,zeroValue135,underlying9,isAgg9,sizeOf9,zeroValue9,underlying211,isAgg211,sizeOf211,zeroValue211,underlying212,isAgg212,sizeOf212,zeroValue212,underlying104,isAgg104,sizeOf104,zeroValue104⟩
def Uq.sortedS_ren:Go.Shelf.Ren:=⟨fun|6=>161|8=>198|9=>199|11=>230|13=>232|12=>231|23=>257|24=>258|14=>248|15=>249|16=>250|17=>251|18=>252|19=>253|20=>254|21=>255|22=>256|25=>271|26=>272|27=>273|28=>274|29=>275|30=>276|31=>284|n=>n,fun|26=>9|28=>212|24=>46|0=>0|3=>3|37=>48|48=>299|50=>301|4=>4|40=>292|39=>291|45=>105|5=>5|9=>9|51=>317|55=>321|57=>325|58=>122|33=>104|n=>n,fun|n=>n⟩
theorem Uq.sortedS:Go.Proofs.SlLaysZ.n6 Tryz.prog Uq.sortedS_ren:=⟨by kernel_rfl,⟨f161.name,by decide,lF func161⟩,⟨f198.name,by decide,lF func198⟩,⟨f230.name,by decide,lF func230⟩,underlying0,isAgg0,sizeOf0,zeroValue0,underlying46,isAgg46,sizeOf46,zeroValue46,underlying9,isAgg9,sizeOf9,zeroValue9,underlying212,isAgg212,sizeOf212,zeroValue212,by kernel_rfl⟩
def Uq.sortS_ren:Go.Shelf.Ren:=⟨fun|6=>199|8=>232|9=>231|19=>257|20=>258|21=>248|22=>249|23=>250|24=>251|25=>252|26=>253|27=>254|28=>255|29=>256|36=>271|31=>272|32=>273|37=>274|38=>275|39=>276|41=>284|n=>n,fun|27=>46|29=>9|3=>3|32=>48|26=>46|0=>0|44=>299|46=>301|4=>4|36=>292|35=>291|41=>105|5=>5|9=>9|53=>317|57=>321|63=>325|64=>122|n=>n,fun|n=>n⟩
theorem Uq.sortS:Go.Proofs.SlLaysM.n6 Tryz.prog Uq.sortS_ren:=⟨by kernel_rfl,⟨f199.name,by decide,lF func199⟩,lF func232,⟨f231.name,by decide,lF func231⟩,lF func257,lF func258,⟨f248.name,by decide,lF func248⟩,⟨f249.name,by decide,lF func249⟩,⟨f250.name,by decide,lF func250⟩,⟨f251.name,by decide,lF func251⟩,⟨f252.name,by decide,lF func252⟩,⟨f253.name,by decide,lF func253⟩,⟨f254.name,by decide,lF func254⟩,⟨f255.name,by decide,lF func255⟩,⟨f256.name,by decide,lF func256⟩,lF func272,lF func273,⟨f271.name,by decide,lF func271⟩,⟨f274.name,by decide,lF func274⟩,⟨f275.name,by decide,lF func275⟩,⟨f276.name,by decide,lF func276⟩,⟨f284.name,by decide,lF func284⟩,underlying0,isAgg0,sizeOf0,zeroValue0,underlying3,isAgg3,sizeOf3,zeroValue3,underlying4,isAgg4,sizeOf4,zeroValue4,underlying5,isAgg5,sizeOf5,zeroValue5,underlying9,isAgg9,sizeOf9,zeroValue9,underlying46,isAgg46,sizeOf46,zeroValue46,underlying46,isAgg46,sizeOf46,zeroValue46,underlying9,isAgg9,sizeOf9,zeroValue9,underlying48,isAgg48,sizeOf48,zeroValue48,underlying291,isAgg291,sizeOf291,zeroValue291,underlying292,isAgg292,sizeOf292,zeroValue292,underlying105,isAgg105,sizeOf105,zeroValue105,underlying299,isAgg299,sizeOf299,zeroValue299,underlying301,isAgg301,sizeOf301,zeroValue301,underlying317,isAgg317,sizeOf317,zeroValue317,underlying321,isAgg321,sizeOf321,zeroValue321,underlying325,isAgg325,sizeOf325,zeroValue325,underlying122,isAgg122,sizeOf122,zeroValue122⟩
theorem Uq.sortsS (m:Nat):AnyZ.SortsIn Tryz.prog Uq.sortedS_ren Fence.wide m:=
 ⟨λG D r J W I A F=>callsIn_wide.2 (AnyM.slices_Sort_string Uq.sortS G D r J W I A F),
  λp r W=>callsIn_wide.2 (AnyM.slices_Sort_string_none Uq.sortS p r W)⟩
def Uq.anyR:Value->Option (DataW Unit × List MemPlace):=λ_=>some (.nil,[])
def keysFn(f:Nat):Prop:=f=220\/f=200
set_option maxHeartbeats 1000000 in
theorem Uq.sortedKeys {f:Nat} (hf:keysFn f) (r b nn:Nat) (D0:DataW Unit) (w:World) (hr:r<w.heap.size) (hm:w.cell? ⟨r,0,none⟩=some (.map (some b))) (hown:w.ownsMap Tryz.prog 9 Uq.anyR b nn D0) (hmax:Maps.size D0<=maxLen) (hbytes:Maps.size D0*16<=140737488355328):
 CallsIn Fence.wide 5 Tryz.prog 161 #[.func (.func f) #[] #[.pointer (some ⟨r,0,none⟩)]] w λe w'=>∃(v:Value)(ss:List (List UInt8)),e= .returned v/\ss.Perm (strKeys D0)/\
  w'.ownsRow w.heap.size 9 1 v ss.length ((ss.mergeSort (λx y=>decide (x<=y))).map encStr)/\(v= .slice none 0 0↔ss=[])/\Below w.heap.size w w':=by
 have hseq:SeqGives Fence.wide 2 Tryz.prog f #[.pointer (some ⟨r,0,none⟩)] encStr (λss=>ss.Perm (strKeys D0)) (Maps.size D0) w:=by
  rcases hf with rfl|rfl
  .exact AnyZ.keys_gives (ρ:=Uq.keysS_ren) { Uq.keysS with } Fence.wide _ trivial rfl (by omega) r b nn D0 _ hr hm hown
  .exact AnyZ.keys_gives (ρ:=Uq.keysN_ren) { Uq.keysN with } Fence.wide _ trivial rfl (by omega) r b nn D0 _ hr hm hown
 rcases hf with rfl|rfl
 .exact AnyZ.sorted_in Uq.sortedS Fence.wide 5 trivial trivial trivial trivial rfl (by omega) (Uq.sortsS _) (enters_of Tryz.func199 (by kernel_rfl) rfl) 220 #[.pointer (some ⟨r,0,none⟩)] trivial (enters_of Tryz.func220 (by kernel_rfl) rfl) _ _ hmax hbytes w hseq
 .exact AnyZ.sorted_in Uq.sortedS Fence.wide 5 trivial trivial trivial trivial rfl (by omega) (Uq.sortsS _) (enters_of Tryz.func199 (by kernel_rfl) rfl) 200 #[.pointer (some ⟨r,0,none⟩)] trivial (enters_of Tryz.func200 (by kernel_rfl) rfl) _ _ hmax hbytes w hseq
set_option maxHeartbeats 1000000 in
theorem Uq.sortedKeysNil {f:Nat} (hf:keysFn f) (r:Nat) (w:World) (hr:r<w.heap.size) (hm:w.cell? ⟨r,0,none⟩=some (.map none)):
 CallsIn Fence.wide 5 Tryz.prog 161 #[.func (.func f) #[] #[.pointer (some ⟨r,0,none⟩)]] w λe w'=>∃(v:Value)(ss:List (List UInt8)),e= .returned v/\ss=[]/\
  w'.ownsRow w.heap.size 9 1 v ss.length ((ss.mergeSort (λx y=>decide (x<=y))).map encStr)/\(v= .slice none 0 0↔ss=[])/\Below w.heap.size w w':=by
 have hseq:SeqGives Fence.wide 2 Tryz.prog f #[.pointer (some ⟨r,0,none⟩)] encStr (λss:List (List UInt8)=>ss=[]) 0 w:=by
  rcases hf with rfl|rfl
  .exact AnyZ.keys_gives_nil (ρ:=Uq.keysS_ren) { Uq.keysS with } Fence.wide _ trivial rfl r _ hr hm
  .exact AnyZ.keys_gives_nil (ρ:=Uq.keysN_ren) { Uq.keysN with } Fence.wide _ trivial rfl r _ hr hm
 rcases hf with rfl|rfl
 .exact AnyZ.sorted_in Uq.sortedS Fence.wide 5 trivial trivial trivial trivial rfl (by omega) (Uq.sortsS _) (enters_of Tryz.func199 (by kernel_rfl) rfl) 220 #[.pointer (some ⟨r,0,none⟩)] trivial (enters_of Tryz.func220 (by kernel_rfl) rfl) _ 0 (by decide) (by decide) w hseq
 .exact AnyZ.sorted_in Uq.sortedS Fence.wide 5 trivial trivial trivial trivial rfl (by omega) (Uq.sortsS _) (enters_of Tryz.func199 (by kernel_rfl) rfl) 200 #[.pointer (some ⟨r,0,none⟩)] trivial (enters_of Tryz.func200 (by kernel_rfl) rfl) _ 0 (by decide) (by decide) w hseq
end Go.Proofs
namespace Go.Am
open List
open Go.Proofs Go.RowKit Go.Sort Go.Maps
def k6_:RV->Y_ | .s (.str s)=>s|_=>⟨#[]⟩
structure JF_(es:List Ent)(c:Nat):Prop where
 keys:∀e∈es,∃s:Y_,e.2.1= .s (.str s)/\s.size<=140737488351232
 born:∀e∈es,e.1<c
 nodB:(es.map (·.1)).Nodup
 nodK:(es.map λe=>k6_ e.2.1).Nodup
 few:es.length<=100000
def slices_Sorted_string:Sm:=λxs H Q=>∃f l t cs m,keysFn f/\xs=[.g (.fn f [(l,0)])]/\H[l]?=some (.row true t cs)/\cs[0]?=some (.map m)/\
 match m with
 |none=>Q (.g (.sl none 0 1)) H
 |some k=>∃es c,H[k]?=some (.map es c)/\JF_ es c/\∀zs:List Y_,zs.Perm (es.map λe=>k6_ e.2.1)->zs.Pairwise (λa b=>Op.bytesLess b.data.toList a.data.toList=false)->
  (zs=[]->Q (.g (.sl none 0 1)) H)/\(zs≠[]->Q (.g (.sl (some (ln H,0)) zs.length 1)) (pu H (.row true 9 (zs.map GV.str))))
def Ex_(φ:List LI):∀zs:List Y_,Is2 φ (zs.map GV.str) (zs.map Value.string)
 |[]=> .nil
 |_::zs=> .cons rfl (Ex_ φ zs)
def zr_ (N:cX_ φ H w) (r:w'.ownsRow w.heap.size 9 1 v zs.length (zs.map Value.string)) (G:v= .slice none 0 0↔zs=[]) (A:Below w.heap.size w w')
 (O:zs=[]->Q (.g (.sl none 0 1)) H) (I:zs≠[]->Q (.g (.sl (some (ln H,0)) zs.length 1)) (pu H (.row true 9 (zs.map GV.str)))):
 wS_ φ H w Q (.returned v) w':=by
 have⟨_,r⟩:=r;by_cases D:zs=[]
 .exact⟨_,H,φ,v,O D,rfl,⟨rfl,G.2 D⟩,bS_.stay N A⟩
 .rcases r with⟨rfl,U⟩|⟨g,F,W,rfl,Z,J,U,Y,h3,V⟩
  .grind
  .have B:=bS_.made (cs:=zs.map GV.str) N A Z J o_ g_ (by rw[k9,<-Nat.mul_one zs.length,V];exact Ex_ φ zs);refine⟨_,_,_,_,I D,rfl,⟨⟨g,0,true,(zs.map GV.str).length,F⟩,_,F,?_,rfl,.inl rfl,U,g_,λ_=>⟨rfl,t_,Y⟩⟩,B⟩;rw[show ln H=φ.length from N.len.symm];simp
theorem Iy_(ss:List (List UInt8)):ss.map encStr=(ss.map λl=>(⟨l.toArray⟩:Y_)).map Value.string:=by
 simp_all
def EZ_(r:cA_ (gN_ φ) es xs)(A:∀e∈es,∃s:Y_,e.2.1= .s (.str s)/\s.size<=140737488351232):
 ∀x∈xs,∃s:Y_,x.key= .string s/\s.size<=140737488351232:=by
 intro x I;obtain⟨n,N,rfl⟩:=kK I;have F:=r.length;have G:es[n]?=some es[n]:=kG o_;have⟨s,J,D⟩:=A _ (kE (by omega:n<es.length));have:=(zO_ r G (kG N)).2.1;rw[J]at this;exact⟨s,this,D⟩
def EI_:∀{es:List Ent}{xs:List MapEntry},cA_ (gN_ φ) es xs->(∀e∈es,∃s:Y_,e.2.1= .s (.str s)/\s.size<=140737488351232)->
 xs.map (·.key)=es.map (λe=>Value.string (k6_ e.2.1))/\xs.map (·.born)=es.map (·.1)
 |[],xs,r,_=>by rw[r.nil_inv];exact⟨rfl,rfl⟩
 |e::es,xs,r,D=>by
  obtain⟨y,xs,rfl,A,r⟩:=r.cons_inv;have⟨N,G⟩:=EI_ r λJ I=>D J g_;have⟨s,F,_⟩:=D e t_;have:=A.2.1;rw[F]at this;refine⟨?_,by rw[map_cons,map_cons,G,A.1]⟩;rw[map_cons,map_cons,N,F];show y.key::_=Value.string s::_;rw[this]
def fO_:de_ Tryz.prog 161 slices_Sorted_string:=by
 intro as0 H Q ⟨f,l,t,cs,m,hf,e,hl,h0,hm⟩ φ w vs hr ha;subst e;obtain⟨y,rfl,hy⟩:=ha.one;obtain⟨xs,rfl,hc⟩:=hy;obtain⟨p,rfl,i,hi,rfl⟩:=hc.one;obtain⟨i',hi',hrow⟩:=hr.row l true t cs hl;rw[hi]at hi';cases hi';obtain⟨_,hu,hlt,hp,c,t',fz,hb,_,hs,_,hle,his⟩:=hrow;obtain⟨sv,hsv,hvx⟩:=his.get h0;have hcell:w.cell? ⟨i.b,0,none⟩=some sv:=by
  rw[go_ hb];rw[getElem?_take]at hsv;split at hsv
  .simpa using hsv
  .simp at hsv
 have e0:i.p+0=0:=o_
 show DR_ Tryz.prog 161 #[.func (.func f) #[] #[.pointer (some ⟨i.b,i.p+0,none⟩)]] w _;rw[e0];refine .inl ⟨enters_of Tryz.func161 (by kernel_rfl) rfl _ _,?_⟩;cases m with
 |none=>
  cases hvx;refine ((callsIn_wide (n:=5)).1 (Uq.sortedKeysNil hf i.b w hlt hcell)).mono ?_;rintro e w' ⟨v,ss,rfl,rfl,hown,hnil,hbel⟩;exact zr_ (zs:=[]) hr (u_ hown) (u_ hnil) hbel (λ_=>hm) λh=>(h rfl).elim
 | some k=>
  obtain⟨es,c,hk,sm,hQ⟩:=hm;obtain⟨j,hj,hbm,xs,hblk,hal⟩:=hr.map hk;cases nL_ hj hvx;obtain⟨k1,k2⟩:=EI_ hal sm.keys;have hlen:es.length=xs.size:=by have:=hal.length;simpa using this
  have hrd:∀x∈xs.toList,∃y,WideElems.rd Tryz.prog 9 Uq.anyR x=some y:=by
   intro x hx;obtain⟨s,hs,hl⟩:=EZ_ hal sm.keys x hx;have hl':s.size<=maxLen:=Nat.le_trans hl d_;refine⟨(.string s.data.toList,.nil),?_⟩;have:WideElems.rd Tryz.prog 9 Uq.anyR ⟨x.key,x.val,x.born⟩=_:=WideElems.rd_mk (kl:= .string s.data.toList) (yv:=(.nil,[])) (by rw[hs];simp[keyOf,Tryz.underlying9,mapKey,hl']) rfl;exact this
  have hfit:WideElems.Fit Tryz.prog 9 Uq.anyR xs c:=by
   refine⟨by rw[<-hlen];exact Nat.le_trans sm.few d_,⟨?_,?_,?_⟩,hrd⟩
   .intro x hx;have:x.born∈es.map (·.1):=by rw[<-k2];exact lA.2 ⟨x,hx,rfl⟩
    obtain⟨e,he,q⟩:=lA.1 this;rw[<-q];exact sm.born e he
   .rw[k2];exact sm.nodB
   .rw[k1];have:(es.map λe=>Value.string (k6_ e.2.1))=(es.map λe=>k6_ e.2.1).map Value.string:=by rw[map_map];rfl
    rw[this];exact Pairwise.map _ (λa b h q=>h (by cases q;rfl)) sm.nodK
  let D0:DataW Unit:= .map ((xs.toList.map (WideElems.rg Tryz.prog 9 Uq.anyR)).foldr DataW.insert [])
  have hown0:w.ownsMap Tryz.prog 9 Uq.anyR j.b xs.size D0:=⟨xs,c,hblk,hfit,kO _,rfl⟩;have hsz:Maps.size D0=xs.size:=by
   show ((xs.toList.map (WideElems.rg Tryz.prog 9 Uq.anyR)).foldr DataW.insert []).length=_;rw[(WideShapes.sorted_perm _).length_eq];simp
  have hsz2:Maps.size D0<=100000:=by rw[hsz,<-hlen];exact sm.few
  refine ((callsIn_wide (n:=5)).1 (Uq.sortedKeys hf i.b j.b xs.size D0 w hlt hcell hown0 (Nat.le_trans hsz2 d_) o_)).mono ?_;rintro e w' ⟨v,ss,rfl,hperm,hown,hnil,hbel⟩;have hkeys:((strKeys D0).map λl=>(⟨l.toArray⟩:Y_)).Perm (es.map λe=>k6_ e.2.1):=by
   have h1:(strKeys D0).Perm ((xs.toList.map (WideElems.rg Tryz.prog 9 Uq.anyR)).map λp=>strOf p.1):=(WideShapes.sorted_perm _).map _;refine (h1.map _).trans (Perm.of_eq ?_);rw[map_map,map_map];have:∀x∈xs.toList,(((λl:List UInt8=>(⟨l.toArray⟩:Y_)) ∘ λp:Lit × DataW Unit=>strOf p.1) ∘ WideElems.rg Tryz.prog 9 Uq.anyR) x=(match x.key with | .string s=>s|_=>⟨#[]⟩):=by
    intro x hx;obtain⟨y,hy⟩:=hrd x hx;obtain⟨s,hs,_⟩:=EZ_ hal sm.keys x hx;show (⟨(strOf (WideElems.rg Tryz.prog 9 Uq.anyR x).1).toArray⟩:Y_)=_;rw[WideElems.rg_of hy];have hk:=WideElems.rd_key hy;rw[hs]at hk ⊢;simp[keyOf,Tryz.underlying9,mapKey]at hk;rw[<-hk.2];simp[strOf]
   rw[map_congr_left this];have h2:(xs.toList.map λx=>(match x.key with | .string s=>s|_=>⟨#[]⟩:Y_))=(xs.toList.map (·.key)).map (λv=>match v with | .string s=>s|_=>⟨#[]⟩):=by rw[map_map];rfl
   rw[h2,k1,map_map];rfl
  have hp2:((ss.mergeSort λx y=>decide (x<=y)).map λl=>(⟨l.toArray⟩:Y_)).Perm (es.map λe=>k6_ e.2.1):=
   (((mergeSort_perm _ _).trans hperm).map _).trans hkeys
  have hpw:((ss.mergeSort λx y=>decide (x<=y)).map λl=>(⟨l.toArray⟩:Y_)).Pairwise (λa b=>Op.bytesLess b.data.toList a.data.toList=false):=by
   refine Pairwise.map (R:=λx y=>leB x y=true) _ (λa b h=>?_) (pairwise_mergeSort (λa b c h1 h2=>by simp only[leB,decide_eq_true_eq] at*;exact List.le_trans h1 h2) (λa b=>by simp only[leB,Bool.or_eq_true,decide_eq_true_eq];exact List.le_total a b) ss);rw[bytesLess_eq];simpa[leB] using h
  obtain⟨q1,q2⟩:=hQ _ hp2 hpw;have hl2:((ss.mergeSort λx y=>decide (x<=y)).map λl=>(⟨l.toArray⟩:Y_)).length=ss.length:=t_
  refine zr_ hr (by rw[hl2,<-Iy_];exact hown) (hnil.trans ?_) hbel q1 q2;constructor
  .intro h;rw[h];simp
  .intro h;have:=congrArg length h;rw[hl2]at this;exact eq_nil_of_length_eq_zero this
end Go.Am
namespace Go.Am
open List
open Go.Proofs
def bytealg_abigenruntimecmpstring:Sm:=λxs H Q=>∃a b:Y_,xs=[.g (.str a),.g (.str b)]/\Q (.g (.int .i64 (Lib.compareBytes a.data.toList b.data.toList))) H
def fa_:de_ Tryz.prog 187 bytealg_abigenruntimecmpstring:=by
 intro as0 H Q ⟨a,b,e,hQ⟩ φ w vs hr ha;subst e;obtain⟨x,y,rfl,hx,hy⟩:=ha.two;cases hx;cases hy;refine .inr ⟨.int .i64 (Lib.compareBytes a.data.toList b.data.toList),w,?_,_,H,φ,_,hQ,rfl,rfl,bS_.refl hr⟩;show (callFunc 187 #[.string a,.string b]).run Tryz.prog w=_;rw[run_callFunc_extern Tryz.func187 (by kernel_rfl) (by kernel_rfl) (by kernel_rfl) (e:=Extern.BytealgCompare.compare) (by kernel_rfl),Lib.run_compareString];rfl
end Go.Am
namespace Go.Proofs
open List
open Go.Shelf Go.RowKit Go.Lib
theorem Uq.copy_z(w:World)(N W ty D:TypeId)(i:TypeInfo)(b o A I:Nat)(a:Addr)(r F:Nat)(cs:List Value)
 (O:P.underlying N=some (.slice D)) (hi:P.info? D=some i) (U:cs.length=Nat.min r A*i.size)
 (G:∀j v,cs[j]?=some v->w.cell? (a.add j)=some v) (hc:∀j,j<cs.length->(w.cell? ⟨b,o+j,none⟩).isSome=true) (Z:∀j,j<cs.length->w.frozen? ⟨b,o+j,none⟩=false) (Y:∀v∈cs,v.oneCell'=true):
 (Builtin.copy_ #[N,W] ty #[.slice (some ⟨b,o,none⟩) A I,.slice (some a) r F]).run P w= .ok (goInt (Nat.min r A)) (w.setCells b o cs):=by
 have V:=run_loadCells_list (P:=P) w a cs G;have J:=run_storeCells_cells (P:=P) b o cs 0 w (by omega) (by omega) Y;simp[Builtin.copy_,run_underlying O,Builtin.lenOf,Builtin.firstCells,sizeOf,typeInfo,hi,<-U,V,J]
inductive m8_:Nat->Nat->Nat->Nat->Nat->Nat->Value->Prop
 |f:m8_ 112 108 50 156 3 40 (.agg #[.string ⟨#[]⟩,.string ⟨#[]⟩,.bool false])
 |i:m8_ 138 52 36 182 5 80 (.agg #[.string ⟨#[]⟩,.int .i64 0,.string ⟨#[]⟩,.string ⟨#[]⟩,.slice none 0 0])
 |s:m8_ 236 9 46 261 1 16 (.string ⟨#[]⟩)
 |n:m8_ 237 3 47 263 1 8 (.int .i64 0)
theorem m8_.info(h:m8_ fF tE tZ fO z nB zv):(Tryz.prog.info? tE).map (λi=>(i.zero,i.size,i.bytes))=some (some zv,z,nB):=by cases h<;>kernel_rfl
theorem m8_.bd(h:m8_ fF tE tZ fO z nB zv):(1<=z/\1<=nB/\nB<=80)/\zv.cells.size=z:=by cases h<;>exact⟨by omega,rfl⟩
theorem m8_.und(h:m8_ fF tE tZ fO z nB zv):Tryz.prog.underlying tZ=some (.slice tE):=by cases h<;>kernel_rfl
theorem m8_.ov(h4:m8_ fF tE tZ fO z nB zv){w:World}(vb b o vc lb cb:Nat)(hvb:vb≠b)(tA tB:TypeId)(kA kB:Nat)(hsa:w.shape? vb=some (tA,kA))(hsb:w.shape? b=some (tB,kB))(hkB:kB≠0)(hfa:w.frozen? ⟨vb,0,none⟩=false)(hfe:w.frozen? ⟨vb,kA,none⟩=false):
 (callFunc fO #[.slice (some ⟨vb,0,none⟩) 1 vc,.slice (some ⟨b,o,none⟩) lb cb]).run Tryz.prog w= .ok (.value (.bool false)) w:=by
 obtain⟨i0,hi0,hz0,hz1,hz2'⟩:=info_parts h4.info;have A:=Lib.run_overlaps_apart w tZ 4 tE h4.und z (λw=>by simp[sizeOf,typeInfo,hi0,hz1]) ⟨vb,0,none⟩ ⟨b,o,none⟩ 1 vc lb cb hvb tA tB kA kB hsa hsb hkB hfa hfe;cases h4;rw[run_callFunc_extern Tryz.func156 (by kernel_rfl) (by kernel_rfl) (by kernel_rfl) (e:=Extern.SlicesOverlaps.overlaps #[50,50] #[4]) (by kernel_rfl),A];rfl;rw[run_callFunc_extern Tryz.func182 (by kernel_rfl) (by kernel_rfl) (by kernel_rfl) (e:=Extern.SlicesOverlaps.overlaps #[36,36] #[4]) (by kernel_rfl),A];rfl;rw[run_callFunc_extern Tryz.func261 (by kernel_rfl) (by kernel_rfl) (by kernel_rfl) (e:=Extern.SlicesOverlaps.overlaps #[46,46] #[4]) (by kernel_rfl),A];rfl;rw[run_callFunc_extern Tryz.func263 (by kernel_rfl) (by kernel_rfl) (by kernel_rfl) (e:=Extern.SlicesOverlaps.overlaps #[47,47] #[4]) (by kernel_rfl),A];rfl
set_option maxHeartbeats 4000000 in
theorem Uq.insF_shift (h4:m8_ fF tE tZ fO z nB zv) (b n c i vb vc:Nat) (cs vs:List Value) (w:World) (hi:i<n) (hroom:n+1<=c) (hc63:c<=9223372036854775807) (hvb:vb≠b)
 (hcl:cs.length=n*z) (hvl:vs.length=z)
 (hcs:∀j v,cs[j]?=some v->w.cell? ⟨b,j,none⟩=some v) (hsp:∀j,j<(n+1)*z->(w.cell? ⟨b,j,none⟩).isSome=true) (hfz:∀j,j<(n+1)*z->w.frozen? ⟨b,j,none⟩=false)
 (hvs:∀j v,vs[j]?=some v->w.cell? ⟨vb,j,none⟩=some v) (h1c:∀v∈cs,v.oneCell'=true) (h1v:∀v∈vs,v.oneCell'=true)
 (tA tB:TypeId) (kA kB:Nat) (hsa:w.shape? vb=some (tA,kA)) (hsb:w.shape? b=some (tB,kB)) (hkB:kB≠0) (hfa:w.frozen? ⟨vb,0,none⟩=false) (hfe:w.frozen? ⟨vb,kA,none⟩=false):
 Calls Tryz.prog fF #[.slice (some ⟨b,0,none⟩) n c,.int .i64 i,.slice (some ⟨vb,0,none⟩) 1 vc] w λe w'=>
  e= .returned (.slice (some ⟨b,0,none⟩) (n+1) c)/\w'=(w.drew.setCells b ((i+1)*z) (cs.drop (i*z))).setCells b (i*z) vs:=by
 have hU:=h4.und;obtain⟨i0,hi0,hz0,hz1,hz2'⟩:=info_parts h4.info;have ar0:=Nat.add_mul n 1 z;have ar1:=Nat.add_mul i 1 z;have ar2:=Nat.sub_mul n i z;have ar3:=(Nat.mul_le_mul_right z hi:(i+1)*z<=n*z);have hov:=λo lb cb=>h4.ov vb b o vc lb cb hvb tA tB kA kB hsa hsb hkB hfa hfe;have hz2: ¬ ((i:Int)=(n:Int)):=by omega
 have mixed:Tryz.prog.follows .mixedOrders=true:=by kernel_rfl
 have hdl:(cs.drop (i*z)).length=(n-i)*z:=by rw[length_drop,hcl];omega
 have hw1:IntKind.i64.wrap ((i:Int)+1)=(i:Int)+1:=by rw[IntKind.wrap_i64];omega
 have hb1:(0:Int)<=(i:Int)+1:=by omega
 have hin:i<=n:=by omega
 have htn:((i:Int)+1).toNat=i+1:=by omega
 have hb2: ¬ (c=i+1):=by omega
 have hb3:(i:Int)<=(n:Int)+1:=by omega
 have hb4: ¬ (c=i):=by omega
 have hmn:Nat.min (n+1-i) (n-i)=n-i:=by simp only[Nat.min_def];split<;>omega
 have hcp1:∀ty dc sc,(Builtin.copy_ #[tZ,tZ] ty #[.slice (some ⟨b,(i+1)*z,none⟩) (n-i) dc,.slice (some ⟨b,i*z,none⟩) (n+1-i) sc]).run Tryz.prog w.drew= .ok (goInt (n-i:Nat)) (w.drew.setCells b ((i+1)*z) (cs.drop (i*z))):=λty dc sc=>by
  have h:=Uq.copy_z (P:=Tryz.prog) w.drew tZ tZ ty tE i0 b ((i+1)*z) (n-i) dc ⟨b,i*z,none⟩ (n+1-i) sc (cs.drop (i*z)) hU hi0 (by rw[hdl,hmn,hz1])
   (λj v hj=>by rw[Addr.add_lit];exact hcs (i*z+j) v (by rwa [getElem?_drop]at hj))
   (λj hj=>hsp _ (by omega)) (λj hj=>hfz _ (by omega)) (λv hv=>h1c v (mem_of_mem_drop hv))
  rw[hmn]at h;exact h
 obtain⟨W1,hW1⟩:∃W1,W1=w.drew.setCells b ((i+1)*z) (cs.drop (i*z)):=⟨_,rfl⟩;have hsp1:∀k,k<(n+1)*z->(W1.cell? ⟨b,k,none⟩).isSome=true:=λk hk=>by
  rw[hW1];exact isSome_setCells b (cs.drop (i*z)) ((i+1)*z) w.drew (λj hj=>hsp _ (by omega)) _ (hsp k hk)
 have hmn2:Nat.min 1 (n+1-i)=1:=by simp only[Nat.min_def];split<;>omega
 have hcp2:∀(W:World),(∀x,W.cell? x=W1.cell? x)->(∀x,W.frozen? x=W1.frozen? x)->∀ty dc,(Builtin.copy_ #[tZ,tZ] ty #[.slice (some ⟨b,i*z,none⟩) (n+1-i) dc,.slice (some ⟨vb,0,none⟩) 1 vc]).run Tryz.prog W= .ok (goInt 1) (W.setCells b (i*z) vs):=λW hWc hWf ty dc=>by
  have h:=Uq.copy_z (P:=Tryz.prog) W tZ tZ ty tE i0 b (i*z) (n+1-i) dc ⟨vb,0,none⟩ 1 vc vs hU hi0 (by rw[hvl,hmn2,hz1,Nat.one_mul])
   (λj v hj=>by
    rw[Addr.add_lit,hWc,hW1,World.cell?_setCells_out b _ _ _ _ (λh _=>absurd h hvb),Nat.zero_add];exact hvs j v hj)
   (λj hj=>by rw[hWc];exact hsp1 _ (by omega)) (λj hj=>by rw[hWf,hW1,World.frozen?_setCells];exact hfz _ (by omega)) h1v
  rw[hmn2]at h;exact h
 rw[<-hW1]at hcp1;clear ar0 ar1 ar2 ar3;cases h4
 all_goals
  try simp only[Nat.mul_one] at*
  first|go_enter Tryz.func112,Tryz.ntmps112|go_enter Tryz.func138,Tryz.ntmps138|go_enter Tryz.func236,Tryz.ntmps236|go_enter Tryz.func237,Tryz.ntmps237
  go_wp2_with (simp only[hov])
  go_region_law_o (first|refine step_copy_runI rfl _ _ 50 50 rfl _ _ (by simp[Act.eval,Act.put]) (by simp[Act.eval,Act.put]) (hcp1 _ _ _) ?_|refine step_copy_runI rfl _ _ 36 36 rfl _ _ (by simp[Act.eval,Act.put]) (by simp[Act.eval,Act.put]) (hcp1 _ _ _) ?_|refine step_copy_runI rfl _ _ 46 46 rfl _ _ (by simp[Act.eval,Act.put]) (by simp[Act.eval,Act.put]) (hcp1 _ _ _) ?_|refine step_copy_runI rfl _ _ 47 47 rfl _ _ (by simp[Act.eval,Act.put]) (by simp[Act.eval,Act.put]) (hcp1 _ _ _) ?_)
  go_wp2_with (at_builtin;first|refine wpList_copy_runI _ rfl _ _ 50 50 rfl _ _ rfl rfl (hcp2 _ (λ_=>rfl) (λ_=>rfl) _ _) ?_|refine wpList_copy_runI _ rfl _ _ 36 36 rfl _ _ rfl rfl (hcp2 _ (λ_=>rfl) (λ_=>rfl) _ _) ?_|refine wpList_copy_runI _ rfl _ _ 46 46 rfl _ _ rfl rfl (hcp2 _ (λ_=>rfl) (λ_=>rfl) _ _) ?_|refine wpList_copy_runI _ rfl _ _ 47 47 rfl _ _ rfl rfl (hcp2 _ (λ_=>rfl) (λ_=>rfl) _ _) ?_)
  go_ret
  first|exact⟨rfl,rfl⟩|exact⟨rfl,by rw[hW1]⟩
end Go.Proofs
namespace Go.Proofs
open List
open Go.Shelf Go.RowKit Go.Lib
set_option maxHeartbeats 4000000 in
theorem Uq.insF_grow (h4:m8_ fF tE tZ fO z nB zv) (b n c i vb vc:Nat) (cs vs:List Value) (w:World) (hi:i<n) (hnc:n<=c) (hroom:c<n+1) (hbig:(n+1)*nB<=140737488355328)
 (hcl:cs.length=n*z) (hvl:vs.length=z)
 (hcs:∀j v,cs[j]?=some v->w.cell? ⟨b,j,none⟩=some v)
 (hvs:∀j v,vs[j]?=some v->w.cell? ⟨vb,j,none⟩=some v) (h1c:∀v∈cs,v.oneCell'=true) (h1v:∀v∈vs,v.oneCell'=true):
 Calls Tryz.prog fF #[.slice (some ⟨b,0,none⟩) n c,.int .i64 i,.slice (some ⟨vb,0,none⟩) 1 vc] w λe w'=>
  e= .returned (.slice (some ⟨w.heap.size,0,none⟩) (n+1) (grownCap w (n+1) c tE))/\
  w'=(((w.alloc (.cells ((cs.take (i*z)).toArray++Builtin.zeroCells zv.cells (n+1-i)++Builtin.zeroCells zv.cells (grownCap w (n+1) c tE-(n+1))) tE)).drew.setCells w.heap.size (i*z) vs).drew).setCells w.heap.size ((i+1)*z) (cs.drop (i*z)):=by
 have hU:=h4.und;obtain⟨i0,hi0,hz0,hz1,hz2'⟩:=info_parts h4.info;have ar0:=h4.bd;have ar1:=Nat.sub_mul (n+1) i z;have ar2:=Nat.mul_le_mul_right nB (show n+1-i<=n+1 by omega);have ar3:=Nat.le_mul_of_pos_right (n+1) h4.bd.1.2.1;have ar4:=Nat.le_mul_of_pos_right n h4.bd.1.1;have ar5:=Nat.add_mul n 1 z;have ar6:=Nat.add_mul i 1 z;have ar7:=Nat.sub_mul n i z;have ar8:=(Nat.mul_le_mul_right z hi:(i+1)*z<=n*z);have mixed:Tryz.prog.follows .mixedOrders=true:=by kernel_rfl
 have hz2: ¬ ((i:Int)=(n:Int)):=by omega
 have hz3:(c:Int)<(n:Int)+1:=by omega
 have hbw:b<w.heap.size:=block_lt_of_cell (hcs 0 _ (getElem?_eq_getElem (by omega)));have hvw:vb<w.heap.size:=block_lt_of_cell (hvs 0 _ (getElem?_eq_getElem (by omega)));have hkk:(n:Int)+1-(i:Int)=((n+1-i:Nat):Int):=by omega
 have hik:i+(n+1-i)=n+1:=by omega
 have hold:(Builtin.firstCells i0.size i (.slice (some ⟨b,0,none⟩) i c)).run Tryz.prog w.drew= .ok (cs.take (i*z)).toArray w.drew:=by
  rw[hz1];exact run_firstCells_some w.drew z i ⟨b,0,none⟩ i c (cs.take (i*z)) (by rw[length_take];omega) (λj v hj=>by
   rw[Addr.add_lit,Nat.zero_add];rw[getElem?_take]at hj;split at hj
   .exact hcs j v hj
   .cases hj)
 have hrz:∀ty,(Builtin.append_ #[tZ,3] ty #[.slice (some ⟨b,0,none⟩) i c,.int .i64 ((n:Int)+1-(i:Int))]).run Tryz.prog w=
  .ok (.slice (some ⟨w.heap.size,0,none⟩) (n+1) (grownCap w (n+1) c tE)) (w.drew.alloc (.cells ((cs.take (i*z)).toArray++Builtin.zeroCells zv.cells (n+1-i)++Builtin.zeroCells zv.cells (grownCap w (n+1) c tE-(n+1))) tE)):=λty=>by
  have h:=Lib.run_append_grow_zeros w tZ 3 ty tE i0 _ .i64 .i64 hU Tryz.underlying3 hi0 hz0 (some ⟨b,0,none⟩) i c (cs.take (i*z)) hold (n+1-i) (by omega) (by omega) (by omega) (by omega) (by rw[hz2'];omega) (by rw[hz2',hik];exact growslice_fits hroom hbig);rw[hik]at h;rw[hkk];exact h
 obtain⟨G,hG⟩:∃G,G=grownCap w (n+1) c tE:=⟨_,rfl⟩;obtain⟨ROW,hROW⟩:∃ROW:Array Value,ROW=(cs.take (i*z)).toArray++Builtin.zeroCells zv.cells (n+1-i)++Builtin.zeroCells zv.cells (G-(n+1)):=⟨_,rfl⟩;rw[<-hG]at hrz ⊢;rw[<-hROW]at hrz ⊢;have hRl:(n+1)*z<=ROW.size:=by
  rw[hROW];simp[Builtin.zeroCells,h4.bd.2];omega
 obtain⟨W1,hW1⟩:∃W1,W1=w.drew.alloc (.cells ROW tE):=⟨_,rfl⟩;rw[<-hW1]at hrz;have hN:∀j,j<(n+1)*z->(W1.cell? ⟨w.heap.size,j,none⟩).isSome=true:=λj hj=>by
  rw[hW1,World.cell?_alloc_at (w:=w.drew) ROW _ w.heap.size j rfl,Array.getElem?_eq_getElem (by omega)];rfl
 have hNf:∀j,W1.frozen? ⟨w.heap.size,j,none⟩=false:=λj=>by rw[hW1];exact World.frozen?_alloc_at (w:=w.drew) ROW _ w.heap.size j rfl
 have hOb:∀j v,w.cell? ⟨b,j,none⟩=some v->W1.cell? ⟨b,j,none⟩=some v:=λj v h=>by rw[hW1,World.cell?_alloc_past (w:=w.drew) _ b j hbw];exact h
 have hOv:∀j v,w.cell? ⟨vb,j,none⟩=some v->W1.cell? ⟨vb,j,none⟩=some v:=λj v h=>by rw[hW1,World.cell?_alloc_past (w:=w.drew) _ vb j hvw];exact h
 have hmA:Nat.min 1 (n+1-i)=1:=by simp only[Nat.min_def];split<;>omega
 have hcpA:∀(W:World),(∀x,W.cell? x=W1.cell? x)->(∀x,W.frozen? x=W1.frozen? x)->∀ty dc,(Builtin.copy_ #[tZ,tZ] ty #[.slice (some ⟨w.heap.size,i*z,none⟩) (n+1-i) dc,.slice (some ⟨vb,0,none⟩) 1 vc]).run Tryz.prog W= .ok (goInt 1) (W.setCells w.heap.size (i*z) vs):=λW hWc hWf ty dc=>by
  have h:=Uq.copy_z (P:=Tryz.prog) W tZ tZ ty tE i0 w.heap.size (i*z) (n+1-i) dc ⟨vb,0,none⟩ 1 vc vs hU hi0 (by rw[hvl,hmA,hz1,Nat.one_mul])
   (λj v hj=>by rw[Addr.add_lit,hWc,Nat.zero_add];exact hOv _ v (hvs j v hj))
   (λj hj=>by rw[hWc];exact hN _ (by omega)) (λj hj=>by rw[hWf];exact hNf _) h1v
  rw[hmA]at h;exact h
 have hGn:n+1<=G:=by rw[hG];exact grownCap_ge w _ _ _
 have hG63:G<=9223372036854775807:=by
  have:=grownCap_le_maxLen w (n+1) c tE (by unfold maxLen;omega);rw[<-hG]at this;unfold maxLen at this;omega
 have hGi: ¬ (G=i):=by omega
 have hGim: ¬ (G=i+1):=by omega
 have hci: ¬ (c=i):=by omega
 have hbN:b≠w.heap.size:=by omega
 have hdl:(cs.drop (i*z)).length=(n-i)*z:=by rw[length_drop,hcl];omega
 have hmB:Nat.min (n-i) (n-i)=n-i:=by simp only[Nat.min_def];split<;>omega
 have hcpB:∀(W:World),(∀x,W.cell? x=(W1.setCells w.heap.size (i*z) vs).cell? x)->(∀x,W.frozen? x=(W1.setCells w.heap.size (i*z) vs).frozen? x)->∀ty dc sc,(Builtin.copy_ #[tZ,tZ] ty #[.slice (some ⟨w.heap.size,(i+1)*z,none⟩) (n-i) dc,.slice (some ⟨b,i*z,none⟩) (n-i) sc]).run Tryz.prog W= .ok (goInt (n-i:Nat)) (W.setCells w.heap.size ((i+1)*z) (cs.drop (i*z))):=λW hWc hWf ty dc sc=>by
  have h:=Uq.copy_z (P:=Tryz.prog) W tZ tZ ty tE i0 w.heap.size ((i+1)*z) (n-i) dc ⟨b,i*z,none⟩ (n-i) sc (cs.drop (i*z)) hU hi0 (by rw[hdl,hmB,hz1])
   (λj v hj=>by
    rw[Addr.add_lit,hWc,World.cell?_setCells_out _ _ _ _ _ (λh _=>absurd h hbN)];exact hOb _ v (hcs (i*z+j) v (by rwa [getElem?_drop]at hj)))
   (λj hj=>by rw[hWc];exact isSome_setCells _ vs (i*z) W1 (λt ht=>hN _ (by omega)) _ (hN _ (by omega)))
   (λj hj=>by rw[hWf,World.frozen?_setCells];exact hNf _) (λv hv=>h1c v (mem_of_mem_drop hv))
  rw[hmB]at h;exact h
 subst hW1;have hE1:∀x,((w.alloc (.cells ROW tE)).drew).cell? x=(w.drew.alloc (.cells ROW tE)).cell? x:=λx=>rfl;have hE2:∀x,((w.alloc (.cells ROW tE)).drew).frozen? x=(w.drew.alloc (.cells ROW tE)).frozen? x:=λx=>rfl;have hF1:∀x,(((w.alloc (.cells ROW tE)).drew.setCells w.heap.size (i*z) vs).drew).cell? x=((w.drew.alloc (.cells ROW tE)).setCells w.heap.size (i*z) vs).cell? x:=λx=>rfl;have hF2:∀x,(((w.alloc (.cells ROW tE)).drew.setCells w.heap.size (i*z) vs).drew).frozen? x=((w.drew.alloc (.cells ROW tE)).setCells w.heap.size (i*z) vs).frozen? x:=λx=>rfl;have hw1:IntKind.i64.wrap ((i:Int)+1)=(i:Int)+1:=by rw[IntKind.wrap_i64];omega
 have hb1:(0:Int)<=(i:Int)+1:=by omega
 have hin:i<=n:=by omega
 have htn:((i:Int)+1).toNat=i+1:=by omega
 have hb3:(i:Int)<=(n:Int):=by omega
 have hcpC:=hcpB _ hF1 hF2 3 (G-(i+1)) (c-i);clear hkk hik hold hROW hG hRl;clear ar0 ar1 ar2 ar3 ar4 ar5 ar6 ar7 ar8;cases h4
 all_goals
  try simp only[Nat.mul_one] at*
  first|go_enter Tryz.func112,Tryz.ntmps112|go_enter Tryz.func138,Tryz.ntmps138|go_enter Tryz.func236,Tryz.ntmps236|go_enter Tryz.func237,Tryz.ntmps237
  go_wp2_with (first
   |(at_builtin;refine Lib.wpList_append_run _ rfl _ _ _ _ rfl _ _ rfl rfl _ _ (hrz _) ?_)
   |(at_builtin;first|refine wpList_copy_runI _ rfl _ _ 50 50 rfl _ _ rfl rfl (hcpA _ hE1 hE2 _ _) ?_|refine wpList_copy_runI _ rfl _ _ 36 36 rfl _ _ rfl rfl (hcpA _ hE1 hE2 _ _) ?_|refine wpList_copy_runI _ rfl _ _ 46 46 rfl _ _ rfl rfl (hcpA _ hE1 hE2 _ _) ?_|refine wpList_copy_runI _ rfl _ _ 47 47 rfl _ _ rfl rfl (hcpA _ hE1 hE2 _ _) ?_)
   |(at_builtin;first|refine wpList_copy_runI _ rfl _ _ 50 50 rfl _ _ rfl rfl (hcpB _ (λ_=>rfl) (λ_=>rfl) _ _ _) ?_|refine wpList_copy_runI _ rfl _ _ 36 36 rfl _ _ rfl rfl (hcpB _ (λ_=>rfl) (λ_=>rfl) _ _ _) ?_|refine wpList_copy_runI _ rfl _ _ 46 46 rfl _ _ rfl rfl (hcpB _ (λ_=>rfl) (λ_=>rfl) _ _ _) ?_|refine wpList_copy_runI _ rfl _ _ 47 47 rfl _ _ rfl rfl (hcpB _ (λ_=>rfl) (λ_=>rfl) _ _ _) ?_))
  go_region_law_o (first|refine step_copy_runI rfl _ _ 50 50 rfl _ _ (by simp[Act.eval,Act.put]) (by simp[Act.eval,Act.put]) hcpC ?_|refine step_copy_runI rfl _ _ 36 36 rfl _ _ (by simp[Act.eval,Act.put]) (by simp[Act.eval,Act.put]) hcpC ?_|refine step_copy_runI rfl _ _ 46 46 rfl _ _ (by simp[Act.eval,Act.put]) (by simp[Act.eval,Act.put]) hcpC ?_|refine step_copy_runI rfl _ _ 47 47 rfl _ _ (by simp[Act.eval,Act.put]) (by simp[Act.eval,Act.put]) hcpC ?_)
  go_wp2
  go_ret
  exact⟨rfl,rfl⟩
end Go.Proofs
namespace Go.Proofs
open List
open Go.Shelf Go.RowKit Go.Lib
theorem Uq.srcF {z:Nat} (w:World) (F I:Nat) (vs:List Value) (A:vs.length=z) (D:∀j v,vs[j]?=some v->w.cell? ⟨F,j,none⟩=some v):Go.Am.Src Tryz.prog w z (.slice (some ⟨F,0,none⟩) 1 I) 1 vs:=by
 refine⟨λG=>by simp[Builtin.lenOf],λG N=>?_⟩;have O:=run_loadCells_list (P:=Tryz.prog) G ⟨F,0,none⟩ vs (λj v J=>by
  rw[Addr.add_lit,Nat.zero_add];have:=D j v J;unfold World.cell?;rw[N];exact this)
 rw[A]at O;simpa[Builtin.firstCells] using O
set_option maxHeartbeats 4000000 in
theorem Uq.insF_end_room (h4:m8_ fF tE tZ fO z nB zv) (b n c vb vc:Nat) (vs:List Value) (w:World) (hroom:n+1<=c) (hc63:c<=9223372036854775807) (hvl:vs.length=z)
 (hsp:∀j,j<z->(w.cell? ⟨b,n*z+j,none⟩).isSome=true) (hfz:∀j,j<z->w.frozen? ⟨b,n*z+j,none⟩=false)
 (hvs:∀j v,vs[j]?=some v->w.cell? ⟨vb,j,none⟩=some v) (h1v:∀v∈vs,v.oneCell'=true):
 Calls Tryz.prog fF #[.slice (some ⟨b,0,none⟩) n c,.int .i64 n,.slice (some ⟨vb,0,none⟩) 1 vc] w λe w'=>
  e= .returned (.slice (some ⟨b,0,none⟩) (n+1) c)/\w'=w.setCells b (n*z) vs:=by
 have hU:=h4.und;obtain⟨i0,hi0,hz0,hz1,hz2'⟩:=info_parts h4.info;have ar0:=Nat.add_mul n 1 z;have mixed:Tryz.prog.follows .mixedOrders=true:=by kernel_rfl
 have hst:=run_storeCells_cells (P:=Tryz.prog) b (n*z) vs 0 w (by rw[hvl];simpa using hsp) (by rw[hvl];simpa using hfz) h1v;have hrun:∀ty,(Builtin.append_ #[tZ,tZ] ty #[.slice (some ⟨b,0,none⟩) n c,.slice (some ⟨vb,0,none⟩) 1 vc]).run Tryz.prog w= .ok (.slice (some ⟨b,0,none⟩) (n+1) c) (w.setCells b (n*z) vs):=λty=>by
  have h:=Go.Am.run_append_in (P:=Tryz.prog) (ty:=ty) (w:=w) hU hU (.inl ⟨_,rfl⟩) hi0 hz0 (b:=⟨b,0,none⟩) (n:=n) (c:=c) (by rw[hz1];exact Uq.srcF w vb vc vs hvl hvs) hroom;rw[h,hz1,Addr.add_lit,Nat.zero_add,hst];simp
 clear ar0;cases h4
 all_goals
  try simp only[Nat.mul_one] at*
  first|go_enter Tryz.func112,Tryz.ntmps112|go_enter Tryz.func138,Tryz.ntmps138|go_enter Tryz.func236,Tryz.ntmps236|go_enter Tryz.func237,Tryz.ntmps237
  go_wp2_with (at_builtin;refine Lib.wpList_append_run _ rfl _ _ _ _ rfl _ _ rfl rfl _ _ (hrun _) ?_)
  go_ret
  exact⟨rfl,rfl⟩
set_option maxHeartbeats 4000000 in
theorem Uq.insF_end_grow (h4:m8_ fF tE tZ fO z nB zv) (base:Option Addr) (n c vb vc:Nat) (cs vs:List Value) (w:World) (hnc:n<=c) (hroom:c<n+1) (hbig:(n+1)*nB<=140737488355328)
 (hcl:cs.length=n*z) (hvl:vs.length=z) (hnil:base=none->n=0)
 (hcs:∀a,base=some a->∀j v,cs[j]?=some v->w.cell? (a.add j)=some v)
 (hvs:∀j v,vs[j]?=some v->w.cell? ⟨vb,j,none⟩=some v):
 Calls Tryz.prog fF #[.slice base n c,.int .i64 n,.slice (some ⟨vb,0,none⟩) 1 vc] w λe w'=>
  e= .returned (.slice (some ⟨w.heap.size,0,none⟩) (n+1) (grownCap w (n+1) c tE))/\
  w'=w.drew.alloc (.cells ((cs++vs).toArray++Builtin.zeroCells zv.cells (grownCap w (n+1) c tE-(n+1))) tE):=by
 have hU:=h4.und;obtain⟨i0,hi0,hz0,hz1,hz2'⟩:=info_parts h4.info;have ar0:=h4.bd;have ar1:=Nat.add_mul n 1 z;have ar2:=Nat.le_mul_of_pos_right (n+1) h4.bd.1.2.1;have mixed:Tryz.prog.follows .mixedOrders=true:=by kernel_rfl
 have hold:(Builtin.firstCells i0.size n (.slice base n c)).run Tryz.prog w.drew= .ok cs.toArray w.drew:=by
  rw[hz1];cases base with
  |none=>
   have h0:=hnil rfl;subst h0;have hc0:cs=[]:=length_eq_zero_iff.1 (by simpa using hcl);rw[hc0];exact run_firstCells_none w.drew z 0 0 c
  |some a=>exact run_firstCells_some w.drew z n a n c cs (by omega) (λj v hj=>hcs a rfl j v hj)
 have hrun:∀ty,(Builtin.append_ #[tZ,tZ] ty #[.slice base n c,.slice (some ⟨vb,0,none⟩) 1 vc]).run Tryz.prog w= .ok (.slice (some ⟨w.heap.size,0,none⟩) (n+1) (grownCap w (n+1) c tE))
  (w.drew.alloc (.cells ((cs++vs).toArray++Builtin.zeroCells zv.cells (grownCap w (n+1) c tE-(n+1))) tE)):=λty=>by
  have h:=Go.Am.run_append_up (P:=Tryz.prog) (ty:=ty) (w:=w) hU hU (.inl ⟨_,rfl⟩) hi0 hz0 (base:=base) (n:=n) (c:=c) (by rw[hz1];exact Uq.srcF w vb vc vs hvl hvs) hold hroom (by omega) (by rw[hz2'];exact growslice_fits hroom hbig);rw[h];congr 3;simp
 clear ar0 ar1 ar2;cases h4
 all_goals
  try simp only[Nat.mul_one] at*
  first|go_enter Tryz.func112,Tryz.ntmps112|go_enter Tryz.func138,Tryz.ntmps138|go_enter Tryz.func236,Tryz.ntmps236|go_enter Tryz.func237,Tryz.ntmps237
  cases base with
  |none=>
   have h0:=hnil rfl
   subst h0
   go_wp2_with (at_builtin;refine Lib.wpList_append_run _ rfl _ _ _ _ rfl _ _ rfl rfl _ _ (hrun _) ?_)
   go_ret
   exact⟨rfl,rfl⟩
  |some a=>
   obtain⟨ab,ao,asp⟩:=a
   go_wp2_with (at_builtin;refine Lib.wpList_append_run _ rfl _ _ _ _ rfl _ _ rfl rfl _ _ (hrun _) ?_)
   all_goals (go_ret;exact⟨rfl,rfl⟩)
end Go.Proofs
namespace Go.Am
open List
open Go.Proofs Go.RowKit
def cA_.three{a b c:α}{vs:List β}(h:cA_ R [a,b,c] vs):∃x y z,vs=[x,y,z]/\R a x/\R b y/\R c z:=by
 obtain⟨x,vs,rfl,D,h⟩:=h.cons_inv;obtain⟨y,vs,rfl,A,h⟩:=h.cons_inv;obtain⟨z,vs,rfl,r,h⟩:=h.cons_inv;rw[h.nil_inv];grind
def BF_ (tE z nB:Nat):Sm:=λxs H Q=>∃a n i lv vs,xs=[.g (.sl a n z),.g (.int .i64 ((i:Nat):Int)),.g (.sl (some (lv,0)) 1 z)]/\i<=n/\(n+1)*nB<=Lim/\H[lv]?=some (.row false mV_ vs)/\vs.length=z/\
 ((a=none/\n=0/\Q (.g (.sl (some (ln H,0)) 1 z)) (pu H (.row true tE vs)))\/
  ∃l zs,a=some (l,0)/\H[l]?=some (.row true tE zs)/\zs.length=n*z/\Q (.g (.sl (some (ln H,0)) (n+1) z)) (pu (H.set l .dead) (.row true tE (zs.take (i*z)++(vs++zs.drop (i*z))))))
def slices_Insert__api_File_api_File:Sm:=BF_ 108 3 40
def slices_Insert__string_string:Sm:=BF_ 9 1 16
def slices_Insert__int_int:Sm:=BF_ 3 1 8
def Gh_(h:m8_ fF tE tZ fO z nB zv)(vs:Array Value)(w:World):(callFunc fF vs).run Tryz.prog w= .ok (.enter fF vs) w:=by
 cases h;exact enters_of Tryz.func112 (by kernel_rfl) rfl _ _;exact enters_of Tryz.func138 (by kernel_rfl) rfl _ _;exact enters_of Tryz.func236 (by kernel_rfl) rfl _ _;exact enters_of Tryz.func237 (by kernel_rfl) rfl _ _
def g6_ (b:Nat) (t:TypeId) (D:Nat × Nat):∀(vs:List Value)(o:Nat)(c:Array Value)(w:World),w.heap[b]?=some (.cells c t D)->o+vs.length<=c.size->
 ∃c',d6_ (λI=>I=b) w (w.setCells b o vs)/\(w.setCells b o vs).heap[b]?=some (.cells c' t D)/\c'.toList=c.toList.take o++vs++c.toList.drop (o+vs.length)
 |[],o,c,w,A,_=>⟨c,d6_.refl _ _,A,t_⟩
 |v::vs,o,c,w,A,J=>by
  have⟨c',F,r,G⟩:=g6_ b t D vs (o+1) (c.setIfInBounds o v) (w.setCell ⟨b,o,none⟩ v) (jf_ A) g_;refine⟨c',(ld_ w b o v).trans F λb h=> .inl h,r,?_⟩;have:=jl_ c.toList o v vs g_;grind
set_option maxHeartbeats 2000000 in
def DC_ (h4:m8_ fF tE tZ fO z nB zv):de_ Tryz.prog fF (BF_ tE z nB):=by
 have ar:=h4.bd;have zF_size:∀k,(Builtin.zeroCells zv.cells k).size=k*z:=λk=>by simp[Builtin.zeroCells,ar.2]
 intro as0 H Q ⟨a,n,i,lv,vs,e,hi,hlim,hlv,hvl,hcase⟩ φ w us hr ha;subst e;obtain⟨x,y,z,rfl,hx,hy,hz'⟩:=ha.three;subst hy;obtain⟨iv,ad,cv,hiv,rfl,hqv,hncv,huv,_⟩:=hz';obtain⟨iv',hiv',r1,r2,r3,r4,r5⟩:=hr.row lv false mV_ vs hlv;rw[hiv]at hiv';cases hiv';obtain⟨hp,cv0,ev,hbv⟩:=r5 rfl;obtain⟨iv',hiv',_,xv,hxis,hxc⟩:=hr.cells (l:=lv) (o:=0) (n:=z) (cs:=vs) (by simp only[cells?,hlv];rw[if_pos o_,drop_zero,k7 o_]);rw[hiv]at hiv';cases hiv';have hqv:=hqv.resolve_right o_;rw[hp]at hqv hxc;subst hqv;have hxl:xv.length=z:=by rw[<-hxis.length,hvl]
 have hvs:∀j u,xv[j]?=some u->w.cell? ⟨iv.b,j,none⟩=some u:=λj u hj=>by have:=hxc j u hj;simpa using this
 have h1v:=hxis.one;have hlim':(n+1)*nB<=140737488355328:=hlim;have hgc:∀c,n+1<=grownCap w (n+1) c tE:=λc=>grownCap_ge w (n+1) c tE;have a8:=Nat.le_mul_of_pos_right (n+1) ar.1.2.1;have hgm:∀c,grownCap w (n+1) c tE<=9223372036854775807:=λc=>grownCap_le_maxLen w (n+1) c tE (by unfold maxLen;omega);refine .inl ⟨Gh_ h4 _ _,?_⟩;have a1:=Nat.add_mul n 1 z;have a2:=Nat.add_mul i 1 z;have a3:=Nat.sub_mul n i z;have a4:=Nat.mul_le_mul_right z hi;have a5:=Nat.le_mul_of_pos_right n ar.1.1;have a6:=λc=>Nat.mul_le_mul_right z (hgc c);have a9:=Nat.sub_mul (n+1) i z;have b1:=λc=>Nat.sub_mul (grownCap w (n+1) c tE) (n+1) z;rcases hcase with⟨rfl,rfl,hQ⟩|⟨l,zs,rfl,hl,hzl,hQ⟩
 ·obtain⟨_,rfl⟩:=hx;have hi0:i=0:=by omega
  subst hi0;refine (Uq.insF_end_grow h4 none 0 0 iv.b cv [] xv w o_ o_ hlim' (Nat.zero_mul z).symm hxl (λ_=>rfl) (by intro a h;cases h) hvs).mono ?_;rintro e w' ⟨rfl,rfl⟩;have B:=(bS_.drew hr).trans (bS_.new (bS_.drew hr).rep tE vs (([]++xv).toArray++Builtin.zeroCells zv.cells (grownCap w (0+1) 0 tE-(0+1))) (0,0) s_ (by
   have e:(([]++xv).toArray++Builtin.zeroCells zv.cells (grownCap w (0+1) 0 tE-(0+1))).toList.take vs.length=xv:=by
    rw[Array.toList_append];exact take_left' (by simp[hxl,hvl])
   rw[e];exact hxis) λj _ h=>j_ h)
  refine⟨_,_,_,_,hQ,rfl,?_,B⟩;refine⟨_,_,_,by simp only[ln,<-hr.len];exact getElem?_concat_length,rfl,.inl rfl,hgc 0,?_,λ_=>⟨rfl,?_,hgm 0⟩⟩
  .have:=hgc 0;have:=a6 0;show vs.length<=_;omega
  .have:=hgc 0;have:=a6 0;have:=b1 0;simp only[Array.size_append,zF_size,size_toArray,nil_append,hxl];omega
 ·obtain⟨il,al,c,hil,rfl,hq,hnc,hu,ho⟩:=hx;obtain⟨il',hil',ho',hu',hlt,hpl,cur,t',fz,hb,ht',hs,hfz,hle,his⟩:=hr.row l true tE zs hl;rw[hil]at hil';cases hil';obtain⟨_,hcs,hc63⟩:=ho ho';have hcl:=his.length;have hcurl:cur.toList.length=il.s:=by simpa using hs
  have hxl':(cur.toList.take zs.length).length=n*z:=by rw[<-hcl,hzl]
  have hcells:∀j u,(cur.toList.take zs.length)[j]?=some u->w.cell? ⟨il.b,j,none⟩=some u:=by
   intro j u hj;rw[go_ hb];rw[getElem?_take]at hj;split at hj
   .simpa using hj
   .cases hj
  have h1c:=his.one;have hnl:(zs.take (i*z)++(vs++zs.drop (i*z))).length=(n+1)*z:=by rw[kI,kI,lC,length_drop,hzl,hvl];omega
  by_cases hroom:n+1<=c
  ·have a7:=Nat.mul_le_mul_right z hroom;have hpos:0<il.s:=by omega
   have hq':al=⟨il.b,0,none⟩:=by
    rcases hq with h|h
    .rw[h,hpl]
    .omega
   subst hq';have hvb:iv.b≠il.b:=λe=>hr.rows l lv tE zs false mV_ vs il iv hl hlv (λq=>by subst q;rw[hl]at hlv;cases hlv) hil hiv hpos e.symm;have hsp:∀j,j<il.s->(w.cell? ⟨il.b,j,none⟩).isSome=true:=by
    intro j hj;rw[go_ hb,Array.getElem?_eq_getElem o_];rfl
   have hfr:∀j,j<il.s->w.frozen? ⟨il.b,j,none⟩=false:=by
    intro j hj;obtain⟨f1,f2⟩:=fz;simp only[World.frozen?,hb];by_cases q:f1<=j/\j<f2
    .have:=(hfz _ q.1 q.2).1;omega
    .simp;omega
   have main:∀w',d6_ (λb=>b=il.b) w w'->(∃c',w'.heap[il.b]?=some (.cells c' t' fz)/\c'.toList=cur.toList.take (i*z)++(xv++(cur.toList.take (n*z)).drop (i*z))++cur.toList.drop ((n+1)*z))->
    ∃r H' φ' x,Q r H'/\Ending.returned (.slice (some ⟨il.b,0,none⟩) (n+1) c)= .returned x/\r.is φ' x/\bS_ φ H w φ' H' w':=by
    rintro w' hk ⟨c',hb',hc'⟩;have e1:(cur.toList.take (i*z)++(xv++(cur.toList.take (n*z)).drop (i*z))).length=(n+1)*z:=by simp[hcurl,hxl];omega
    have hc'l:c'.toList.length=il.s:=by rw[hc',kI,e1,length_drop,hcurl];omega
    have hsz':c'.size=il.s:=u_ hc'l
    have B:=bS_.pass (i':=⟨il.b,0,true,(n+1)*z,il.s⟩) (t':=tE) (cs':=zs.take (i*z)++(vs++zs.drop (i*z))) hr hl hil hpos rfl hk
     ⟨rfl,hnl.symm,Nat.lt_of_lt_of_le hlt hk.size,rfl,c',t',fz,hb',ht',hsz',hfz,(by rw[hnl,hsz'];omega),by
      rw[hnl,hc',take_left' e1];have h3:Is2 φ zs (cur.toList.take (n*z)):=by rw[<-hzl];exact his
      have h4:=h3.take (i*z);have h5:=h3.drop (i*z);rw[take_take,Nat.min_eq_left o_]at h4;exact (cA_.append (Is2.mono (prefix_append _ _) h4) (cA_.append (Is2.mono (prefix_append _ _) hxis) (Is2.mono (prefix_append _ _) h5)))⟩
    refine⟨_,_,_,_,hQ,rfl,?_,by simpa[pu] using B⟩;refine⟨_,_,c,by simp only[ln,<-hr.len];exact getElem?_concat_length,rfl,.inl rfl,hroom,?_,λ_=>⟨rfl,?_,hc63⟩⟩
    .show (n+1)*z<=0+c*z;omega
    .show 0+c*z<=il.s;omega
   by_cases hin:i=n
   .subst hin;refine (Uq.insF_end_room h4 il.b i c iv.b cv xv w hroom hc63 hxl (λj hj=>hsp _ o_) (λj hj=>hfr _ o_) hvs h1v).mono ?_;rintro e w' ⟨rfl,rfl⟩;obtain⟨c',h1,h2,h3⟩:=g6_ il.b t' fz xv (i*z) cur w hb (by rw[hxl];omega);refine main _ h1 ⟨c',h2,?_⟩;rw[h3,hxl,drop_of_length_le (l:=cur.toList.take (i*z)) (by rw[lC];omega),append_nil];congr 2;omega
   ·obtain⟨tA,tB,hsa,hsb⟩:∃tA tB,w.shape? iv.b=some (tA,cv0.size)/\w.shape? il.b=some (tB,cur.size):=⟨ev,t',by simp[World.shape?,hbv],by simp[World.shape?,hb]⟩;refine (Uq.insF_shift h4 il.b n c i iv.b cv _ xv w o_ hroom hc63 hvb hxl' hxl hcells (λj hj=>hsp j o_) (λj hj=>hfr j o_) hvs h1c h1v tA tB cv0.size cur.size hsa hsb o_ (by simp[World.frozen?,hbv]) (by simp[World.frozen?,hbv])).mono ?_;rintro e w' ⟨rfl,rfl⟩;have hD:((cur.toList.take zs.length).drop (i*z)).length=(n-i)*z:=by rw[length_drop,hxl'];omega
    obtain⟨c1,k1,b1,e1⟩:=g6_ il.b t' fz ((cur.toList.take zs.length).drop (i*z)) ((i+1)*z) cur w.drew hb (by rw[hD];omega);have g0:(cur.toList.take ((i+1)*z)).length=(i+1)*z:=by rw[lC,hcurl];omega
    have hc1l:c1.toList.length=il.s:=by rw[e1,kI,kI,g0,hD,length_drop,hcurl];omega
    have hc1s:c1.size=il.s:=u_ hc1l
    obtain⟨c2,k2,b2,e2⟩:=g6_ il.b t' fz xv (i*z) c1 _ b1 (by rw[hxl];omega);refine main _ (((l2_ _ w).trans k1 λb h=> .inl h).trans k2 λb h=> .inl h) ⟨c2,b2,?_⟩;have g1:c1.toList.take (i*z)=cur.toList.take (i*z):=by
     rw[e1,kV,take_append_of_le_length o_,take_take];congr 1;omega
    have g2:c1.toList.drop (i*z+xv.length)=(cur.toList.take zs.length).drop (i*z)++cur.toList.drop ((n+1)*z):=by
     rw[e1,kV,drop_left' (by rw[g0,hxl];omega),hD];congr 2;omega
    rw[e2,g1,g2,hzl];simp
  ·have hroom':c < n+1:=by omega
   have hsplit:Is2 φ (zs.take (i*z)++(vs++zs.drop (i*z))) ((cur.toList.take zs.length).take (i*z)++(xv++(cur.toList.take zs.length).drop (i*z))):=cA_.append (his.take _) (cA_.append hxis (his.drop _));have hlt':l<H.length:=(kC.1 hl).1;have main:∀w' (cc:Array Value),bS_ φ H w φ H w'->cc.size=grownCap w (n+1) c tE*z->cc.toList.take ((n+1)*z)=(cur.toList.take zs.length).take (i*z)++(xv++(cur.toList.take zs.length).drop (i*z))->
    ∃r H' φ' x,Q r H'/\Ending.returned (.slice (some ⟨w'.heap.size,0,none⟩) (n+1) (grownCap w (n+1) c tE))= .returned x/\r.is φ' x/\bS_ φ H w φ' H' (w'.alloc (.cells cc tE)):=by
    intro w' cc B0 hcs hct;have B1:=B0.trans (bS_.drop B0.rep l);have hg:=hgc c;have hg2:=a6 c;have hg3:=b1 c;have B2:=B1.trans (bS_.new B1.rep tE (zs.take (i*z)++(vs++zs.drop (i*z))) cc (0,0) (by rw[hnl,hcs];omega) (by rw[hnl,hct];exact hsplit) λj _ h=>j_ h);have hlen:(H.set l .dead).length=φ.length:=by rw[length_set,hr.len]
    refine⟨_,_,_,_,hQ,rfl,?_,B2⟩;refine⟨_,_,_,by simp only[ln,<-hr.len];exact getElem?_concat_length,rfl,.inl rfl,hgc c,?_,λ_=>⟨rfl,?_,hgm c⟩⟩
    .show (zs.take (i*z)++(vs++zs.drop (i*z))).length<=0+grownCap w (n+1) c tE*z;rw[hnl];omega
    .show 0+grownCap w (n+1) c tE*z<=cc.size;rw[hcs];omega
   by_cases hin:i=n
   ·subst hin;refine (Uq.insF_end_grow h4 (some al) i c iv.b cv (cur.toList.take zs.length) xv w hnc hroom' hlim' hxl' hxl (c_) (by
     intro a ha j u hj;cases ha;have hj':=(kC.1 hj).1;have hq':al=⟨il.b,0,none⟩:=by
      rcases hq with h|h
      .rw[h,hpl]
      ·exact absurd hj' (by have:i=0:=by omega
                            subst this;simp[hzl])
     rw[hq',hc_,kN];exact hcells j u hj) hvs).mono ?_
    rintro e w' ⟨rfl,rfl⟩;refine main w.drew _ (bS_.drew hr) ?_ ?_
    .have:=hgc c;have:=a6 c;have:=b1 c;simp only[Array.size_append,zF_size,size_toArray,kI,hxl',hxl];omega
    .simp only[Array.toList_append];rw[take_left' (by simp[hxl',hxl];omega),k7 (l:=cur.toList.take zs.length) o_,drop_of_length_le o_,append_nil]
   ·have hq':al=⟨il.b,0,none⟩:=by
     rcases hq with h|h
     .rw[h,hpl]
     .omega
    subst hq';refine (Uq.insF_grow h4 il.b n c i iv.b cv (cur.toList.take zs.length) xv w o_ hnc hroom' hlim' hxl' hxl hcells hvs h1c h1v).mono ?_;rintro e w' ⟨rfl,rfl⟩;have hg:=hgc c;have hg2:=a6 c;have hg3:=b1 c;obtain⟨row,hrow⟩:∃row:Array Value,row=((cur.toList.take zs.length).take (i*z)).toArray++Builtin.zeroCells zv.cells (n+1-i)++Builtin.zeroCells zv.cells (grownCap w (n+1) c tE-(n+1)):=⟨_,rfl⟩;rw[<-hrow];have hA:(w.alloc (.cells row tE)).drew.heap[w.heap.size]?=some (.cells row tE (0,0)):=heap_alloc_new w _;have hAs:row.size=grownCap w (n+1) c tE*z:=by
     rw[hrow];simp only[Array.size_append,zF_size,size_toArray,lC,hxl'];omega
    have hrt:row.toList.take (i*z)=(cur.toList.take zs.length).take (i*z):=by
     rw[hrow,Array.toList_append,Array.toList_append,kV];exact take_left' (by rw[lC];omega)
    obtain⟨c1,k1,b1,e1⟩:=g6_ w.heap.size tE (0,0) xv (i*z) row _ hA (by rw[hAs,hxl];omega);have hD:((cur.toList.take zs.length).drop (i*z)).length=(n-i)*z:=by rw[length_drop,hxl'];omega
    have hrl:row.toList.length=grownCap w (n+1) c tE*z:=u_ hAs
    have hT:(row.toList.take (i*z)++xv).length=(i+1)*z:=by rw[kI,lC,hrl,hxl];omega
    have hc1l:c1.toList.length=grownCap w (n+1) c tE*z:=by
     rw[e1,kI,hT,length_drop,hrl,hxl];omega
    have hc1s:c1.size=grownCap w (n+1) c tE*z:=u_ hc1l
    obtain⟨c2,k2,b2,e2⟩:=g6_ w.heap.size tE (0,0) ((cur.toList.take zs.length).drop (i*z)) ((i+1)*z) c1 _ (show (World.drew (World.setCells (World.drew (w.alloc _)) w.heap.size (i*z) xv)).heap[w.heap.size]?=_ from b1) (by rw[hc1s,hD];omega);have g1:c1.toList.take ((i+1)*z)=(cur.toList.take zs.length).take (i*z)++xv:=by
     rw[e1,take_left' hT,hrt]
    have hct:c2.toList.take ((n+1)*z)=(cur.toList.take zs.length).take (i*z)++(xv++(cur.toList.take zs.length).drop (i*z)):=by
     rw[e2,g1,take_left' (by rw[kI,kI,lC,hxl',hxl,hD];omega),kV]
    have hc2l:c2.toList.length=grownCap w (n+1) c tE*z:=by
     rw[e2,kI,kI,hD,lC,length_drop,hc1l];omega
    have hc2s:c2.size=grownCap w (n+1) c tE*z:=u_ hc2l
    have kk:=((((gT_ (λb=>b=w.heap.size) w (.cells row tE)).trans (l2_ (λb=>b=w.heap.size) _) λb h=> .inl h).trans k1 λb h=> .inl h).trans (l2_ (λb=>b=w.heap.size) _) λb h=> .inl h).trans k2 λb h=> .inl h;have B0:=bS_.drop hr l;have B2:=B0.trans (bS_.snoc (own:=true) (t:=tE) (cs:=zs.take (i*z)++(vs++zs.drop (i*z))) (i:=⟨w.heap.size,0,true,(zs.take (i*z)++(vs++zs.drop (i*z))).length,c2.size⟩) B0.rep ⟨kk.os,kk.tape,kk.output,kk.size,λb h1 _=>kk.block b h1 o_⟩ (λb q=>kk.block b (B0.rep.blockLt q) (h_ (B0.rep.blockLt q)))
     ⟨rfl,rfl,(Array.getElem?_eq_some_iff.1 b2).1,rfl,c2,tE,(0,0),b2,λ_=>rfl,rfl,λj _ h=>j_ h,by rw[hnl,hc2s];omega,Is2.mono (prefix_append _ _) (by rw[hnl,hct];exact hsplit)⟩ (kO _))
    have hlen:(H.set l .dead).length=φ.length:=by rw[length_set,hr.len]
    refine⟨_,_,_,_,hQ,rfl,?_,B2⟩;refine⟨_,_,_,by simp only[ln,<-hr.len];exact getElem?_concat_length,rfl,.inl rfl,hg,?_,λ_=>⟨rfl,?_,hgm c⟩⟩
    .show (zs.take (i*z)++(vs++zs.drop (i*z))).length<=0+grownCap w (n+1) c tE*z;rw[hnl];omega
    .show 0+grownCap w (n+1) c tE*z<=c2.size;rw[hc2s];omega
def eK_:de_ Tryz.prog 112 slices_Insert__api_File_api_File:=DC_ .f
def fD_:de_ Tryz.prog 236 slices_Insert__string_string:=DC_ .s
def kA_:de_ Tryz.prog 237 slices_Insert__int_int:=DC_ .n
end Go.Am
namespace Go.Proofs
open List
open Go.Shelf Tryz
end Go.Proofs
namespace Go.Am
open List
open Go.Proofs
end Go.Am
namespace Go.Am
open List
open Go.Proofs.Tryz
inductive Wp(P:Prop)|I
inductive WF(v:FV)|I
inductive WI(n:Int)|I
instance:CoeT (Wp P) a Prop:=⟨P⟩
instance:CoeT (WF v) a FV:=⟨v⟩
instance:CoeT (WI n) a FV:=⟨.g (.int .i64 n)⟩
instance:CoeT (WI n) a GV:=⟨.int .i64 n⟩
instance:CoeT (WI n) a RV:=⟨.s (.int .i64 n)⟩
instance:Coe Int GV:=⟨λn=>.int .i64 n⟩
instance:Coe Bool GV:=⟨.bool⟩
instance:Coe Y_ GV:=⟨.str⟩
instance:Coe Pl GV:=⟨.ptr⟩
instance:Coe GV FV:=⟨.g⟩
instance:Coe GV RV:=⟨.s⟩
def nN(n:Int):WI n:=.I
def nL(x:Pl)(n z:Nat):WF (.g (.sl x n z)):=.I
def gI(n:Int):WF (.g (.int .i64 n)):=.I
def gB(b:Bool):WF (.g (.bool b)):=.I
def gS(s:Y_):WF (.g (.str s)):=.I
inductive WR(v:RV)|I
instance:CoeT (WR v) a RV:=⟨v⟩
def yR(x:Pl)(n z:Nat):WR (.s (.sl x n z)):=.I
def yB(x:Pl)(n:Nat):WR (.a [.sl x n 5]):=.I
def yA(x:Pl)(n:Nat):WF (.agg [.sl x n 5]):=.I
def yQ(l:Nat):WF (.g (.ptr (some (l,0)))):=.I
def gP(s:Pl):WF (.g (.ptr s)):=.I
def gM(s:Option Nat):WF (.g (.map s)):=.I
def fF(c:Cx)(f:Func):Sm:=λa H Q=>∃k,ar_ c f k a H Q
def eE(E:Nat->Sm):Prop:=∀f,de_ prog f (E f)
def zz{a b:Prop}(h:a=b:=by kernel_rfl):a=b:=h
def eN:dT_ prog []:=.nil _
def nO:eE av_:=A4_ _
def eZ{f s l}{b:Func}(h:an_ prog f s)(g:prog.funcs[f]?=some b)(hl:dT_ prog l)(h1:(b.name== "runtime.NumGoroutine")=false:=by kernel_rfl)(h2:b.body.isNone=false:=by kernel_rfl):dT_ prog ((f,s)::l):=.cons (h.c ⟨_,g,h1,h2⟩) hl
def sO{f}{c:Cx}{b:Func}(e:dT_ prog c.env)(d:eE c.dyn)(g:prog.funcs[f]?=some b)(r:b.results=c.res.toArray:=by rfl)(t:c.tys=tys:=by rfl):an_ prog f (fF c b):=l7_.sound t e d g r
def aa(a b c e f):Wp (rd a b c λd=>dL e d f):=.I
def ac(a b c)(f:_->_->Prop):Wp (cl a b c λd e=>rG d λg=>f e g):=.I
def ae(a b c):Wp (chk a (chk b c)):=.I
def af(a)(d:_->_->Prop):Wp (uR a λb c=>rS b λe=>d c e):=.I
def ah(a b c e):Wp (rd a b c λd=>dS d e):=.I
def ai(a b):Wp (dI .i64 a b):=.I
def aj(a b c)(f:_->_->Prop):Wp (ac a b c λd e=>dB e λg=>f d g):=.I
def ak(a b):Wp (ae true a b):=.I
def aq(a b c e):Wp (rd a b c λd=>ai d e):=.I
def au(a b c d g h)(i:_->Prop):Wp (aa a b c d λe f=>ak (g&&ltI h (nI f)) (i e)):=.I
def av(a b c)(f:_->_->Prop):Wp (cl a b c λd e=>rT d λg=>f e g):=.I
def aw(a b c d):Wp (cq_ (ltI a b) c d):=.I
def ax(a:Post)(b c):Wp (a (.tup b) c):=.I
def ay(a)(d:_->_->Prop):Wp (af a λb c=>ai c λe=>d b e):=.I
def aA(a d)(e:_->_->_->Prop):Wp (uC a λb c=>dL d b λf g=>e c f g):=.I
def aB(a b c):Wp (ak a (pS b c)):=.I
def aC(a b c):Wp (cq_ (!a) b c):=.I
def aD(a b c e):Wp (rd a b c λd=>dB d e):=.I
def aE(a b c f)(g:_->_->_->Prop):Wp (ac a b c λd e=>dL f e λh i=>g d h i):=.I
def aF(a b c d e f h):Wp (au a b c d e f λg=>pS g h):=.I
def aG(a b c)(f:_->_->Prop):Wp (ac a b c λd e=>ai e λg=>f d g):=.I
def aH(a b c d f g h i):Wp (wr a b c d λe=>wr e f g h i):=.I
def aI(a b c)(f:_->_->_->Prop):Wp (av a b c λd e=>af e λg h=>f d g h):=.I
def aJ(a b e)(f:Nat)(g):Wp (aB a b λc d=>ah e c (d+f) g):=.I
def aK(a b c d e):Wp (aC a (ax b c d) e):=.I
def aL(a b c f g)(h:_->Prop):Wp (aj a b c λd e=>aK e f g d (h d)):=.I
def aM(a b e)(f:Nat)(g):Wp (aB a b λc d=>aq e c (d+f) g):=.I
def aN(a b)(f:_->_->Prop):Wp (aA a b λc d e=>uN c (f d e)):=.I
def aO(a)(d:_->_->Prop):Wp (uC a λb c=>ai b λe=>d c e):=.I
def aP(a):Wp (chk true a):=.I
def aR(a)(d:_->_->Prop):Wp (uC a λb c=>dB b λe=>d c e):=.I
def aS(a:Post)(b):Wp (a false b):=.I
def aT(a)(d:_->_->Prop):Wp (uC a λb c=>dS b λe=>d c e):=.I
def aU(a d e f g h):Wp (pS a λb c=>aF d b (c+0) e f g h):=.I
def aV(a b c e):Wp (rd a b c λd=>dM d e):=.I
def aW(a)(d:_->_->Prop):Wp (af a λb c=>dB c λe=>d b e):=.I
def aX(a b c d g h i):Wp (aa a b c d λe f=>aw g (nI f) h i):=.I
def aY(a b c d h i):Wp (aE a b c d λe f g=>ax h [.s (.sl f g 5),i] e):=.I
def aZ(a)(d:_->Prop):Wp (ay a λb c=>uE b (d c)):=.I
def ba(a)(d:_->_->Prop):Wp (uR a λb c=>rC b λe=>d c e):=.I
def bc(a d):Wp (ay a λb c=>uE b d):=.I
def bf(a b c d):Wp (cq_ (leI a b) c d):=.I
def bg(a b c d g h i j)(l:_->_->_->_->Prop):Wp (aa a b c d λe f=>aa g h i j λm n=>l e f m n):=.I
def bh(a b c)(f:_->_->Prop):Wp (cl a b c λd e=>rA d λg=>f e g):=.I
def bj(a b c d):Wp (cq_ (eqI a b) c d):=.I
def bk(a b c)(f:_->_->_->Prop):Wp (av a b c λd e=>ba e λg h=>f d g h):=.I
def bm(a c):Wp (rC a λb=>aO b c):=.I
def bn(a b e)(f:Nat)(g:_->_->_->Prop):Wp (aB a b λc d=>ah e c (d+f) λh=>g c d h):=.I
def bo(a d e f g h):Wp (pS a λb c=>aF d b (c+1) e f g h):=.I
def bp(a b c d f g):Wp (wr a b c d λe=>ax f g e):=.I
def bq(a b e)(f:Nat)(g):Wp (aB a b λc d=>ah e c (d+f+0) g):=.I
def br(a b c d e g h)(i:_->_->Prop):Wp (aL a b c d e λf=>rdN (pu f g) (some (ln f,0)) h λj=>i f j):=.I
def bt(a b c d):Wp (aC a (aS b c) d):=.I
def bv(a d e):Wp (pS a λb c=>aV d b (c+3) e):=.I
def bw(a d e f):Wp (pS a λb c=>aa d b (c+0) e f):=.I
def bz(a b c)(f:_->_->_->Prop):Wp (av a b c λd e=>ay e λg h=>f d g h):=.I
def bA(a b c d e f g h i):Wp (aP (ap a b c d e f g h i)):=.I
def bB(a)(d:_->Prop):Wp (aW a λb c=>uE b (d c)):=.I
def bC(a b c g)(h:_->_->_->_->Prop):Wp (aI a b c λd e f=>dL g f λi j=>h d e i j):=.I
def bD(a b c d h i j l m):Wp (aE a b c d λe f g=>aY h [nL f g 5,i] e j l m):=.I
def bF(a b e)(f:Nat)(g:_->_->_->Prop):Wp (aB a b λc d=>aD e c (d+f) λh=>g c d h):=.I
def bG(a b c d h)(i:Nat)(j:_->_->_->_->Prop):Wp (bF a b c d λe f g=>aD h e (f+i+1) λl=>j e f g l):=.I
def bH(a b c d e f l)(m:Nat)(n o)(p:Nat)(q)(r:_->_->_->_->_->_->_->_->Prop):Wp (bG a b c d e f λg h i j=>bg l g (h+m+1+1) n o g (h+p+1+1+1) q λs t u v=>r g h i j s t u v):=.I
def bI(a b c d e f g h i j l m v)(w:Nat)(x)(y:_->_->_->_->_->_->_->_->Prop):Wp (bH a b c d e f g h i j l m λn o p q r s t u=>aa v n (o+w+1+1+1+1) x λz A=>y p q r s t u z A):=.I
def bJ(a b c)(g:_->_->_->Prop):Wp (aI a b c λd e f=>dS f λh=>g d e h):=.I
def bK(a b c f)(g:_->Prop):Wp (aj a b c λd e=>bt e f d (g d)):=.I
def bL(a b e)(f:Nat)(g)(h:Nat)(i)(j:_->_->_->Prop):Wp (aB a b λc d=>aH e c (d+f) g c (d+h+1) i λl=>j c d l):=.I
def bM(a b c d e f g)(l:Nat)(m)(n:Nat)(o)(p:_->_->_->Prop):Wp (bL a b c d e f g λh i j=>aH j h (i+l+1+1) m h (i+n+1+1+1) o λq=>p h i q):=.I
def bN(a b c d e f g h i j l)(p:Nat)(q r):Wp (bM a b c d e f g h i j l λm n o=>wr o m (n+p+1+1+1+1) q r):=.I
def bO(a b c)(f:Post):Wp (aj a b c λd e=>f e d):=.I
def bP(a c d e f):Wp (aZ a λb=>aK (eqI b 0) c [d,b] e f):=.I
def bQ(a b c f)(g:_->_->_->Prop):Wp (bh a b c λd e=>aN e f λh i=>g d h i):=.I
def bR(a b e)(f:Nat)(g h):Wp (aB a b λc d=>aa e c (d+f+4) g h):=.I
def bT(a b c d h i):Wp (bQ a b c d λe f g=>ax h [.a [.sl f g 5],i] e):=.I
def bU(a b c d g h):Wp (aa a b c d λe f=>eqv g (nL e f 5) h):=.I
def bV(a b c d):Wp (aw a (nI b) c d):=.I
def bW(a b c g)(h:_->_->_->_->Prop):Wp (bk a b c λd e f=>aN f g λi j=>h d e i j):=.I
def bX(a d e):Wp (pS a λb c=>aV d b (c+2) e):=.I
def bY(a d e):Wp (pS a λb c=>aV d b (c+1) e):=.I
def bZ(a d e f):Wp (pS a λb c=>wr d b (c+1) e f):=.I
def ca(a d e f g h):Wp (pS a λb c=>aF d b (c+2) e f g h):=.I
def cd(a b f)(g:_->_->_->_->Prop):Wp (aA a b λc d e=>aN c f λh i=>g d e h i):=.I
def ce(a)(d:_->_->_->Prop):Wp (aR a λb c=>aR b λe f=>d c e f):=.I
def cf(a b c d h)(i:Nat)(j:_->_->_->_->Prop):Wp (bn a b c d λe f g=>aq h e (f+i+1) λl=>j e f g l):=.I
def ch(a b c d e f l)(m:Nat)(n:_->_->_->_->_->Prop):Wp (cf a b c d e f λg h i j=>ah l g (h+m+1+1) λo=>n g h i j o):=.I
def cn(a b c d e f g h o)(p:Nat)(q:_->_->_->_->_->_->Prop):Wp (ch a b c d e f g h λi j l m n=>ah o i (j+p+1+1+1) λr=>q i j l m n r):=.I
def co(a b c d e f g h i j r)(s:Nat)(t)(u:_->_->_->_->_->_->Prop):Wp (cn a b c d e f g h i j λl m n o p q=>aa r l (m+s+1+1+1+1) t λv w=>u n o p q v w):=.I
def cp(a b e)(f:Nat)(g):Wp (aB a b λc d=>aq e c (d+f+1) g):=.I
def cq(a d e f):Wp (pS a λb c=>aa d b c e f):=.I
def ct(a e)(f:_->_->_->_->_->Prop):Wp (ce a λb c d=>aA c e λg h i=>f b d g h i):=.I
def cw(a b c)(g:_->_->_->Prop):Wp (bz a b c λd e f=>bB e λh=>g d f h):=.I
def cy(a b h i)(j:_->_->_->_->_->_->_->_->Prop):Wp (ct a b λc d e f g=>cd e h i λl m n o=>j c d f g l m n o):=.I
def cz(a b c):Wp (ak (leI a b) c):=.I
def cA(a d e f):Wp (pS a λb c=>aa d b (c+4) e f):=.I
def cC(a d e f g):Wp (pS a λb c=>bp d b (c+3) e f g):=.I
def cD(a d e f g h):Wp (pS a λb c=>aX d b (c+1) e f g h):=.I
def cE(a b c d e f):Wp (aK (eqI a b) c d e f):=.I
def cF(a b c d g h):Wp (aa a b c d λe f=>eqv g (nL e f 1) h):=.I
def cG(a d e):Wp (pS a λb c=>aq d b (c+1) e):=.I
def cH(a b c d e f g):Wp (aU a b c (leI d e) f g):=.I
def cI(a b c g h i)(j:_->_->_->Prop):Wp (nxt a b c (λd e f=>DN_ f g h λl m=>j f l m) i):=.I
def cJ(a d e f):Wp (pS a λb c=>aa d b (c+2) e f):=.I
def cK(a b c d):Wp (cq_ a d (aS b c)):=.I
def cL(a b c d e f g h i j l m n o p y z A C D E F G I):Wp (bI a b c d e f g h i j l m n o p λq r s t u v w x=>bN y z A C q D r E (.sl s t 1) F (.sl u v 1) G (.sl w x 1) I):=.I
def cM(a b c f)(g:_->Prop):Wp (aj a b c λd e=>cK e f d (g d)):=.I
def cN(a b e)(f:Nat)(g):Wp (aB a b λc d=>aq e c (d+f+1+0) g):=.I
def cO(a b c e f g h i j):Wp (rdN a b c λd=>ap0 e f g h d i j):=.I
def cP(a b c d e f g h i j l m n):Wp (co a b c d e d f g h i j l m n):=.I
def cQ(a b c d e f g h i j l m):Wp (cP a b c d e f d g h i j l m):=.I
def cR(a b c d e f g h i j l):Wp (cQ a b c d e f g d h i j l):=.I
def cS(a b c d e f g h i j):Wp (cR a b c d e f g h d i j):=.I
def cT(a b c d e f g h):Wp (aF a b c d (leI e f) g h):=.I
def cU(a b c d e):Wp (bt (eqI a b) c d e):=.I
def cV(a)(d:_->Prop):Wp (aT a λb c=>uN b (d c)):=.I
def cW(a:Post)(b c):Wp (a (.g b) c):=.I
def cX(a b c):Wp (cW a (.bool b) c):=.I
def cY(a d):Wp (aT a λb c=>uN b d):=.I
def cZ(a b e)(f:Nat)(g h i j l):Wp (aB a b λc d=>cT e c (d+f+4) g h i j l):=.I
def da(a b c d e f):Wp (sI_ a b false c d e f):=.I
def db(a b c d e f g)(j:_->_->Prop):Wp (br a b c d e f g λh i=>txt i λl=>j h l):=.I
def dg(a b c e f g h i j l m):Wp (rdN a b c λd=>bA e f g h i j d l m):=.I
def dh(a b c)(g:_->_->_->Prop):Wp (aI a b c λd e f=>dP f λh=>g d e h):=.I
def di(a b d e f):Wp (Iv_ a b λc=>ax d [c,e] f):=.I
def dj(a b c e f):Wp (aD a b c λd=>cq_ d e f):=.I
def dk(a b c d):Wp (cX a (eqI b c) d):=.I
def dl(a b c d e f g):Wp (bo a b c (leI d e) f g):=.I
def dm(a c):Wp (rS a λb=>dS b c):=.I
def dn(a b c d h)(i:Nat)(j:_->_->_->_->Prop):Wp (bn a b c d λe f g=>ah h e (f+i+1) λl=>j e f g l):=.I
def dp(a b c d e f l)(m:Nat)(n:_->_->_->Prop):Wp (dn a b c d e f λg h i j=>aD l g (h+m+1+1) λo=>n i j o):=.I
def dq(a b c d e f g h):Wp (dp a b c d e d f g h):=.I
def dt(a b c d e f g):Wp (dq a b c d e f d g):=.I
def du(a b c d)(i:_->_->_->_->Prop):Wp (bC a b c d λe f g h=>aZ f λj=>i e g h j):=.I
def dv(a b c d):Wp (ae (leI a b) c d):=.I
def dw(a b c d e f g j)(l:Nat)(m):Wp (cT a b c d e f g λh i=>aq j h (i+l) m):=.I
def dx(a b c d e g h i j l):Wp (aL a b c d e λf=>aL g h f i j l):=.I
def dy(a b c d e f g h i):Wp (dx a b c d e f g h e i):=.I
def dz(a d e)(f:_->_->_->_->Prop):Wp (pS a λb c=>aa d b (c+0) e λg h=>f b c g h):=.I
def dA(a b c d e):Wp (aw a b (aS c d) e):=.I
def dC(a b c d e f g):Wp (wr a b c (.sl d e f) g):=.I
def dD(a b c e f g)(h:_->_->Prop):Wp (ah a b c λd=>ah e f g λi=>h d i):=.I
def dE(a b c)(g:_->_->Prop):Wp (bJ a b c λd e f=>bc e (g d f)):=.I
def dG(a b c d e f g h i j l m n o p):Wp (bI a b c d e d f g h i j l m n o p):=.I
def dH(a b c d e f g h i j l m n o):Wp (dG a b c d e f d g h i j l m n o):=.I
def dJ(a b c d e f g h i j l m n):Wp (dH a b c d e f g h d i j l m n):=.I
def dK(a b c d e f g h i j l m):Wp (dJ a b c d e f g h i j d l m):=.I
def dN(a b c d e f g h):Wp (bA a b c d e f g 1 h):=.I
def dO(a b c d):Wp (cX a (leI b c) d):=.I
def dQ(a b c d e f g j l m n):Wp (db a b c d e f g λh i=>di i j l m (pu h n)):=.I
def dR(a b c d e f g h i j):Wp (dQ a b c d e f g h i j f):=.I
def dU(a b c d)(i:_->_->_->Prop):Wp (bW a b c d λe f g h=>bc f (i e g h)):=.I
def dV(a b c d e f):Wp (aw a b (ax c d e) f):=.I
def dW(a b c d):Wp (cq_ (er_ a b) c d):=.I
def dY(a b c d e f):Wp (yg_ a b false c d e f):=.I
def dZ(a:Post)(b c d e):Wp (a (nL b c d) e):=.I
def d6(a b c)(g:_->_->_->Prop):Wp (dh a b c λd e f=>bB e λh=>g d f h):=.I
def d7(a b e)(f:Nat)(g):Wp (aB a b λc d=>ah e c (d+f+1) g):=.I
def d8(a b c d):Wp (aC (eqI a b) c d):=.I
def d9(a b c d):Wp (aC (er_ a b) c d):=.I
def eg(a b c f g):Wp (cl a b c λd e=>ax f g e):=.I
def en(a:Post)(b c):Wp (a (.agg b) c):=.I
def ep(a b c d e):Wp (bj a b e (aS c d)):=.I
def eu(a b c d):Wp (aa a b c 1 d):=.I
def ew(a b c d e h):Wp (da a b c d e λf g=>bm f h):=.I
def eF(a b c d):Wp (cW a (.int b c) d):=.I
def eG(a b c d e f):Wp (bf a b (ax c d e) f):=.I
def eH(a b c d g h i):Wp (aa a b c d λe f=>ax g [.a [.sl e f 5],h] i):=.I
def eI(a b c d h i j l m n):Wp (dU a b c d λe f g=>dU h [.agg [.sl f g 5],i,j,l] e m n):=.I
def eJ(a b c f g h)(i:_->_->_->_->_->_->_->_->_->Prop):Wp (bh a b c λd e=>cy e f g h λj l m n o p q r=>i d j l m n o p q r):=.I
def eK(a d e f):Wp (pS a λb c=>aa d b (c+1) e f):=.I
def eM(a b c d):Wp (d9 a (mkS b) c d):=.I
def eO(a d):Wp (aR a λb c=>uN b d):=.I
def eQ(a d):Wp (aO a λb c=>aT b d):=.I
def eS(a b c d e f g h i):Wp (bD a b c d e (.agg f) g h i):=.I
def eU(a b c d f g h i):Wp (bq a b c d λe=>cq_ (dQ_ f e||er_ g e) h i):=.I
def e8(a b c d f g h):Wp (aJ a b c d λe=>cq_ (dQ_ e f) g h):=.I
def fd(a b c d e f g h):Wp (bp a b c (.sl d e f) g h):=.I
def fe(a b c d e f g l m):Wp (dN a b c d e f g λh i j=>bZ l j (.sl h i 4) m):=.I
def ff(a b c d e f g):Wp (ca a b c (leI d e) f g):=.I
def fg(a b c d)(i:_->_->_->_->Prop):Wp (bW a b c d λe f g h=>aZ f λj=>i e g h j):=.I
def fh(a d e f g h):Wp (pS a λb c=>aX d b (c+0) e f g h):=.I
def fj(a d e f g h):Wp (pS a λb c=>aX d b (c+2) e f g h):=.I
def fk(a b c g h)(i:_->_->Prop):Wp (d6 a b c λd e f=>aK f g h d (i d e)):=.I
def fl(a b d e f):Wp (cG a b λc=>bj c d e f):=.I
def fo(a b c f g)(h:_->Prop):Wp (aG a b c λd e=>ep e f g d (h d)):=.I
def fp(a b c d g h):Wp (aa a b c d λe f=>eqv g (nL e f 3) h):=.I
def fq(a b):Wp (ae a true b):=.I
end Go.Am
namespace Go.Am
open List
open Go.Proofs.Tryz
variable{E:Nat->Sm}{k:Nat}{H:Hp}{Q:Post}{U X Y Z u w x x1 y z:Pl}{D L M N O l m n n1 o:Nat}{I g h i j:Int}{C b b1 b2 c d:Bool}{R S e r s t:ByteArray}{A a:Option Nat}{p q:List (Nat×Nat)}{F:Sm}
def fq_.cx:Cx:=⟨tys,[],[],[],[],av_,[.cell 2 100]⟩
def fq_:=fF fq_.cx f47
theorem sM_:ar_ fq_.cx f47 (k+1) [.agg [b,c,.sl x n 1,.sl y m 1,.sl z l 1]] H Q=aP (cO H x (n*1) H 9 1 16 n (λa=>aP (cO a y (m*1) a 9 1 16 m (λd=>aP (cO d z (l*1) d 3 1 8 l (λe=>en Q [b,c,.sl (some (ln H,0)) n 1,.sl (some (ln a,0)) m 1,.sl (some (ln d,0)) l 1] e)))))):=zz
def ti_:an_ prog 47 (fq_):=sO eN nO func47
def cb_.cx:Cx:=⟨tys,[],[(3,[1,2,3,4])],[],[(47,fq_)],av_,[.cell 2 24]⟩
def cb_:=fF cb_.cx f14
def cb_.l3 k a b c d e f g:=aS_ (cb_.cx) f14 3 k (.bad::.bx [.sl a b 5]::.bx [.sl c d 5]::.bx [.sl e f 5]::gI g::B 19 [])
theorem sp_:ar_ cb_.cx f14 (k+1) [.agg [.sl x n 5]] H Q=cb_.l3 k x n none 0 none 0 0 H Q:=zz
theorem cb_.l3_eq:cb_.l3 (k+1) x n y m z l i H Q=bV i n (dK (leI 0 i&&ltI i (nI n)) x H (tN i*5) H H 1 H 1 H 1 (λa b c d e f g h=>eJ fq_ [.agg [a,b,.sl c d 1,.sl e f 1,.sl g h 1]] H 1 1 1 λa b c d e f g h j=>dN a 100 5 80 z l [b,c,.sl d e 1,.sl f g 1,.sl h j 1] λa b c=>cb_.l3 k x n y m a b (ae_ .i64 (i+1)) c Q)) (en Q [.sl z l 5] H):=zz
def sL_:an_ prog 14 (cb_):=sO (eZ ti_ func47 eN) nO func14
def cP_.cx:Cx:=⟨tys,[],[(2,[0,3])],[],[],av_,[.tmp 2]⟩
def cP_:=fF cP_.cx f287
def cP_.l2 k a b c:=aS_ (cP_.cx) f287 2 k (nL a b 1::.bad::.bad::gI c::B 16 [])
theorem cP_.l2_eq:cP_.l2 (k+1) x n i H Q=bV i n (aJ (leI 0 (ae_ .i64 (i-1))&&ltI (ae_ .i64 (i-1)) (nI n)) x H (tN (ae_ .i64 (i-1))*1) (λa=>aJ (leI 0 i&&ltI i (nI n)) x H (tN i*1) λb=>bt (dQ_ a b) Q H (cP_.l2 k x n (ae_ .i64 (i+1)) H Q))) (Q true H):=zz
def w2_:an_ prog 287 (cP_):=sO eN nO func287
def aM_.cx E:=(⟨tys,[],[(2,[0,1,7,8])],[],[],E,[.tmp 4]⟩:Cx)
def aM_ E:=fF (aM_.cx E) f299
def aM_.l2 E k a b c d e f:=aS_ (aM_.cx E) f299 2 k (nL a b 1::.g (.fn c d)::B 5 (gI e::gI f::B 10 []))
theorem aM_.l2_eq:aM_.l2 E (k+1) x n m p i j H Q=aw j i (aJ (leI 0 j&&ltI j (nI n)) x H (tN j*1) (λa=>aj (E m) (cpl [.g (.str a)] p) H λa b=>cq_ b (Q j a) (aM_.l2 E k x n m p i (ae_ .i64 (j+1)) a Q))) (eF Q .i64 (-1) H):=zz
def hw_(E)(h:eE E):an_ prog 299 (aM_ E):=sO eN h func299
def cF_.cx E:=(⟨tys,[],[],[],[(299,(aM_ E))],E,[.tmp 4]⟩:Cx)
def cF_ E:=fF (cF_.cx E) f292
def g7_(E)(h:eE E):an_ prog 292 (cF_ E):=sO (eZ (hw_ E h) func299 eN) h func292
def da_.cx E:=(⟨tys,[],[],[],[],E,[.tmp 3]⟩:Cx)
def da_ E:=fF (da_.cx E) f293
theorem oz_:ar_ (da_.cx E) f293 (k+1) [s,.g (.ptr (some (n,m)))] H Q=rd H n m λa=>dF a λa b=>aj (E a) (cpl [.g (.str s)] b) H λa b=>cX Q (!b) a:=zz
def nF_(E)(h:eE E):an_ prog 293 (da_ E):=sO eN h func293
def et_.cx E:=(⟨tys,[3],[],[],[(292,(cF_ (cW_ [(293,(da_ E))])))],E,[.tmp 4]⟩:Cx)
def et_ E:=fF (et_.cx E) f288
def qd_(E)(h:eE E):an_ prog 288 (et_ E):=sO (dT_.cons ((g7_ (cW_ [(293,(da_ E))]) (gL_ (eZ (nF_ E h) func293 eN))).c ⟨_,func292,by kernel_rfl,by kernel_rfl⟩) eN) h func288
def a2_.cx E:=(⟨tys,[],[(2,[0,1,7,8])],[],[],E,[.tmp 4]⟩:Cx)
def a2_ E:=fF (a2_.cx E) f300
def a2_.l2 E k a b c d e f:=aS_ (a2_.cx E) f300 2 k (nL a b 1::.g (.fn c d)::B 5 (gI e::gI f::B 10 []))
theorem a2_.l2_eq:a2_.l2 E (k+1) x n m p i j H Q=aw j i (aM (leI 0 j&&ltI j (nI n)) x H (tN j*1) (λa=>aj (E m) (cpl [.g (.int .i64 a)] p) H λa b=>cq_ b (Q j a) (a2_.l2 E k x n m p i (ae_ .i64 (j+1)) a Q))) (eF Q .i64 (-1) H):=zz
def jd_(E)(h:eE E):an_ prog 300 (a2_ E):=sO eN h func300
def di_.cx E:=(⟨tys,[],[],[],[(300,(a2_ E))],E,[.tmp 4]⟩:Cx)
def di_ E:=fF (di_.cx E) f294
def if_(E)(h:eE E):an_ prog 294 (di_ E):=sO (eZ (jd_ E h) func300 eN) h func294
def eg_.cx E:=(⟨tys,[],[],[],[],E,[.tmp 3]⟩:Cx)
def eg_ E:=fF (eg_.cx E) f295
theorem rp_:ar_ (eg_.cx E) f295 (k+1) [i,.g (.ptr (some (n,m)))] H Q=rd H n m λa=>dF a λa b=>aj (E a) (cpl [.g (.int .i64 i)] b) H λa b=>cX Q (!b) a:=zz
def r1_(E)(h:eE E):an_ prog 295 (eg_ E):=sO eN h func295
def gZ_.cx E:=(⟨tys,[3],[],[],[(294,(di_ (cW_ [(295,(eg_ E))])))],E,[.tmp 4]⟩:Cx)
def gZ_ E:=fF (gZ_.cx E) f289
def vx_(E)(h:eE E):an_ prog 289 (gZ_ E):=sO (dT_.cons ((if_ (cW_ [(295,(eg_ E))]) (gL_ (eZ (r1_ E h) func295 eN))).c ⟨_,func294,by kernel_rfl,by kernel_rfl⟩) eN) h func289
def dJ_.cx E:=(⟨tys,[1],[],[],[],E,[.tmp 2]⟩:Cx)
def dJ_ E:=fF (dJ_.cx E) f297
def kC_(E)(h:eE E):an_ prog 297 (dJ_ E):=sO eN h func297
def dY_.cx:Cx:=⟨tys,[],[],[],[(304,slices_AppendSeq__int_int)],av_,[.tmp 2]⟩
def dY_:=fF dY_.cx f301
theorem ni_:ar_ dY_.cx f301 (k+1) [.g (.fn n p)] H Q=aE slices_AppendSeq__int_int [nL none 0 1,.g (.fn n p)] H 1 λa b c=>dZ Q b c 1 a:=zz
def mZ_:an_ prog 301 (dY_):=sO (dT_.cons (ge_) eN) nO func301
def em_.cx:Cx:=⟨tys,[],[],[],[(301,dY_),(302,slices_Sort__int_int)],av_,[.tmp 2]⟩
def em_:=fF em_.cx f296
theorem om_:ar_ em_.cx f296 (k+1) [.g (.fn n p)] H Q=aE dY_ [.g (.fn n p)] H 1 λa b c=>cl slices_Sort__int_int [nL b c 1] a λ_ a=>dZ Q b c 1 a:=zz
def oq_:an_ prog 296 (em_):=sO (eZ mZ_ func301 (dT_.cons (hF_) eN)) nO func296
def au_.cx:Cx:=⟨tys,[],[(4,[0,3]),(9,[0,3,4,5])],[],[],av_,[.tmp 2]⟩
def au_:=fF au_.cx f298
def au_.l4 k a b c:=aS_ (au_.cx) f298 4 k (nL a b 1::.bad::.bad::gI c::B 57 [])
def au_.l9 k a b c d e f:=aS_ (au_.cx) f298 9 k (nL a b 1::.bad::.bad::gI c::nL d e 1::gI f::B 55 [])
theorem eV_:ar_ au_.cx f298 (k+1) [nL x n 1] H Q=aw (nI n) 2 (dZ Q x n 1 H) (au_.l4 k x n 1 H Q):=zz
theorem au_.l4_eq:au_.l4 (k+1) x n i H Q=bV i n (aM (leI 0 i&&ltI i (nI n)) x H (tN i*1) (λa=>aM (leI 0 (ae_ .i64 (i-1))&&ltI (ae_ .i64 (i-1)) (nI n)) x H (tN (ae_ .i64 (i-1))*1) λb=>bj a b (cz 0 i (chk (leN (tN i) n) (au_.l9 k x n i (shf x (tN i*1)) (n-tN i) 1 H Q))) (au_.l4 k x n (ae_ .i64 (i+1)) H Q))) (dZ Q x n 1 H):=zz
theorem au_.l9_eq:au_.l9 (k+1) x n i y m j H Q=bV j m (aM (leI 0 j&&ltI j (nI m)) y H (tN j*1) (λa=>aM (leI 0 (ae_ .i64 (j-1))&&ltI (ae_ .i64 (j-1)) (nI m)) y H (tN (ae_ .i64 (j-1))*1) λb=>d8 a b (aM (leI 0 j&&ltI j (nI m)) y H (tN j*1) (λa=>aB (leI 0 i&&ltI i (nI n)) x λb c=>wr H b (c+tN i*1) a λa=>au_.l9 k x n (ae_ .i64 (i+1)) y m (ae_ .i64 (j+1)) a Q)) (au_.l9 k x n i y m (ae_ .i64 (j+1)) H Q))) (cz 0 i (fq (leN (tN i) n) (clr H (shf x (tN i*1)) (n-tN i) [.int .i64 0] (λa=>cz 0 i (chk (leN 0 (tN i)&&(leN (tN i) n||kz_ a x (tN i*1))) (dZ Q (shf x 0) (tN i-0) 1 a)))))):=zz
def jS_:an_ prog 298 (au_):=sO eN nO func298
def gO_.cx E:=(⟨tys,[],[],[],[(297,(dJ_ E)),(296,em_),(298,au_)],E,[.tmp 2]⟩:Cx)
def gO_ E:=fF (gO_.cx E) f291
theorem xe_:ar_ (gO_.cx E) f291 (k+1) [nL x n 1] H Q=ac (dJ_ E) [nL x n 1] H λa b=>aE em_ [b] a 1 λa b c=>aE au_ [nL b c 1] a 1 λa _ b=>dk Q (nI b) (nI n) a:=zz
def xC_(E)(h:eE E):an_ prog 291 (gO_ E):=sO (eZ (kC_ E h) func297 (eZ oq_ func296 (eZ jS_ func298 eN))) h func291
def du_.cx:Cx:=⟨tys,[],[],[],[],av_,[.tmp 2]⟩
def du_:=fF du_.cx f202
theorem Bc_:ar_ du_.cx f202 (k+1) [s] H Q=bf 1 (sz s) (dO Q (sz s) 6 H) (aS Q H):=zz
def kN_:an_ prog 202 (du_):=sO eN nO func202
def ct_.cx:Cx:=⟨tys,[],[],[],[],av_,[.tmp 2]⟩
def ct_:=fF ct_.cx f203
theorem yA_:ar_ ct_.cx f203 (k+1) [s] H Q=dO Q (sz s) 10 H:=zz
def iL_:an_ prog 203 (ct_):=sO eN nO func203
def dV_.cx:Cx:=⟨tys,[],[],[],[],av_,[.tmp 2]⟩
def dV_:=fF dV_.cx f290
theorem B7_:ar_ dV_.cx f290 (k+1) [i] H Q=bf 1 i (cX Q (ltI i 48) H) (aS Q H):=zz
def oe_:an_ prog 290 (dV_):=sO eN nO func290
def hG_.cx:Cx:=⟨tys,[],[],[],[(287,cP_),(288,(et_ (cW_ [(202,du_),(203,ct_),(290,dV_)]))),(289,(gZ_ (cW_ [(202,du_),(203,ct_),(290,dV_)]))),(291,(gO_ (cW_ [(202,du_),(203,ct_),(290,dV_)])))],av_,[.tmp 2]⟩
def hG_:=fF hG_.cx f283
theorem AX_:ar_ hG_.cx f283 (k+1) [.agg [b,c,.sl x n 1,.sl y m 1,.sl z l 1]] H Q=bt b Q H (bK cP_ [nL x n 1] H Q (λa=>bK (et_ (cW_ [(202,du_),(203,ct_),(290,dV_)])) [nL x n 1,.g (.fn 202 [])] a Q λa=>cq_ c (ep (nI m) (nI n) Q a (ep (nI l) 0 Q a (bO (et_ (cW_ [(202,du_),(203,ct_),(290,dV_)])) [nL y m 1,.g (.fn 203 [])] a Q))) (bf 1 (nI n) (ep (nI m) 0 Q a (ep (nI l) (ae_ .i64 (nI n+1)) Q a (cM (gZ_ (cW_ [(202,du_),(203,ct_),(290,dV_)])) [nL z l 1,.g (.fn 290 [])] a Q (λa=>bO (gO_ (cW_ [(202,du_),(203,ct_),(290,dV_)])) [nL z l 1] a Q)))) (aS Q a)))):=zz
def rx_:an_ prog 283 (hG_):=sO (eZ w2_ func287 (dT_.cons ((qd_ (cW_ [(202,du_),(203,ct_),(290,dV_)]) (gL_ (eZ kN_ func202 (eZ iL_ func203 (eZ oe_ func290 eN))))).c ⟨_,func288,by kernel_rfl,by kernel_rfl⟩) (dT_.cons ((vx_ (cW_ [(202,du_),(203,ct_),(290,dV_)]) (gL_ (eZ kN_ func202 (eZ iL_ func203 (eZ oe_ func290 eN))))).c ⟨_,func289,by kernel_rfl,by kernel_rfl⟩) (dT_.cons ((xC_ (cW_ [(202,du_),(203,ct_),(290,dV_)]) (gL_ (eZ kN_ func202 (eZ iL_ func203 (eZ oe_ func290 eN))))).c ⟨_,func291,by kernel_rfl,by kernel_rfl⟩) eN)))) nO func283
def hf_.cx:Cx:=⟨tys,[],[],[],[(283,hG_)],av_,[.tmp 2]⟩
def hf_:=fF hf_.cx f268
def uf_:an_ prog 268 (hf_):=sO (eZ rx_ func283 eN) nO func268
def bh_.cx:Cx:=⟨tys,[],[(2,[2,7,8,9])],[],[],av_,[.tmp 4]⟩
def bh_:=fF bh_.cx f277
def bh_.l2 k a b c d e f g:=aS_ (bh_.cx) f277 2 k (.bad::.bad::.bx [.str a,.str b,.bool c]::B 4 (nL d e 1::gI f::gI g::B 19 []))
theorem n7_:ar_ bh_.cx f277 (k+1) [.agg [s,t,b],nL x n 1] H Q=bh_.l2 k s t b x n (nI n) 0 H Q:=zz
theorem bh_.l2_eq:bh_.l2 (k+1) s t b x n i j H Q=aw j i (aJ (leI 0 j&&ltI j (nI n)) x H (tN j*1) (λa=>cq_ (dQ_ a s) (aS Q H) (aC b (bt (dQ_ a t) Q H (bh_.l2 k s t b x n i (ae_ .i64 (j+1)) H Q)) (bh_.l2 k s t b x n i (ae_ .i64 (j+1)) H Q)))) (Q true H):=zz
def n4_:an_ prog 277 (bh_):=sO eN nO func277
def bE_.cx:Cx:=⟨tys,[],[],[(3,[0,1,2])],[],av_,[.tmp 6]⟩
def bE_:=fF bE_.cx f278
def bE_.l3 k a b c:=aS_ (bE_.cx) f278 3 k (gP a::gP b::gI c::B 31 [])
theorem qH_:ar_ bE_.cx f278 (k+1) [x,y,i] H Q=pS x λa b=>aq H a (b+2) λa=>aw a 0 (pS x (λa b=>wr H a (b+2) i λa=>bE_.l3 k x y i a Q)) (bE_.l3 k x y i H Q):=zz
theorem bE_.l3_eq:bE_.l3 (k+1) x y i H Q=pS x λa b=>aq H a (b+3) λa=>cJ y H 1 λ_ b=>pS x λc d=>wr H c (d+3) (ae_ .i64 (a+nI b)) λa=>pS x λb c=>aq a b (c+2) λb=>dk Q b i a:=zz
def qj_:an_ prog 278 (bE_):=sO eN nO func278
def bp_.cx:Cx:=⟨tys,[],[],[(3,[1,2,3,6])],[],av_,[.cell 6 307]⟩
def bp_:=fF bp_.cx f279
def bp_.l3 k a b c d e f g h i:=aS_ (bp_.cx) f279 3 k (.bad::nL a b 1::gI c::.bx [.str d,.str e,.bool f]::.bad::.bad::.bx [.str g,.str h,.bool i]::B 19 [])
theorem ne_:ar_ bp_.cx f279 (k+1) [.agg [s,t,b],nL x n 1,i] H Q=aw 0 i (aJ (leI 0 (ae_ .i64 (i-1))&&ltI (ae_ .i64 (i-1)) (nI n)) x H (tN (ae_ .i64 (i-1))*1) (λa=>bp_.l3 k x n i a t b (mkS []) (mkS []) false H Q)) (bp_.l3 k x n i s t b (mkS []) (mkS []) false H Q):=zz
theorem bp_.l3_eq:bp_.l3 (k+1) x n i s t b r S c H Q=bV i n (aJ (leI 0 i&&ltI i (nI n)) x H (tN i*1) (λa=>en Q [s,a,false] H)) (en Q [s,t,b] H):=zz
def nl_:an_ prog 279 (bp_):=sO eN nO func279
def aC_.cx S:=(⟨tys,[],[(8,[0,2,7,9,70,71,72])],[],[(268,hf_),(277,bh_),(278,bE_),(279,bp_),(259,S)],av_,[.tmp 8]⟩:Cx)
def aC_.st S:=fF (aC_.cx S) f259
def aC_.l8 S k a b c d e f g h i j l:=aS_ (aC_.cx S) f259 8 k (gP a::.bad::gI b::B 4 (.bx [.str c,.str d,.bool e]::.bad::.g (.ptr (some (f,g)))::B 60 (nL h i 1::gI j::gI l::B 18 [])))
theorem pq_:ar_ (aC_.cx F) f259 (k+1) [x,i,j,.agg [s,t,b]] H Q=cH x H 5 0 i i λa c=>dl x H 1 0 i i λd e=>dj H d (e+tN i*1) (aS Q H) (aD H a (c+tN i*5) (λd=>aD H a (c+tN i*5+1) λe=>bg H a (c+tN i*5+1+1) 1 H a (c+tN i*5+1+1+1) 1 λf g h l=>eu H a (c+tN i*5+1+1+1+1) λm n=>bK hf_ [.agg [d,e,.sl f g 1,.sl h l 1,.sl m n 1]] H Q λd=>aw 0 i (eu d a (c+tN i*5+2) (λ_ e=>dA (nI e) 2 Q d (eu d a (c+tN i*5+2) (λe f=>bK bh_ [.agg [s,t,b],nL e f 1] d Q λd=>dl x d 1 0 i i λe f=>wr d e (f+tN i*1) true λd=>dj d a (c+tN i*5+1) (bO bE_ [x,.g (.ptr (some (a,c+tN i*5))),j] d Q) (eu d a (c+tN i*5+4) (λe f=>aC_.l8 F k x j s t b a (c+tN i*5) e f (nI f) 0 d Q)))))) (eu d a (c+tN i*5+2) (λe f=>bK bh_ [.agg [s,t,b],nL e f 1] d Q λd=>dl x d 1 0 i i λe f=>wr d e (f+tN i*1) true λd=>dj d a (c+tN i*5+1) (bO bE_ [x,.g (.ptr (some (a,c+tN i*5))),j] d Q) (eu d a (c+tN i*5+4) (λe f=>aC_.l8 F k x j s t b a (c+tN i*5) e f (nI f) 0 d Q)))))):=zz
theorem aC_.l8_eq:aC_.l8 F (k+1) x i s t b n m y l j h H Q=aw h j (aM (leI 0 h&&ltI h (nI l)) y H (tN h*1) (λa=>eu H n (m+2) λc d=>bh bp_ [.agg [s,t,b],nL c d 1,h] H λc d=>aT d λd e=>aT d λd f=>aR d λd g=>uN d (bK F [x,a,ae_ .i64 (i+1),.agg [e,f,g]] c Q (λa=>aC_.l8 F k x i s t b n m y l j (ae_ .i64 (h+1)) a Q)))) (Q true H):=zz
def aC_.st_ok(S:Sm)(hS:de_ prog 259 S):an_ prog 259 (aC_.st S):=l7_.sound (cx:=aC_.cx S) rfl (eZ uf_ func268 (eZ n4_ func277 (eZ qj_ func278 (eZ nl_ func279 (dT_.cons hS eN))))) nO func259 rfl
def aC_.at:Nat->Sm
 |0=>λ_ _ _=>False
 |n+1=>aC_.st (aC_.at n)
def aC_:Sm:=λxs H Q=>∃n,aC_.at n xs H Q
def aC_.at_ok:∀n,an_ prog 259 (aC_.at n)
 |0=>λ_ _ _ h=>h.elim
 |n+1=>aC_.st_ok _ ((aC_.at_ok n).c ⟨_,func259,by kernel_rfl,by kernel_rfl⟩)
def pp_:an_ prog 259 (aC_):=an_.ex (aC_.at_ok)
def f7_.cx:Cx:=⟨tys,[],[],[],[],av_,[.tmp 2]⟩
def f7_:=fF f7_.cx f280
theorem vf_:ar_ f7_.cx f280 (k+1) [.agg [b,c,.sl x n 1,.sl y m 1,.sl z l 1]] H Q=aC b (aC c (dk Q (ae_ .i64 (ae_ .i64 (nI n+nI m)+nI l)) 0 H) (aS Q H)) (aS Q H):=zz
def u5_:an_ prog 280 (f7_):=sO eN nO func280
def bF_.cx:Cx:=⟨tys,[],[(2,[0,8,9,10])],[],[(280,f7_)],av_,[.tmp 2]⟩
def bF_:=fF bF_.cx f260
def bF_.l2 k a b c d e:=aS_ (bF_.cx) f260 2 k (gP a::B 7 (nL b c 5::gI d::gI e::B 18 []))
theorem qk_:ar_ bF_.cx f260 (k+1) [x] H Q=bw x H 5 λa b=>bF_.l2 k x a b (nI b) 0 H Q:=zz
theorem bF_.l2_eq:bF_.l2 (k+1) x y n i j H Q=aw j i (dK (leI 0 j&&ltI j (nI n)) y H (tN j*5) H H 1 H 1 H 1 (λa b c d e f g h=>dl x H 1 0 j j λl m=>aD H l (m+tN j*1) λl=>aC l (bK f7_ [.agg [a,b,.sl c d 1,.sl e f 1,.sl g h 1]] H Q (λa=>bF_.l2 k x y n i (ae_ .i64 (j+1)) a Q)) (bF_.l2 k x y n i (ae_ .i64 (j+1)) H Q))) (Q true H):=zz
def qz_:an_ prog 260 (bF_):=sO (eZ u5_ func280 eN) nO func260
def hs_.cx:Cx:=⟨tys,[14,16],[],[],[(259,aC_),(260,bF_)],av_,[.tmp 2]⟩
def hs_:=fF hs_.cx f233
theorem yz_:ar_ hs_.cx f233 (k+1) [x] H Q=bw x H 5 λ_ a=>d8 (nI a) 48 (Q (nN 0) H) (pS x (λa b=>bg H a (b+0) 5 (pu H (.row true 4 (lo_ (tN 48) [.bool false]))) a (b+0) 5 λa b c d=>eqv (nL a b 5) (nL c d 5) (aj aC_ [.g (.ptr (some (ln (pu H (.row true 4 (lo_ (tN 48) [.bool false]))),0))),nN 0,nN 1,.agg [mkS [],mkS [],true]] (pu (pu H (.row true 4 (lo_ (tN 48) [.bool false]))) (.row true 304 [.sl a b 5,.sl (some (ln H,0)) (tN 48) 1,.int .i64 (-1),nN 0])) (λa b=>aC b (Q (nN 0) a) (aj bF_ [.g (.ptr (some (ln (pu H (.row true 4 (lo_ (tN 48) [.bool false]))),0)))] a (λa b=>aC b (Q (nN 0) a) (aq a (ln (pu H (.row true 4 (lo_ (tN 48) [.bool false])))) 3 (λb=>aw 60 b (Q (nN 0) a) (aq a (ln (pu H (.row true 4 (lo_ (tN 48) [.bool false])))) 2 (λb=>Q b a)))))))))):=zz
def yc_:an_ prog 233 (hs_):=sO (eZ pp_ func259 (eZ qz_ func260 eN)) nO func233
def eh_.cx:Cx:=⟨tys,[1],[],[],[(233,hs_)],av_,[.tmp 2]⟩
def eh_:=fF eh_.cx f201
theorem wo_:ar_ eh_.cx f201 (k+1) [.agg [.sl x n 5]] H Q=aG hs_ [.g (.ptr (some (ln H,0)))] (pu H (.row true 24 [.sl x n 5])) λa b=>cX Q (ltI 0 b) a:=zz
def ku_:an_ prog 201 (eh_):=sO (eZ yc_ func233 eN) nO func201
def bi_.cx(E:Nat->Sm)(S:Sm):Cx:=⟨tys,[],[(2,[0,2,6,20,21,22]),(7,[2,6,34,35,36])],[],[(214,S)],E,[]⟩
def bi_.st(E:Nat->Sm)(S:Sm):Sm:=λxs H Q=>∃k,ar_ (bi_.cx E S) f214 k xs H Q
def bi_.l2(E:Nat->Sm)(S:Sm)(k:Nat)(xx0:Pl)(nx1:Nat)(cx2:List (Nat × Nat))(nx3:Nat)(nx4:Nat)(xx5:Pl)(nx6:Nat)(ix7:Int)(ix8:Int)(H:Hp)(Q:Post):Prop:=aS_ (bi_.cx E S) f214 2 k ((.g (.ptr xx0)):: .bad::(.g (.fn nx1 cx2))::B 3 ((.g (.ptr (some (nx3,nx4))))::B 13 ((.g (.sl xx5 nx6 1))::(.g (.int .i64 ix7))::(.g (.int .i64 ix8))::B 30 ([])))) H Q
def bi_.l7(E:Nat->Sm)(S:Sm)(k:Nat)(nx0:Nat)(cx1:List (Nat × Nat))(nx2:Nat)(nx3:Nat)(xx4:Pl)(nx5:Nat)(ix6:Int)(ix7:Int)(H:Hp)(Q:Post):Prop:=aS_ (bi_.cx E S) f214 7 k (.bad:: .bad::(.g (.fn nx0 cx1))::B 3 ((.g (.ptr (some (nx2,nx3))))::B 27 ((.g (.sl xx4 nx5 1))::(.g (.int .i64 ix6))::(.g (.int .i64 ix7))::B 16 ([])))) H Q
theorem z6_:ar_ (bi_.cx E F) f214 (k+1) [x,i,.g (.fn n p)] H Q=cH x H 5 0 i i λa b=>eu H a (b+tN i*5+4) λc d=>bi_.l2 E F k x n p a (b+tN i*5) c d (nI d) 0 H Q:=zz
theorem bi_.l2_eq:bi_.l2 E F (k+1) x n p m l y o i j H Q=aw j i (aM (leI 0 j&&ltI j (nI o)) y H (tN j*1) (λa=>cl F [x,a,.g (.fn n p)] H λ_ a=>bi_.l2 E F k x n p m l y o i (ae_ .i64 (j+1)) a Q)) (eu H m (l+3) (λa b=>bi_.l7 E F k n p m l a b (nI b) 0 H Q)):=zz
theorem bi_.l7_eq:bi_.l7 E F (k+1) n p m l x o i j H Q=aw j i (aJ (leI 0 j&&ltI j (nI o)) x H (tN j*1) (λa=>cT H m (l+2) 1 0 j j λb c=>ah H b (c+tN j*1) λb=>cl (E n) (cpl [.agg [.str b,.str a]] p) H λ_ a=>bi_.l7 E F k n p m l x o i (ae_ .i64 (j+1)) a Q)) (ax Q [] H):=zz
def bi_.st_ok(E:Nat->Sm)(hE:∀f,de_ prog f (E f))(S:Sm)(hS:de_ prog 214 S):an_ prog 214 (bi_.st E S):=l7_.sound (cx:=bi_.cx E S) rfl (dT_.cons hS eN) hE func214 rfl
def bi_.at(E:Nat->Sm):Nat->Sm
 |0=>λ_ _ _=>False
 |n+1=>bi_.st E (bi_.at E n)
def bi_(E:Nat->Sm):Sm:=λxs H Q=>∃n,bi_.at E n xs H Q
def bi_.at_ok(E:Nat->Sm)(hE:∀f,de_ prog f (E f)):∀n,an_ prog 214 (bi_.at E n)
 |0=>λ_ _ _ h=>h.elim
 |n+1=>bi_.st_ok E hE _ ((bi_.at_ok E hE n).c ⟨_,func214,by kernel_rfl,by kernel_rfl⟩)
def At_(E:Nat->Sm)(hE:∀f,de_ prog f (E f)):an_ prog 214 (bi_ E):=an_.ex (bi_.at_ok E hE)
def eD_.cx:Cx:=⟨tys,[],[],[],[],av_,[]⟩
def eD_:=fF eD_.cx f215
theorem vb_:ar_ eD_.cx f215 (k+1) [.agg [s,t],.g (.ptr (some (n,m))),.g (.ptr (some (l,o))),.g (.ptr (some (N,M)))] H Q=ah H n m λa=>aC (dQ_ s a) (ah H l o (λa=>dW a (mkS []) (aa H N M 2 (λa b=>dN H 131 2 32 a b [s,t] λa b c=>fd c N M a b 2 Q [])) (ah H l o (λa=>cq_ (dQ_ s a) (aa H N M 2 (λa b=>dN H 131 2 32 a b [s,t] λa b c=>fd c N M a b 2 Q [])) (ax Q [] H))))) (ax Q [] H):=zz
def vd_:an_ prog 215 (eD_):=sO eN nO func215
def hy_.cx:Cx:=⟨tys,[3,4,5,8],[],[],[(201,eh_),(214,(bi_ (cW_ [(215,eD_)])))],av_,[.tmp 6,.tmp 7]⟩
def hy_:=fF hy_.cx f170
theorem yu_:ar_ hy_.cx f170 (k+1) [.agg [.sl x n 5],s,t] H Q=aa (pu (pu (pu H (.row true 24 [.sl x n 5])) (.row true 9 [s])) (.row true 9 [t])) (ln H) 0 5 λa b=>aL eh_ [.agg [.sl a b 5]] (pu (pu (pu H (.row true 24 [.sl x n 5])) (.row true 9 [s])) (.row true 9 [t])) Q [.s (.sl none 0 2),nN 1400] λa=>cl (bi_ (cW_ [(215,eD_)])) [.g (.ptr (some (ln H,0))),nN 0,.g (.fn 215 [(ln (pu H (.row true 24 [.sl x n 5])),0),(ln (pu (pu H (.row true 24 [.sl x n 5])) (.row true 9 [.str s])),0),(ln a,0)])] (pu a (.row true 95 [.sl none 0 2])) λ_ b=>aa b (ln a) 0 2 λa c=>ax Q [.s (.sl a c 2),nN 0] b:=zz
def yF_:an_ prog 170 (hy_):=sO (eZ ku_ func201 (dT_.cons ((At_ (cW_ [(215,eD_)]) (gL_ (eZ vd_ func215 eN))).c ⟨_,func214,by kernel_rfl,by kernel_rfl⟩) eN)) nO func170
def hP_.cx:Cx:=⟨tys,[],[],[],[(170,hy_)],av_,[.tmp 2,.tmp 3]⟩
def hP_:=fF hP_.cx f130
theorem Cu_:ar_ hP_.cx f130 (k+1) [.agg [.sl x n 5]] H Q=du hy_ [.agg [.sl x n 5],mkS [],mkS []] H 2 λa b c d=>ax Q [.s (.sl b c 2),d] a:=zz
def uA_:an_ prog 130 (hP_):=sO (eZ yF_ func170 eN) nO func130
def kq_.cx:Cx:=⟨tys,[],[],[],[],av_,[.tmp 6]⟩
def kq_:=fF kq_.cx f216
theorem Fs_:ar_ kq_.cx f216 (k+1) [s,.g (.int .u8 i),j] H Q=bf j (sz s) (chk (leI 0 0&&ltI 0 (sz s)) (dk Q (byt s (tN 0)) i H)) (aS Q H):=zz
def sB_:an_ prog 216 (kq_):=sO eN nO func216
def dv_.cx:Cx:=⟨tys,[],[(2,[0,1,8,9])],[],[],av_,[.tmp 4]⟩
def dv_:=fF dv_.cx f105
def dv_.l2 k a b c d:=aS_ (dv_.cx) f105 2 k (gS a::gI b::B 6 (gI c::gI d::B 28 []))
theorem B0_:ar_ dv_.cx f105 (k+1) [s,i] H Q=dv_.l2 k s i (sz s) 0 H Q:=zz
theorem dv_.l2_eq:dv_.l2 (k+1) s i j h H Q=aw h j (chk (leI 0 h&&ltI h (sz s)) (aw (byt s (tN h)) 97 (dA (byt s (tN h)) 48 Q H (dA 57 (byt s (tN h)) Q H (dv_.l2 k s i j (ae_ .i64 (h+1)) H Q))) (aw 122 (byt s (tN h)) (dA (byt s (tN h)) 48 Q H (dA 57 (byt s (tN h)) Q H (dv_.l2 k s i j (ae_ .i64 (h+1)) H Q))) (dv_.l2 k s i j (ae_ .i64 (h+1)) H Q)))) (eM s [] (dO Q (sz s) i H) (aS Q H)):=zz
def ur_:an_ prog 105 (dv_):=sO eN nO func105
def c4_.cx:Cx:=⟨tys,[],[],[],[(105,dv_)],av_,[.tmp 2]⟩
def c4_:=fF c4_.cx f103
theorem x8_:ar_ c4_.cx f103 (k+1) [s] H Q=bO dv_ [s,nN 4] H Q:=zz
def gh_:an_ prog 103 (c4_):=sO (eZ ur_ func105 eN) nO func103
def kh_.cx:Cx:=⟨tys,[],[],[],[(216,kq_),(103,c4_)],av_,[.tmp 2,.tmp 3]⟩
def kh_:=fF kh_.cx f171
theorem C2_:ar_ kh_.cx f171 (k+1) [s] H Q=aL kq_ [s,.g (.int .u8 115),nN 1] H Q [mkS [],false] λa=>chk (leN (tN 1) (szN s)&&leN (szN s) (szN s)) (aL c4_ [sub s (tN 1) (szN s)] a Q [mkS [],false] (λa=>chk (leN (tN 1) (szN s)&&leN (szN s) (szN s)) (ax Q [sub s (tN 1) (szN s),true] a))):=zz
def Bl_:an_ prog 171 (kh_):=sO (eZ sB_ func216 (eZ gh_ func103 eN)) nO func171
def gy_.cx:Cx:=⟨tys,[],[],[],[],av_,[.tmp 2]⟩
def gy_:=fF gy_.cx f218
theorem FQ_:ar_ gy_.cx f218 (k+1) [i] H Q=bf 1 i (dO Q i 255 H) (aS Q H):=zz
def jN_:an_ prog 218 (gy_):=sO eN nO func218
def g1_.cx:Cx:=⟨tys,[],[],[],[],av_,[.tmp 2]⟩
def g1_:=fF g1_.cx f178
theorem AA_:ar_ g1_.cx f178 (k+1) [i] H Q=bf 0 i (dO Q i 2 H) (aS Q H):=zz
def rt_:an_ prog 178 (g1_):=sO eN nO func178
def fZ_.cx:Cx:=⟨tys,[],[],[],[],av_,[.tmp 2]⟩
def fZ_:=fF fZ_.cx f146
def pQ_:an_ prog 146 (fZ_):=sO eN nO func146
def hU_.cx:Cx:=⟨tys,[],[],[],[(218,gy_),(178,g1_),(103,c4_),(146,fZ_)],av_,[.tmp 2]⟩
def hU_:=fF hU_.cx f217
theorem CM_:ar_ hU_.cx f217 (k+1) [.agg [i,j,s,t]] H Q=cM gy_ [i] H Q λa=>cM g1_ [j] a Q λa=>dW s (mkS []) (bO fZ_ [t] a Q) (cM c4_ [s] a Q (λa=>bO fZ_ [t] a Q)):=zz
def uu_:an_ prog 217 (hU_):=sO (eZ jN_ func218 (eZ rt_ func178 (eZ gh_ func103 (eZ pQ_ func146 eN)))) nO func217
def kf_.cx:Cx:=⟨tys,[],[],[],[(217,hU_)],av_,[.cell 2 81,.tmp 3]⟩
def kf_:=fF kf_.cx f172
theorem C0_:ar_ kf_.cx f172 (k+1) [s] H Q=dV (sz s) 3 Q [.a [nN 0,nN 0,mkS [],mkS []],nN 1700] H (chk (leI 0 2&&ltI 2 (sz s)) (dV (ae_ .i64 (sz s-3)) (ae_ .i64 (byt s (tN 2))) Q [.a [nN 0,nN 0,mkS [],mkS []],nN 1700] H (ae (leI 0 2&&ltI 2 (sz s)) (leI 0 0&&ltI 0 (sz s)) (ae (leI 0 1&&ltI 1 (sz s)) (leI 0 (ae_ .i64 (3+ae_ .i64 (byt s (tN 2))))) (ae (leN (tN 3) (tN (ae_ .i64 (3+ae_ .i64 (byt s (tN 2)))))&&leN (tN (ae_ .i64 (3+ae_ .i64 (byt s (tN 2))))) (szN s)) (leI 0 (ae_ .i64 (3+ae_ .i64 (byt s (tN 2))))) (chk (leN (tN (ae_ .i64 (3+ae_ .i64 (byt s (tN 2))))) (szN s)&&leN (szN s) (szN s)) (aL hU_ [.agg [ae_ .i64 (byt s (tN 0)),ae_ .i64 (byt s (tN 1)),sub s (tN 3) (tN (ae_ .i64 (3+ae_ .i64 (byt s (tN 2))))),sub s (tN (ae_ .i64 (3+ae_ .i64 (byt s (tN 2))))) (szN s)]] H Q [.a [nN 0,nN 0,mkS [],mkS []],nN 1700] (λa=>ax Q [.a [ae_ .i64 (byt s (tN 0)),ae_ .i64 (byt s (tN 1)),sub s (tN 3) (tN (ae_ .i64 (3+ae_ .i64 (byt s (tN 2))))),sub s (tN (ae_ .i64 (3+ae_ .i64 (byt s (tN 2))))) (szN s)],nN 0] a)))))))):=zz
def C5_:an_ prog 172 (kf_):=sO (eZ uu_ func217 eN) nO func172
def dr_.cx:Cx:=⟨tys,[],[],[],[(105,dv_)],av_,[.tmp 2]⟩
def dr_:=fF dr_.cx f49
theorem x7_:ar_ dr_.cx f49 (k+1) [s] H Q=bO dv_ [s,nN 3] H Q:=zz
def hk_:an_ prog 49 (dr_):=sO (eZ ur_ func105 eN) nO func49
def kp_.cx:Cx:=⟨tys,[],[],[],[(216,kq_),(218,gy_),(49,dr_)],av_,[.tmp 2,.tmp 3,.tmp 4]⟩
def kp_:=fF kp_.cx f173
theorem CV_:ar_ kp_.cx f173 (k+1) [s] H Q=aL kq_ [s,.g (.int .u8 102),nN 2] H Q [nN 0,mkS [],false] λa=>chk (leI 0 1&&ltI 1 (sz s)) (aL gy_ [ae_ .i64 (byt s (tN 1))] a Q [nN 0,mkS [],false] (λa=>chk (leN (tN 2) (szN s)&&leN (szN s) (szN s)) (aL dr_ [sub s (tN 2) (szN s)] a Q [nN 0,mkS [],false] (λa=>ae (leI 0 1&&ltI 1 (sz s)) (leN (tN 2) (szN s)&&leN (szN s) (szN s)) (ax Q [ae_ .i64 (byt s (tN 1)),sub s (tN 2) (szN s),true] a))))):=zz
def B3_:an_ prog 173 (kp_):=sO (eZ sB_ func216 (eZ jN_ func218 (eZ hk_ func49 eN))) nO func173
def hA_.cx:Cx:=⟨tys,[],[],[],[(216,kq_),(218,gy_)],av_,[.tmp 2,.tmp 3]⟩
def hA_:=fF hA_.cx f174
theorem yR_:ar_ hA_.cx f174 (k+1) [s] H Q=aL kq_ [s,.g (.int .u8 105),nN 2] H Q [nN 0,false] λa=>cE (sz s) 2 Q [nN 0,false] a (chk (leI 0 1&&ltI 1 (sz s)) (aL gy_ [ae_ .i64 (byt s (tN 1))] a Q [nN 0,false] (λa=>chk (leI 0 1&&ltI 1 (sz s)) (ax Q [ae_ .i64 (byt s (tN 1)),true] a)))):=zz
def yJ_:an_ prog 174 (hA_):=sO (eZ sB_ func216 (eZ jN_ func218 eN)) nO func174
def dF_.cx:Cx:=⟨tys,[],[],[],[],av_,[.tmp 2]⟩
def dF_:=fF dF_.cx f111
def im_:an_ prog 111 (dF_):=sO eN nO func111
def gV_.cx:Cx:=⟨tys,[],[],[],[(218,gy_),(111,dF_)],av_,[.tmp 2]⟩
def gV_:=fF gV_.cx f219
theorem A1_:ar_ gV_.cx f219 (k+1) [.agg [i,s]] H Q=cM gy_ [i] H Q λa=>bO dF_ [s] a Q:=zz
def rs_:an_ prog 219 (gV_):=sO (eZ jN_ func218 (eZ im_ func111 eN)) nO func219
def ip_.cx:Cx:=⟨tys,[],[],[],[(219,gV_)],av_,[.cell 2 63,.tmp 3]⟩
def ip_:=fF ip_.cx f175
theorem zV_:ar_ ip_.cx f175 (k+1) [s] H Q=dW s (mkS []) (ax Q [.a [nN 0,mkS []],nN 1800] H) (ae (leI 0 0&&ltI 0 (sz s)) (leN (tN 1) (szN s)&&leN (szN s) (szN s)) (aL gV_ [.agg [ae_ .i64 (byt s (tN 0)),sub s (tN 1) (szN s)]] H Q [.a [nN 0,mkS []],nN 1800] (λa=>ax Q [.a [ae_ .i64 (byt s (tN 0)),sub s (tN 1) (szN s)],nN 0] a))):=zz
def z2_:an_ prog 175 (ip_):=sO (eZ rs_ func219 eN) nO func175
def dN_.cx:Cx:=⟨tys,[],[],[],[(171,kh_),(172,kf_),(173,kp_),(174,hA_),(175,ip_)],av_,[.tmp 4]⟩
def dN_:=fF dN_.cx f131
theorem ov_:ar_ dN_.cx f131 (k+1) [x,.agg [s,t]] H Q=bJ kh_ [s] H λa b c=>bB b λb=>cq_ b (bk kf_ [t] a (λa b d=>aO d λd e=>aO d λd f=>aT d λd g=>cV d λd=>aZ b λb=>bY x a λh=>dY a h [.str] c (.a [e,f,g,d]) λa=>dk Q b 0 a)) (bz kp_ [s] a (λa b c=>af b λb d=>dS d λd=>bB b λb=>cq_ b (cU (sz t) 2 Q a (chk (leI 0 1&&ltI 1 (sz t)) (dA 1 (byt t (tN 1)) Q a (bX x a (λb=>ae (leI 0 0&&ltI 0 (sz t)) (leI 0 1&&ltI 1 (sz t)) (yg_ a b true [.int .i64,.str] (.a [c,d]) (.a [ae_ .i64 (byt t (tN 0)),.bool (eqI (byt t (tN 1)) 1)]) (λa=>Q true a))))))) (cw hA_ [s] a (λa b c=>bk ip_ [t] a λa d e=>aO e λe f=>cV e λe=>aZ d λd=>bv x a λg=>dY a g [.int .i64] b (.a [f,e]) λa=>cK c Q a (dk Q d 0 a))))):=zz
def nq_:an_ prog 131 (dN_):=sO (eZ Bl_ func171 (eZ C5_ func172 (eZ B3_ func173 (eZ yJ_ func174 (eZ z2_ func175 eN))))) nO func131
def aF_.cx:Cx:=⟨tys,[],[(3,[0,3,13]),(7,[0,3,27]),(1000016,[136]),(1000030,[137])],[],[],av_,[.tmp 2]⟩
def aF_:=fF aF_.cx f132
def aF_.l3 k a b c d:=aS_ (aF_.cx) f132 3 k (gP a::.bad::.bad::gM b::B 9 (.g (.ptr (some (c,d)))::B 33 []))
def aF_.l7 k a b c d:=aS_ (aF_.cx) f132 7 k (gP a::.bad::.bad::gM b::B 23 (.g (.ptr (some (c,d)))::B 19 []))
theorem l0_:ar_ aF_.cx f132 (k+1) [x] H Q=bX x (pu H (.map [] 0)) λa=>rng (pu H (.map [] 0)) a λa=>aF_.l3 k x (some (ln H)) (ln (pu H (.map [] 0))) 0 a Q:=zz
theorem aF_.l3_eq:aF_.l3 (k+1) x a n m H Q=cI H n m n m (λb=>bv x b λc=>rng b c λc=>aF_.l7 k x a (ln b) 0 c Q) λb c d=>bm c λc _=>cY c (bm d (λc d=>eO c (da b a [.int .i64] d (nN 0) (λc _=>rS c λc=>ai c λc=>dY b a [.int .i64] d (ae_ .i64 (c+1)) λb=>aF_.l3 k x a n m b Q)))):=zz
theorem aF_.l7_eq:aF_.l7 (k+1) x a n m H Q=cI H n m n m (λb=>pj_ b a λa=>bv x b λc=>pj_ b c λc=>dk Q (nI a) (nI c) b) λb c d=>rS c λc=>ai c λc=>bm d λd e=>cY d (da b a [.int .i64] c (nN 0) (λc _=>rS c λc=>ai c λc=>cU c e Q b (aF_.l7 k x a n m b Q))):=zz
def mb_:an_ prog 132 (aF_):=sO eN nO func132
def bo_.cx:Cx:=⟨tys,[],[(3,[0,3,11]),(1000014,[135])],[],[],av_,[.tmp 2]⟩
def bo_:=fF bo_.cx f133
def bo_.l3 k a b c d:=aS_ (bo_.cx) f133 3 k (gP a::.bad::.bad::gM b::B 7 (.g (.ptr (some (c,d)))::B 15 []))
theorem nj_:ar_ bo_.cx f133 (k+1) [x] H Q=bY x (pu H (.map [] 0)) λa=>rng (pu H (.map [] 0)) a λa=>bo_.l3 k x (some (ln H)) (ln (pu H (.map [] 0))) 0 a Q:=zz
theorem bo_.l3_eq:bo_.l3 (k+1) x a n m H Q=cI H n m n m (λb=>pj_ b a λa=>bY x b λc=>pj_ b c λc=>dk Q (nI a) (nI c) b) λb c d=>dm c λ_=>bm d λc d=>eQ c λc _=>cY c (dY b a [.int .i64] d true (λb=>bo_.l3 k x a n m b Q)):=zz
def m6_:an_ prog 133 (bo_):=sO eN nO func133
def aX_.cx E:=(⟨tys,[1],[],[],[],E,[.tmp 2]⟩:Cx)
def aX_ E:=fF (aX_.cx E) f176
theorem fi_:ar_ (aX_.cx E) f176 (k+1) [.g (.map a)] H Q=cW Q (.fn 220 [(ln H,0)]) (pu H (.row true 135 [.map a])):=zz
def fj_(E)(h:eE E):an_ prog 176 (aX_ E):=sO eN h func176
def al_.cx E:=(⟨tys,[],[(3,[0,1,2,8,9,10])],[],[],E,[.tmp 6,.tmp 7]⟩:Cx)
def al_ E:=fF (al_.cx E) f106
def al_.l3 E k a b c d e f g h:=aS_ (al_.cx E) f106 3 k (nL a b 3::gS c::.g (.fn d e)::B 5 (gI f::gI g::gI h::B 38 []))
theorem eG_:ar_ (al_.cx E) f106 (k+1) [nL x n 3,s,.g (.fn m p)] H Q=al_.l3 E k x n s m p (nI n) 0 (nI n) H Q:=zz
theorem al_.l3_eq:al_.l3 E (k+1) x n s m p i j h H Q=aw j h (dt (leI 0 (ae_ .i64 (ra_ .u64 (ae_ .u64 (ae_ .i64 (j+h))) 1))&&ltI (ae_ .i64 (ra_ .u64 (ae_ .u64 (ae_ .i64 (j+h))) 1)) (nI n)) x H (tN (ae_ .i64 (ra_ .u64 (ae_ .u64 (ae_ .i64 (j+h))) 1))*3) H H (λa b c=>aG (E m) (cpl [.agg [.str a,.str b,.bool c],.g (.str s)] p) H λa b=>aw b 0 (al_.l3 E k x n s m p i (ae_ .i64 (ae_ .i64 (ra_ .u64 (ae_ .u64 (ae_ .i64 (j+h))) 1)+1)) h a Q) (al_.l3 E k x n s m p i j (ae_ .i64 (ra_ .u64 (ae_ .u64 (ae_ .i64 (j+h))) 1)) a Q))) (aw j i (dt (leI 0 j&&ltI j (nI n)) x H (tN j*3) H H (λa b c=>aG (E m) (cpl [.agg [.str a,.str b,.bool c],.g (.str s)] p) H λa b=>ax Q [j,.s (.bool (eqI b 0))] a)) (ax Q [j,false] H)):=zz
def eA_(E)(h:eE E):an_ prog 106 (al_ E):=sO eN h func106
def dc_.cx:Cx:=⟨tys,[],[],[],[(187,bytealg_abigenruntimecmpstring)],av_,[.tmp 4]⟩
def dc_:=fF dc_.cx f155
theorem lc_:ar_ dc_.cx f155 (k+1) [s,t] H Q=aG bytealg_abigenruntimecmpstring [s,t] H λa b=>Q b a:=zz
def lb_:an_ prog 155 (dc_):=sO (dT_.cons (fa_) eN) nO func155
def dk_.cx:Cx:=⟨tys,[],[],[],[(155,dc_)],av_,[.tmp 4]⟩
def dk_:=fF dk_.cx f108
theorem qO_:ar_ dk_.cx f108 (k+1) [s,t] H Q=aG dc_ [s,t] H λa b=>Q b a:=zz
def jU_:an_ prog 108 (dk_):=sO (eZ lb_ func155 eN) nO func108
def dj_.cx:Cx:=⟨tys,[],[],[],[(108,dk_)],av_,[.tmp 4]⟩
def dj_:=fF dj_.cx f107
theorem qE_:ar_ dj_.cx f107 (k+1) [.agg [s,t,b],r] H Q=aG dk_ [s,r] H λa b=>Q b a:=zz
def qu_:an_ prog 107 (dj_):=sO (eZ jU_ func108 eN) nO func107
def cM_.cx:Cx:=⟨tys,[],[],[],[(106,(al_ (cW_ [(107,dj_)])))],av_,[.tmp 4,.tmp 5]⟩
def cM_:=fF cM_.cx f50
theorem tE_:ar_ cM_.cx f50 (k+1) [nL x n 3,s] H Q=cw (al_ (cW_ [(107,dj_)])) [nL x n 3,s,.g (.fn 107 [])] H λa b c=>ax Q [b,c] a:=zz
def gY_:an_ prog 50 (cM_):=sO (dT_.cons ((eA_ (cW_ [(107,dj_)]) (gL_ (eZ qu_ func107 eN))).c ⟨_,func106,by kernel_rfl,by kernel_rfl⟩) eN) nO func50
def bj_.cx:Cx:=⟨tys,[],[(3,[0,1,5,14]),(1000017,[136]),(2000000,[5])],[],[(50,cM_),(112,slices_Insert__api_File_api_File)],av_,[.tmp 4]⟩
def bj_:=fF bj_.cx f177
def bj_.l3 k a b c d e f:=aS_ (bj_.cx) f177 3 k (gP a::gI b::B 3 (nL c d 3::B 8 (.g (.ptr (some (e,f)))::B 34 [])))
theorem np_:ar_ bj_.cx f177 (k+1) [x,i] H Q=bX x H λa=>rng H a λa=>bj_.l3 k x i none 0 (ln H) 0 a Q:=zz
theorem bj_.l3_eq:bj_.l3 (k+1) x i y n m l H Q=cI H m l m l (λa=>dZ Q y n 3 a) λa b c=>bm b λb d=>cV b λb=>bm c λc e=>aR c λc f=>uN c (bj d i (bz cM_ [nL y n 3,b] a (λa c d=>aW c λc _=>uE c (bv x a (λc=>ew a c [.int .i64] e (.a [nN 0,mkS []]) λc _=>cV c λc=>aE slices_Insert__api_File_api_File [nL y n 3,d,nL (some (ln a,0)) 1 3] (pu a (.row false 1000003 [b,c,f])) 3 λa b c=>bj_.l3 k x i b c m l a Q)))) (bj_.l3 k x i y n m l a Q)):=zz
def nP_:an_ prog 177 (bj_):=sO (eZ gY_ func50 (dT_.cons (eK_) eN)) nO func177
def bx_.cx E:=(⟨tys,[],[(3,[0,3,12,13,14]),(2000000,[3])],[],[(176,(aX_ E)),(161,slices_Sorted_string),(177,bj_)],E,[.tmp 2]⟩:Cx)
def bx_ E:=fF (bx_.cx E) f134
def bx_.l3 E k a b c d e f g:=aS_ (bx_.cx E) f134 3 k (gP a::.bad::.bad::nL b c 5::B 8 (nL d e 1::gI f::gI g::B 26 []))
theorem nz_:ar_ (bx_.cx E) f134 (k+1) [x] H Q=bY x H λa=>ac (aX_ E) [.g (.map a)] H λa b=>aE slices_Sorted_string [b] a 1 λa b c=>bx_.l3 E k x none 0 b c (nI c) 0 a Q:=zz
theorem bx_.l3_eq:bx_.l3 E (k+1) x y n z m i j H Q=aw j i (aJ (leI 0 j&&ltI j (nI m)) z H (tN j*1) (λa=>bY x H λb=>ew H b [.str] a (.a [nN 0,nN 0,mkS [],mkS []]) λb c=>aO b λb d=>aT b λb e=>cV b λb=>aE bj_ [x,c] H 3 λc f g=>dN c 52 5 80 y n [a,d,e,b,.sl f g 3] λa b c=>bx_.l3 E k x a b z m i (ae_ .i64 (j+1)) c Q)) (dZ Q y n 5 H):=zz
def oB_(E)(h:eE E):an_ prog 134 (bx_ E):=sO (eZ (fj_ E h) func176 (dT_.cons (fO_) (eZ nP_ func177 eN))) h func134
def bG_.cx:Cx:=⟨tys,[],[(2,[0,1,7,8,9])],[],[(49,dr_),(111,dF_)],av_,[.tmp 4]⟩
def bG_:=fF bG_.cx f179
def bG_.l2 k a b c d e f g:=aS_ (bG_.cx) f179 2 k (nL a b 3::gB c::B 5 (nL d e 3::gI f::gI g::B 40 []))
theorem uM_:ar_ bG_.cx f179 (k+1) [nL x n 3,b] H Q=bG_.l2 k x n b x n (nI n) 0 H Q:=zz
theorem bG_.l2_eq:bG_.l2 (k+1) x n b y m i j H Q=aw j i (dt (leI 0 j&&ltI j (nI m)) y H (tN j*3) H H (λa c d=>bK dr_ [a] H Q λe=>bK dF_ [c] e Q λc=>cq_ b (cq_ d (aS Q c) (aw 0 j (bq (leI 0 (ae_ .i64 (j-1))&&ltI (ae_ .i64 (j-1)) (nI n)) x c (tN (ae_ .i64 (j-1))*3) (λd=>bt (dQ_ d a) Q c (bG_.l2 k x n b y m i (ae_ .i64 (j+1)) c Q))) (bG_.l2 k x n b y m i (ae_ .i64 (j+1)) c Q))) (aw 0 j (bq (leI 0 (ae_ .i64 (j-1))&&ltI (ae_ .i64 (j-1)) (nI n)) x c (tN (ae_ .i64 (j-1))*3) (λd=>bt (dQ_ d a) Q c (bG_.l2 k x n b y m i (ae_ .i64 (j+1)) c Q))) (bG_.l2 k x n b y m i (ae_ .i64 (j+1)) c Q)))) (dO Q (nI n) 4 H):=zz
def vs_:an_ prog 179 (bG_):=sO (eZ hk_ func49 (eZ im_ func111 eN)) nO func179
def am_.cx E:=(⟨tys,[],[(3,[0,1,2,8,9,10])],[],[],E,[.tmp 6,.tmp 7]⟩:Cx)
def am_ E:=fF (am_.cx E) f153
def am_.l3 E k a b c d e f g h:=aS_ (am_.cx E) f153 3 k (nL a b 5::gS c::.g (.fn d e)::B 5 (gI f::gI g::gI h::B 38 []))
theorem eE_:ar_ (am_.cx E) f153 (k+1) [nL x n 5,s,.g (.fn m p)] H Q=am_.l3 E k x n s m p (nI n) 0 (nI n) H Q:=zz
theorem am_.l3_eq:am_.l3 E (k+1) x n s m p i j h H Q=aw j h (cS (leI 0 (ae_ .i64 (ra_ .u64 (ae_ .u64 (ae_ .i64 (j+h))) 1))&&ltI (ae_ .i64 (ra_ .u64 (ae_ .u64 (ae_ .i64 (j+h))) 1)) (nI n)) x H (tN (ae_ .i64 (ra_ .u64 (ae_ .u64 (ae_ .i64 (j+h))) 1))*5) H H H H 3 (λa b c d e f=>aG (E m) (cpl [.agg [.str a,.int .i64 b,.str c,.str d,.sl e f 3],.g (.str s)] p) H λa b=>aw b 0 (am_.l3 E k x n s m p i (ae_ .i64 (ae_ .i64 (ra_ .u64 (ae_ .u64 (ae_ .i64 (j+h))) 1)+1)) h a Q) (am_.l3 E k x n s m p i j (ae_ .i64 (ra_ .u64 (ae_ .u64 (ae_ .i64 (j+h))) 1)) a Q))) (aw j i (cS (leI 0 j&&ltI j (nI n)) x H (tN j*5) H H H H 3 (λa b c d e f=>aG (E m) (cpl [.agg [.str a,.int .i64 b,.str c,.str d,.sl e f 3],.g (.str s)] p) H λa b=>ax Q [j,.s (.bool (eqI b 0))] a)) (ax Q [j,false] H)):=zz
def eF_(E)(h:eE E):an_ prog 153 (am_ E):=sO eN h func153
def fk_.cx:Cx:=⟨tys,[],[],[],[(108,dk_)],av_,[.tmp 4]⟩
def fk_:=fF fk_.cx f154
theorem wY_:ar_ fk_.cx f154 (k+1) [.agg [s,i,t,r,.sl x n 3],S] H Q=aG dk_ [s,S] H λa b=>Q b a:=zz
def wp_:an_ prog 154 (fk_):=sO (eZ jU_ func108 eN) nO func154
def fN_.cx:Cx:=⟨tys,[],[],[],[(153,(am_ (cW_ [(154,fk_)])))],av_,[.tmp 4,.tmp 5]⟩
def fN_:=fF fN_.cx f104
theorem AU_:ar_ fN_.cx f104 (k+1) [nL x n 5,s] H Q=cw (am_ (cW_ [(154,fk_)])) [nL x n 5,s,.g (.fn 154 [])] H λa b c=>ax Q [b,c] a:=zz
def mg_:an_ prog 104 (fN_):=sO (dT_.cons ((eF_ (cW_ [(154,fk_)]) (gL_ (eZ wp_ func154 eN))).c ⟨_,func153,by kernel_rfl,by kernel_rfl⟩) eN) nO func104
def ca_.cx:Cx:=⟨tys,[],[(2,[0,1,9,10])],[],[(104,fN_)],av_,[.tmp 4]⟩
def ca_:=fF ca_.cx f180
def ca_.l2 k a b c d e:=aS_ (ca_.cx) f180 2 k (nL a b 5::gI c::B 7 (gI d::gI e::B 26 []))
theorem tz_:ar_ ca_.cx f180 (k+1) [nL x n 5,i] H Q=ca_.l2 k x n i (nI n) 0 H Q:=zz
theorem ca_.l2_eq:ca_.l2 (k+1) x n i j h H Q=aw h j (aB (leI 0 i&&ltI i (nI n)) x (λa b=>ah H a (b+tN i*5+2) λa=>dW a (mkS []) (Q true H) (cw fN_ [nL x n 5,a] H (λa b c=>bt c Q a (cp (leI 0 b&&ltI b (nI n)) x a (tN b*5) (λc=>cU c 2 Q a (ca_.l2 k x n b j (ae_ .i64 (h+1)) a Q))))))) (aS Q H):=zz
def tM_:an_ prog 180 (ca_):=sO (eZ mg_ func104 eN) nO func180
def bz_.cx:Cx:=⟨tys,[],[(2,[0,6,7,8]),(8,[0,55,56])],[],[(103,c4_),(178,g1_),(146,fZ_),(179,bG_),(180,ca_)],av_,[.tmp 2]⟩
def bz_:=fF bz_.cx f135
def bz_.l2 k a b c d e f:=aS_ (bz_.cx) f135 2 k (nL a b 5::B 5 (nL c d 5::gI e::gI f::B 58 []))
def bz_.l8 k a b c d:=aS_ (bz_.cx) f135 8 k (nL a b 5::B 54 (gI c::gI d::B 10 []))
theorem yw_:ar_ bz_.cx f135 (k+1) [nL x n 5] H Q=bz_.l2 k x n x n (nI n) 0 H Q:=zz
theorem bz_.l2_eq:bz_.l2 (k+1) x n y m i j H Q=aw j i (ch (leI 0 j&&ltI j (nI m)) y H (tN j*5) H (tN j*5) H (tN j*5) (λa b c d _=>ah H a (b+tN j*5+1+1+1) λe=>aa H a (b+tN j*5+1+1+1+1) 3 λa b=>bK c4_ [c] H Q λf=>bK g1_ [d] f Q λf=>bK fZ_ [e] f Q λe=>bK bG_ [nL a b 3,.g (.bool (eqI d 1))] e Q λa=>aw 0 j (bq (leI 0 (ae_ .i64 (j-1))&&ltI (ae_ .i64 (j-1)) (nI n)) x a (tN (ae_ .i64 (j-1))*5) (λb=>bt (dQ_ b c) Q a (bz_.l2 k x n y m i (ae_ .i64 (j+1)) a Q))) (bz_.l2 k x n y m i (ae_ .i64 (j+1)) a Q))) (bz_.l8 k x n (nI n) 0 H Q):=zz
theorem bz_.l8_eq:bz_.l8 (k+1) x n i j H Q=aw j i (bK ca_ [nL x n 5,j] H Q (λa=>bz_.l8 k x n i (ae_ .i64 (j+1)) a Q)) (dO Q (nI n) 6 H):=zz
def pB_:an_ prog 135 (bz_):=sO (eZ gh_ func103 (eZ rt_ func178 (eZ pQ_ func146 (eZ vs_ func179 (eZ tM_ func180 eN))))) nO func135
def dU_.cx E:=(⟨tys,[19],[(4,[5,6,19,20,21,22])],[],[(130,hP_),(131,dN_),(132,aF_),(133,bo_),(134,(bx_ E)),(135,bz_)],E,[.tmp 2,.tmp 3]⟩:Cx)
def dU_ E:=fF (dU_.cx E) f78
def dU_.l4 E k a b c d e f g h i:=aS_ (dU_.cx E) f78 4 k (B 5 (gI a::.g (.ptr (some (b,c)))::B 12 (.g (.ptr (some (d,e)))::nL f g 2::gI h::gI i::B 31 [])))
theorem BR_:ar_ (dU_.cx E) f78 (k+1) [.agg [.sl x n 5]] H Q=du hP_ [.agg [.sl x n 5]] H 2 λa b c d=>dU_.l4 E k d (ln (pu (pu (pu a (.map [] 0)) (.map [] 0)) (.map [] 0))) 0 (ln (pu (pu (pu a (.map [] 0)) (.map [] 0)) (.map [] 0))) 0 b c (nI c) 0 (pu (pu (pu (pu a (.map [] 0)) (.map [] 0)) (.map [] 0)) (.row true 139 [.sl x n 5,.map (some (ln a)),.map (some (ln (pu a (.map [] 0)))),.map (some (ln (pu (pu a (.map [] 0)) (.map [] 0)))),.sl none 0 5])) Q:=zz
theorem dU_.l4_eq:dU_.l4 E (k+1) i n m l o x N j h H Q=aw h j (bn (leI 0 h&&ltI h (nI N)) x H (tN h*2) (λa b c=>ah H a (b+tN h*2+1) λa=>aL dN_ [.g (.ptr (some (n,m))),.agg [c,a]] H Q [.s (.ptr none),false] λa=>dU_.l4 E k i n m l o x N j (ae_ .i64 (h+1)) a Q)) (cE i 0 Q [.s (.ptr none),false] H (dy aF_ [.g (.ptr (some (n,m)))] H Q [.s (.ptr none),false] bo_ [.g (.ptr (some (n,m)))] Q (λa=>aE (bx_ E) [.g (.ptr (some (n,m)))] a 5 λa b c=>dC a n (m+4) b c 5 λa=>aa a n (m+4) 5 λb c=>aj bz_ [nL b c 5] a λa b=>ax Q [.s (.ptr (some (n,m))),b] a))):=zz
def uz_(E)(h:eE E):an_ prog 78 (dU_ E):=sO (eZ uA_ func130 (eZ nq_ func131 (eZ mb_ func132 (eZ m6_ func133 (eZ (oB_ E h) func134 (eZ pB_ func135 eN)))))) h func78
end Go.Am
namespace Go.Am
open List
open Go.Proofs.Tryz
variable{E:Nat->Sm}{k:Nat}{H:Hp}{Q:Post}{U X Y Z u w x x1 y z:Pl}{D L M N O l m n n1 o:Nat}{I g h i j:Int}{C b b1 b2 c d:Bool}{R S e r s t:ByteArray}{A a:Option Nat}{p q:List (Nat×Nat)}{F:Sm}
def gx_.cx E:=(⟨tys,[],[],[],[(78,(dU_ E))],E,[.tmp 2,.tmp 3]⟩:Cx)
def gx_ E:=fF (gx_.cx E) f31
theorem wz_:ar_ (gx_.cx E) f31 (k+1) [.agg [.sl x n 5]] H Q=fk (dU_ E) [.agg [.sl x n 5]] H Q [.s (.sl none 0 5),nN 2000] λa b=>cA b a 5 λb c=>ax Q [.s (.sl b c 5),nN 0] a:=zz
def vQ_(E)(h:eE E):an_ prog 31 (gx_ E):=sO (eZ (uz_ E h) func78 eN) h func31
def is_.cx E:=(⟨tys,[],[],[],[(31,(gx_ E)),(103,c4_),(104,fN_)],E,[.cell 4 52,.tmp 5]⟩:Cx)
def is_ E:=fF (is_.cx E) f48
theorem yk_:ar_ (is_.cx E) f48 (k+1) [.agg [.sl x n 5],s] H Q=bC (gx_ E) [.agg [.sl x n 5]] H 5 λa b c d=>bP b Q (.a [mkS [],nN 0,mkS [],mkS [],.sl none 0 3]) a (aL c4_ [s] a Q [.a [mkS [],nN 0,mkS [],mkS [],.sl none 0 3],nN 1901] (λa=>cw fN_ [nL c d 5,s] a λa b e=>aK e Q [.a [mkS [],nN 0,mkS [],mkS [],.sl none 0 3],nN 1903] a (cS (leI 0 b&&ltI b (nI d)) c a (tN b*5) a a a a 3 (λb c d e f g=>ax Q [.a [b,c,d,e,.sl f g 3],nN 0] a)))):=zz
def ye_(E)(h:eE E):an_ prog 48 (is_ E):=sO (eZ (vQ_ E h) func31 (eZ gh_ func103 (eZ mg_ func104 eN))) h func48
def e4_.cx E:=(⟨tys,[],[],[],[(48,(is_ E)),(49,dr_),(50,cM_)],E,[.tmp 6,.tmp 7]⟩:Cx)
def e4_ E:=fF (e4_.cx E) f15
theorem yU_:ar_ (e4_.cx E) f15 (k+1) [.agg [.sl x n 5],s,t] H Q=bk (is_ E) [.agg [.sl x n 5],s] H λa b c=>aT c λc _=>eQ c λc _=>aT c λc _=>aN c 3 λc d=>bP b Q (mkS []) a (aL dr_ [t] a Q [mkS [],nN 1907] (λa=>cw cM_ [nL c d 3,t] a λa b e=>aK e Q [mkS [],nN 1908] a (d7 (leI 0 b&&ltI b (nI d)) c a (tN b*3) (λb=>ax Q [b,nN 0] a)))):=zz
def pG_(E)(h:eE E):an_ prog 15 (e4_ E):=sO (eZ (ye_ E h) func48 (eZ hk_ func49 (eZ gY_ func50 eN))) h func15
def bV_.cx:Cx:=⟨tys,[],[(2,[0,3])],[],[],av_,[.tmp 2]⟩
def bV_:=fF bV_.cx f267
def bV_.l2 k a b c:=aS_ (bV_.cx) f267 2 k (nL a b 1::.bad::.bad::gI c::B 36 [])
theorem vP_:ar_ bV_.cx f267 (k+1) [nL x n 1] H Q=bV_.l2 k x n 0 H Q:=zz
theorem bV_.l2_eq:bV_.l2 (k+1) x n i H Q=bV i n (aJ (leI 0 i&&ltI i (nI n)) x H (tN i*1) (λa=>dA (sz a) 1 Q H (aJ (leI 0 i&&ltI i (nI n)) x H (tN i*1) (λa=>dA 6 (sz a) Q H (aw 0 i (aJ (leI 0 i&&ltI i (nI n)) x H (tN i*1) (λa=>aJ (leI 0 (ae_ .i64 (i-1))&&ltI (ae_ .i64 (i-1)) (nI n)) x H (tN (ae_ .i64 (i-1))*1) λb=>cq_ (dQ_ a b||er_ a b) (aS Q H) (bV_.l2 k x n (ae_ .i64 (i+1)) H Q))) (bV_.l2 k x n (ae_ .i64 (i+1)) H Q)))))) (Q true H):=zz
def wT_:an_ prog 267 (bV_):=sO eN nO func267
def aK_.cx:Cx:=⟨tys,[],[(5,[2,5]),(11,[2,6]),(16,[2,6,7])],[],[(267,bV_)],av_,[.tmp 4]⟩
def aK_:=fF aK_.cx f241
def aK_.l5 k a b c d e f g h i:=aS_ (aK_.cx) f241 5 k (.bad::.bad::.bx [.bool a,.bool b,.sl c d 1,.sl e f 1,.sl g h 1]::.bad::.bad::gI i::B 104 [])
def aK_.l11 k a b c d e f g h i:=aS_ (aK_.cx) f241 11 k (.bad::.bad::.bx [.bool a,.bool b,.sl c d 1,.sl e f 1,.sl g h 1]::B 3 (gI i::B 103 []))
def aK_.l16 k a b c d e f g h i j:=aS_ (aK_.cx) f241 16 k (.bad::.bad::.bx [.bool a,.bool b,.sl c d 1,.sl e f 1,.sl g h 1]::B 3 (gI i::gI j::B 102 []))
theorem fJ_:ar_ aK_.cx f241 (k+1) [.agg [b,c,.sl x n 1,.sl y m 1,.sl z l 1],i] H Q=bt b Q H (bK bV_ [nL x n 1] H Q (λa=>bV i n (aS Q a) (cq_ c (aK_.l5 k b c x n y m z l 0 a Q) (aK_.l11 k b c x n y m z l 0 a Q)))):=zz
theorem aK_.l5_eq:aK_.l5 (k+1) b c x n y m z l i H Q=bV i m (aJ (leI 0 i&&ltI i (nI m)) y H (tN i*1) (λa=>dA 10 (sz a) Q H (aK_.l5 k b c x n y m z l (ae_ .i64 (i+1)) H Q))) (ep (nI m) (nI n) Q H (dk Q (nI l) 0 H)):=zz
theorem aK_.l11_eq:aK_.l11 (k+1) b c x n y m z l i H Q=bV i l (aM (leI 0 i&&ltI i (nI l)) z H (tN i*1) (λa=>dA a 1 Q H (aM (leI 0 i&&ltI i (nI l)) z H (tN i*1) (λa=>bf 48 a (aS Q H) (aK_.l16 k b c x n y m z l i 0 H Q))))) (bf 1 (nI n) (ep (nI m) 0 Q H (dk Q (nI l) (ae_ .i64 (nI n+1)) H)) (aS Q H)):=zz
theorem aK_.l16_eq:aK_.l16 (k+1) b c x n y m z l i j H Q=aw j i (aM (leI 0 j&&ltI j (nI l)) z H (tN j*1) (λa=>aM (leI 0 i&&ltI i (nI l)) z H (tN i*1) λd=>bj a d (aS Q H) (aK_.l16 k b c x n y m z l i (ae_ .i64 (j+1)) H Q))) (aK_.l11 k b c x n y m z l (ae_ .i64 (i+1)) H Q):=zz
def tL_:an_ prog 241 (aK_):=sO (eZ wT_ func267 eN) nO func241
def g2_.cx:Cx:=⟨tys,[],[],[],[(241,aK_)],av_,[.tmp 2]⟩
def g2_:=fF g2_.cx f223
def vl_:an_ prog 223 (g2_):=sO (eZ tL_ func241 eN) nO func223
def ag_.cx S:=(⟨tys,[],[(13,[0,3,4,5,7,12,13])],[(10,[0,3,12]),(18,[0,3,4,5,7,12,13,14,15]),(20,[0,3,4,5,7,12,13,14,15])],[(223,g2_),(185,S)],av_,[]⟩:Cx)
def ag_.st S:=fF (ag_.cx S) f185
def ag_.l10 S k a b c d e f g h i j:=aS_ (ag_.cx S) f185 10 k (gP a::.bad::.bad::gI b::B 8 (.bx [.bool c,.bool d,.sl e f 1,.sl g h 1,.sl i j 1]::B 150 []))
def ag_.l13 S k a b c d e f g h i j l m n o p:=aS_ (ag_.cx S) f185 13 k (gP a::.bad::.bad::gI b::gS c::gS d::.bad::.bx [.sl e f 5]::B 4 (.bx [.bool g,.bool h,.sl i j 1,.sl l m 1,.sl n o 1]::gI p::B 149 []))
def ag_.l18 S k a b c d e f g h i j l m n o p q r:=aS_ (ag_.cx S) f185 18 k (gP a::.bad::.bad::gI b::gS c::gS d::.bad::.bx [.sl e f 5]::B 4 (.bx [.bool g,.bool h,.sl i j 1,.sl l m 1,.sl n o 1]::gI p::gS q::gS r::B 147 []))
def ag_.l20 S k a b c d e f g h i j l m n o p q r:=aS_ (ag_.cx S) f185 20 k (gP a::.bad::.bad::gI b::gS c::gS d::.bad::.bx [.sl e f 5]::B 4 (.bx [.bool g,.bool h,.sl i j 1,.sl l m 1,.sl n o 1]::gI p::gS q::gS r::B 147 []))
theorem j3_:ar_ (ag_.cx F) f185 (k+1) [x,.agg [.sl y n 5],i,j,s,t] H Q=pS x λa b=>dj H a (b+3) (cC x H true Q []) (cH x H 1 0 i i (λa b=>dj H a (b+tN i*1) (cC x H true Q []) (dK (leI 0 i&&ltI i (nI n)) y H (tN i*5) H H 1 H 1 H 1 (λa b c d e f g h=>aj g2_ [.agg [a,b,.sl c d 1,.sl e f 1,.sl g h 1]] H λa b=>aC b (cC x a true Q []) (cH x a 1 0 i i (λb c=>wr a b (c+tN i*1) true λa=>dK (leI 0 i&&ltI i (nI n)) y a (tN i*5) a a 1 a 1 a 1 λb c d e f g h l=>d8 i 0 (aw (nI e) 2 (cC x a true Q []) (bV 0 e (e8 (leI 0 0&&ltI 0 (nI e)) d a (tN 0*1) s (cC x a true Q []) (eM t [] (aJ (leI 0 (ae_ .i64 (nI e-1))&&ltI (ae_ .i64 (nI e-1)) (nI e)) d a (tN (ae_ .i64 (nI e-1))*1) (λi=>aC (dQ_ i t) (cC x a true Q []) (cq_ c (fl x a 0 (bZ x a j (λa=>ag_.l10 F k x j b c d e f g h l a Q)) (ag_.l10 F k x j b c d e f g h l a Q)) (ag_.l13 F k x j s t y n b c d e f g h l 0 a Q)))) (cq_ c (fl x a 0 (bZ x a j (λa=>ag_.l10 F k x j b c d e f g h l a Q)) (ag_.l10 F k x j b c d e f g h l a Q)) (ag_.l13 F k x j s t y n b c d e f g h l 0 a Q)))) (cq_ c (fl x a 0 (bZ x a j (λa=>ag_.l10 F k x j b c d e f g h l a Q)) (ag_.l10 F k x j b c d e f g h l a Q)) (ag_.l13 F k x j s t y n b c d e f g h l 0 a Q)))) (bV 0 e (e8 (leI 0 0&&ltI 0 (nI e)) d a (tN 0*1) s (cC x a true Q []) (eM t [] (aJ (leI 0 (ae_ .i64 (nI e-1))&&ltI (ae_ .i64 (nI e-1)) (nI e)) d a (tN (ae_ .i64 (nI e-1))*1) (λi=>aC (dQ_ i t) (cC x a true Q []) (cq_ c (fl x a 0 (bZ x a j (λa=>ag_.l10 F k x j b c d e f g h l a Q)) (ag_.l10 F k x j b c d e f g h l a Q)) (ag_.l13 F k x j s t y n b c d e f g h l 0 a Q)))) (cq_ c (fl x a 0 (bZ x a j (λa=>ag_.l10 F k x j b c d e f g h l a Q)) (ag_.l10 F k x j b c d e f g h l a Q)) (ag_.l13 F k x j s t y n b c d e f g h l 0 a Q)))) (cq_ c (fl x a 0 (bZ x a j (λa=>ag_.l10 F k x j b c d e f g h l a Q)) (ag_.l10 F k x j b c d e f g h l a Q)) (ag_.l13 F k x j s t y n b c d e f g h l 0 a Q))))))))):=zz
theorem ag_.l10_eq:ag_.l10 F (k+1) x i b c y n z m u l H Q=cG x H λa=>pS x λb c=>wr H b (c+3) (.bool (!(eqI a i))) λa=>pS x λb c=>aq a b (c+2) λb=>pS x λc d=>bp a c (d+2) (ae_ .i64 (b+nI n)) Q []:=zz
theorem ag_.l13_eq:ag_.l13 F (k+1) x i s t y n b c z m u l w o j H Q=bV j o (aw 0 j (aJ (leI 0 (ae_ .i64 (j-1))&&ltI (ae_ .i64 (j-1)) (nI m)) z H (tN (ae_ .i64 (j-1))*1) (λa=>ag_.l18 F k x i s t y n b c z m u l w o j a t H Q)) (ag_.l18 F k x i s t y n b c z m u l w o j s t H Q)) (ax Q [] H):=zz
theorem ag_.l18_eq:ag_.l18 F (k+1) x i s t y n b c z m u l w o j r S H Q=bV j m (aJ (leI 0 j&&ltI j (nI m)) z H (tN j*1) (λa=>ag_.l20 F k x i s t y n b c z m u l w o j r a H Q)) (ag_.l20 F k x i s t y n b c z m u l w o j r S H Q):=zz
theorem ag_.l20_eq:ag_.l20 F (k+1) x i s t y n b c z m u l w o j r S H Q=aM (leI 0 j&&ltI j (nI o)) w H (tN j*1) λa=>cl F [x,.agg [.sl y n 5],a,ae_ .i64 (i+1),r,S] H λ_ a=>ag_.l13 F k x i s t y n b c z m u l w o (ae_ .i64 (j+1)) a Q:=zz
def ag_.st_ok(S:Sm)(hS:de_ prog 185 S):an_ prog 185 (ag_.st S):=l7_.sound (cx:=ag_.cx S) rfl (eZ vl_ func223 (dT_.cons hS eN)) nO func185 rfl
def ag_.at:Nat->Sm
 |0=>λ_ _ _=>False
 |n+1=>ag_.st (ag_.at n)
def ag_:Sm:=λxs H Q=>∃n,ag_.at n xs H Q
def ag_.at_ok:∀n,an_ prog 185 (ag_.at n)
 |0=>λ_ _ _ h=>h.elim
 |n+1=>ag_.st_ok _ ((ag_.at_ok n).c ⟨_,func185,by kernel_rfl,by kernel_rfl⟩)
def pY_:an_ prog 185 (ag_):=an_.ex (ag_.at_ok)
def ga_.cx:Cx:=⟨tys,[],[],[],[],av_,[.tmp 2]⟩
def ga_:=fF ga_.cx f186
theorem uL_:ar_ ga_.cx f186 (k+1) [.agg [b,c,.sl x n 1,.sl y m 1,.sl z l 1]] H Q=aC b (aC c (dk Q (ae_ .i64 (ae_ .i64 (nI n+nI m)+nI l)) 0 H) (aS Q H)) (aS Q H):=zz
def vn_:an_ prog 186 (ga_):=sO eN nO func186
def cD_.cx:Cx:=⟨tys,[10,12],[(6,[1,4,5,12])],[],[(185,ag_),(186,ga_)],av_,[.tmp 2,.tmp 3]⟩
def cD_:=fF cD_.cx f148
def cD_.l6 k a b c d e f g:=aS_ (cD_.cx) f148 6 k (.bad::.bx [.sl a b 5]::.bad::.bad::.g (.ptr (some (c,d)))::gI e::B 6 (.g (.ptr (some (f,g)))::B 40 []))
theorem wH_:ar_ cD_.cx f148 (k+1) [.agg [.sl x n 5]] H Q=cE (nI n) 48 Q [.s (.ptr none),false] H (cl ag_ [.g (.ptr (some (ln (pu H (.row true 4 (lo_ (tN 48) [.bool false]))),0))),.agg [.sl x n 5],nN 0,nN 1,mkS [],mkS []] (pu (pu H (.row true 4 (lo_ (tN 48) [.bool false]))) (.row true 230 [.sl (some (ln H,0)) (tN 48) 1,nN 0,nN 0,false])) (λ_ a=>cD_.l6 k x n (ln (pu H (.row true 4 (lo_ (tN 48) [.bool false])))) 0 0 (ln (pu H (.row true 4 (lo_ (tN 48) [.bool false])))) 0 a Q)):=zz
theorem cD_.l6_eq:cD_.l6 (k+1) x n m l i o N H Q=aw i 48 (cT H m (l+0) 1 0 i i (λa b=>aD H a (b+tN i*1) λa=>aC a (dK (leI 0 i&&ltI i (nI n)) x H (tN i*5) H H 1 H 1 H 1 (λa b c d e f g h=>aj ga_ [.agg [a,b,.sl c d 1,.sl e f 1,.sl g h 1]] H λa b=>aC b (wr a m (l+3) true (λa=>cD_.l6 k x n m l (ae_ .i64 (i+1)) o N a Q)) (cD_.l6 k x n m l (ae_ .i64 (i+1)) o N a Q))) (cD_.l6 k x n m l (ae_ .i64 (i+1)) o N H Q))) (aD H m (l+3) (λa=>aC a (aq H m (l+2) (λa=>ax Q [.s (.ptr (some (m,l))),.s (.bool (leI a 60))] H)) (ax Q [.s (.ptr (some (m,l))),false] H))):=zz
def xH_:an_ prog 148 (cD_):=sO (eZ pY_ func185 (eZ vn_ func186 eN)) nO func148
def f1_.cx:Cx:=⟨tys,[],[],[],[(148,cD_)],av_,[.tmp 2]⟩
def f1_:=fF f1_.cx f98
theorem yV_:ar_ f1_.cx f98 (k+1) [.agg [.sl x n 5]] H Q=dh cD_ [.agg [.sl x n 5]] H λa b _=>bB b λb=>Q b a:=zz
def pJ_:an_ prog 98 (f1_):=sO (eZ xH_ func148 eN) nO func98
def bt_.cx S:=(⟨tys,[],[(3,[2,3,7,8]),(7,[2,3,7,9]),(2000000,[2])],[],[(101,S)],av_,[.tmp 6]⟩:Cx)
def bt_.st S:=fF (bt_.cx S) f101
def bt_.l3 S k a b c d e f g h i j l m n:=aS_ (bt_.cx S) f101 3 k (.bad::.bad::nL a b 2::.bx [.sl c d 5]::B 3 (.bx [.bool e,.bool f,.sl g h 1,.sl i j 1,.sl l m 1]::gI n::B 43 []))
def bt_.l7 S k a b c d e f g h i j l m n:=aS_ (bt_.cx S) f101 7 k (.bad::.bad::nL a b 2::.bx [.sl c d 5]::B 3 (.bx [.bool e,.bool f,.sl g h 1,.sl i j 1,.sl l m 1]::.bad::gI n::B 42 []))
theorem Br_:ar_ (bt_.cx F) f101 (k+1) [.agg [.sl x n 5],i,nL y m 2] H Q=dK (leI 0 i&&ltI i (nI n)) x H (tN i*5) H H 1 H 1 H 1 λa b c d e f g h=>bt_.l3 F k y m x n a b c d e f g h 0 H Q:=zz
theorem bt_.l3_eq:bt_.l3 F (k+1) x n y m b c z l u o w N i H Q=bV i o (aJ (leI 0 i&&ltI i (nI l)) z H (tN i*1) (λa=>aJ (leI 0 i&&ltI i (nI o)) u H (tN i*1) λd=>dN H 131 2 32 x n [a,d] λa d e=>bt_.l3 F k a d y m b c z l u o w N (ae_ .i64 (i+1)) e Q)) (bt_.l7 F k x n y m b c z l u o w N 0 H Q):=zz
theorem bt_.l7_eq:bt_.l7 F (k+1) x n y m b c z l u o w N i H Q=bV i N (aM (leI 0 i&&ltI i (nI N)) w H (tN i*1) (λa=>aE F [.agg [.sl y m 5],a,nL x n 2] H 2 λa d e=>bt_.l7 F k d e y m b c z l u o w N (ae_ .i64 (i+1)) a Q)) (dZ Q x n 2 H):=zz
def bt_.st_ok(S:Sm)(hS:de_ prog 101 S):an_ prog 101 (bt_.st S):=l7_.sound (cx:=bt_.cx S) rfl (dT_.cons hS eN) nO func101 rfl
def bt_.at:Nat->Sm
 |0=>λ_ _ _=>False
 |n+1=>bt_.st (bt_.at n)
def bt_:Sm:=λxs H Q=>∃n,bt_.at n xs H Q
def bt_.at_ok:∀n,an_ prog 101 (bt_.at n)
 |0=>λ_ _ _ h=>h.elim
 |n+1=>bt_.st_ok _ ((bt_.at_ok n).c ⟨_,func101,by kernel_rfl,by kernel_rfl⟩)
def uo_:an_ prog 101 (bt_):=an_.ex (bt_.at_ok)
def jY_.cx:Cx:=⟨tys,[],[],[],[(98,f1_),(101,bt_)],av_,[.tmp 2,.tmp 3]⟩
def jY_:=fF jY_.cx f46
theorem CJ_:ar_ jY_.cx f46 (k+1) [.agg [.sl x n 5]] H Q=aL f1_ [.agg [.sl x n 5]] H Q [.s (.sl none 0 2),nN 1400] λa=>aE bt_ [.agg [.sl x n 5],nN 0,nL none 0 2] a 2 λa b c=>ax Q [.s (.sl b c 2),nN 0] a:=zz
def BE_:an_ prog 46 (jY_):=sO (eZ pJ_ func98 (eZ uo_ func101 eN)) nO func46
def cy_.cx:Cx:=⟨tys,[],[(2,[0,1,5])],[],[],av_,[.tmp 4]⟩
def cy_:=fF cy_.cx f109
def cy_.l2 k a b c:=aS_ (cy_.cx) f109 2 k (gS a::gI b::B 3 (gI c::B 38 []))
theorem yt_:ar_ cy_.cx f109 (k+1) [s,i] H Q=cy_.l2 k s i 0 H Q:=zz
theorem cy_.l2_eq:cy_.l2 (k+1) s i j H Q=aw j (sz s) (chk (leI 0 j&&ltI j (sz s)) (bf 97 (byt s (tN j)) (chk (leI 0 j&&ltI j (sz s)) (bf (byt s (tN j)) 122 (cy_.l2 k s i (ae_ .i64 (j+1)) H Q) (chk (leI 0 j&&ltI j (sz s)) (bf 48 (byt s (tN j)) (chk (leI 0 j&&ltI j (sz s)) (bt (leI (byt s (tN j)) 57) Q H (cy_.l2 k s i (ae_ .i64 (j+1)) H Q))) (aS Q H))))) (chk (leI 0 j&&ltI j (sz s)) (bf 48 (byt s (tN j)) (chk (leI 0 j&&ltI j (sz s)) (bt (leI (byt s (tN j)) 57) Q H (cy_.l2 k s i (ae_ .i64 (j+1)) H Q))) (aS Q H))))) (bf 1 (sz s) (dO Q (sz s) i H) (aS Q H)):=zz
def pU_:an_ prog 109 (cy_):=sO eN nO func109
def bf_.cx:Cx:=⟨tys,[],[],[],[(109,cy_)],av_,[.tmp 2]⟩
def bf_:=fF bf_.cx f51
theorem tX_:ar_ bf_.cx f51 (k+1) [s] H Q=bO cy_ [s,nN 4] H Q:=zz
def c5_:an_ prog 51 (bf_):=sO (eZ pU_ func109 eN) nO func51
def f9_.cx:Cx:=⟨tys,[],[],[],[(51,bf_)],av_,[.tmp 2,.tmp 3]⟩
def f9_:=fF f9_.cx f125
theorem u9_:ar_ f9_.cx f125 (k+1) [s] H Q=dV (sz s) 1 Q [mkS [],false] H (chk (leI 0 0&&ltI 0 (sz s)) (cE (byt s (tN 0)) 115 Q [mkS [],false] H (chk (leN (tN 1) (szN s)&&leN (szN s) (szN s)) (aL bf_ [sub s (tN 1) (szN s)] H Q [mkS [],false] (λa=>chk (leN (tN 1) (szN s)&&leN (szN s) (szN s)) (ax Q [sub s (tN 1) (szN s),true] a)))))):=zz
def vm_:an_ prog 125 (f9_):=sO (eZ c5_ func51 eN) nO func125
def dB_.cx:Cx:=⟨tys,[],[],[],[],av_,[.tmp 2]⟩
def dB_:=fF dB_.cx f213
theorem xS_:ar_ dB_.cx f213 (k+1) [i] H Q=bf 1 i (dO Q i 255 H) (aS Q H):=zz
def h5_:an_ prog 213 (dB_):=sO eN nO func213
def d7_.cx:Cx:=⟨tys,[],[],[],[(213,dB_),(51,bf_)],av_,[.tmp 2]⟩
def d7_:=fF d7_.cx f168
theorem tc_:ar_ d7_.cx f168 (k+1) [.agg [i,j,s,t]] H Q=cM dB_ [i] H Q λa=>bf 0 j (bf j 2 (dW s (mkS []) (dO Q (sz t) 3 a) (cM bf_ [s] a Q (λa=>dO Q (sz t) 3 a))) (aS Q a)) (aS Q a):=zz
def lH_:an_ prog 168 (d7_):=sO (eZ h5_ func213 (eZ c5_ func51 eN)) nO func168
def fA_.cx:Cx:=⟨tys,[],[],[],[(168,d7_)],av_,[.cell 2 81,.tmp 3]⟩
def fA_:=fF fA_.cx f126
theorem tQ_:ar_ fA_.cx f126 (k+1) [s] H Q=dV (sz s) 3 Q [.a [nN 0,nN 0,mkS [],mkS []],nN 1700] H (chk (leI 0 2&&ltI 2 (sz s)) (dV (sz s) (ae_ .i64 (3+ae_ .i64 (byt s (tN 2)))) Q [.a [nN 0,nN 0,mkS [],mkS []],nN 1700] H (ae (leI 0 2&&ltI 2 (sz s)) (leI 0 0&&ltI 0 (sz s)) (ae (leI 0 1&&ltI 1 (sz s)) (leI 0 (ae_ .i64 (3+ae_ .i64 (byt s (tN 2))))) (ae (leN (tN 3) (tN (ae_ .i64 (3+ae_ .i64 (byt s (tN 2)))))&&leN (tN (ae_ .i64 (3+ae_ .i64 (byt s (tN 2))))) (szN s)) (leI 0 (ae_ .i64 (3+ae_ .i64 (byt s (tN 2))))) (chk (leN (tN (ae_ .i64 (3+ae_ .i64 (byt s (tN 2))))) (szN s)&&leN (szN s) (szN s)) (aL d7_ [.agg [ae_ .i64 (byt s (tN 0)),ae_ .i64 (byt s (tN 1)),sub s (tN 3) (tN (ae_ .i64 (3+ae_ .i64 (byt s (tN 2))))),sub s (tN (ae_ .i64 (3+ae_ .i64 (byt s (tN 2))))) (szN s)]] H Q [.a [nN 0,nN 0,mkS [],mkS []],nN 1700] (λa=>ax Q [.a [ae_ .i64 (byt s (tN 0)),ae_ .i64 (byt s (tN 1)),sub s (tN 3) (tN (ae_ .i64 (3+ae_ .i64 (byt s (tN 2))))),sub s (tN (ae_ .i64 (3+ae_ .i64 (byt s (tN 2))))) (szN s)],nN 0] a)))))))):=zz
def tH_:an_ prog 126 (fA_):=sO (eZ lH_ func168 eN) nO func126
def bW_.cx:Cx:=⟨tys,[],[],[],[(109,cy_)],av_,[.tmp 2]⟩
def bW_:=fF bW_.cx f53
theorem s1_:ar_ bW_.cx f53 (k+1) [s] H Q=bO cy_ [s,nN 3] H Q:=zz
def eM_:an_ prog 53 (bW_):=sO (eZ pU_ func109 eN) nO func53
def f6_.cx:Cx:=⟨tys,[],[],[],[(53,bW_)],av_,[.tmp 2,.tmp 3,.tmp 4]⟩
def f6_:=fF f6_.cx f127
theorem u1_:ar_ f6_.cx f127 (k+1) [s] H Q=dV (sz s) 2 Q [nN 0,mkS [],false] H (chk (leI 0 0&&ltI 0 (sz s)) (cE (byt s (tN 0)) 102 Q [nN 0,mkS [],false] H (chk (leI 0 1&&ltI 1 (sz s)) (bj (byt s (tN 1)) 0 (ax Q [nN 0,mkS [],false] H) (chk (leN (tN 2) (szN s)&&leN (szN s) (szN s)) (aL bW_ [sub s (tN 2) (szN s)] H Q [nN 0,mkS [],false] (λa=>ae (leI 0 1&&ltI 1 (sz s)) (leN (tN 2) (szN s)&&leN (szN s) (szN s)) (ax Q [ae_ .i64 (byt s (tN 1)),sub s (tN 2) (szN s),true] a)))))))):=zz
def vp_:an_ prog 127 (f6_):=sO (eZ eM_ func53 eN) nO func127
def e2_.cx:Cx:=⟨tys,[],[],[],[],av_,[.tmp 2,.tmp 3]⟩
def e2_:=fF e2_.cx f128
theorem rf_:ar_ e2_.cx f128 (k+1) [s] H Q=cE (sz s) 2 Q [nN 0,false] H (chk (leI 0 0&&ltI 0 (sz s)) (cE (byt s (tN 0)) 105 Q [nN 0,false] H (chk (leI 0 1&&ltI 1 (sz s)) (bj (byt s (tN 1)) 0 (ax Q [nN 0,false] H) (chk (leI 0 1&&ltI 1 (sz s)) (ax Q [ae_ .i64 (byt s (tN 1)),true] H)))))):=zz
def rg_:an_ prog 128 (e2_):=sO eN nO func128
def dL_.cx:Cx:=⟨tys,[],[],[],[(213,dB_)],av_,[.tmp 2]⟩
def dL_:=fF dL_.cx f169
theorem rv_:ar_ dL_.cx f169 (k+1) [.agg [i,s]] H Q=cM dB_ [i] H Q λa=>dO Q (sz s) 6 a:=zz
def kZ_:an_ prog 169 (dL_):=sO (eZ h5_ func213 eN) nO func169
def eT_.cx:Cx:=⟨tys,[],[],[],[(169,dL_)],av_,[.cell 2 63,.tmp 3]⟩
def eT_:=fF eT_.cx f129
theorem se_:ar_ eT_.cx f129 (k+1) [s] H Q=dW s (mkS []) (ax Q [.a [nN 0,mkS []],nN 1800] H) (ae (leI 0 0&&ltI 0 (sz s)) (leN (tN 1) (szN s)&&leN (szN s) (szN s)) (aL dL_ [.agg [ae_ .i64 (byt s (tN 0)),sub s (tN 1) (szN s)]] H Q [.a [nN 0,mkS []],nN 1800] (λa=>ax Q [.a [ae_ .i64 (byt s (tN 0)),sub s (tN 1) (szN s)],nN 0] a))):=zz
def rQ_:an_ prog 129 (eT_):=sO (eZ kZ_ func169 eN) nO func129
def d3_.cx:Cx:=⟨tys,[],[],[],[(125,f9_),(126,fA_),(127,f6_),(128,e2_),(129,eT_)],av_,[.tmp 4]⟩
def d3_:=fF d3_.cx f74
theorem py_:ar_ d3_.cx f74 (k+1) [x,.agg [s,t]] H Q=bJ f9_ [s] H λa b c=>bB b λb=>cq_ b (bk fA_ [t] a (λa b d=>aO d λd e=>aO d λd f=>aT d λd g=>cV d λd=>aZ b λb=>bw x a 5 λh i=>dN a 83 5 64 h i [c,e,f,g,d] λa c d=>pS x λe f=>dC d e (f+0) a c 5 λa=>dk Q b 0 a)) (bz f6_ [s] a (λa b c=>af b λb d=>dS d λd=>bB b λb=>cq_ b (cU (sz t) 2 Q a (chk (leI 0 1&&ltI 1 (sz t)) (dA 1 (byt t (tN 1)) Q a (eK x a 4 (λb e=>ae (leI 0 0&&ltI 0 (sz t)) (leI 0 1&&ltI 1 (sz t)) (fe a 87 4 40 b e [c,d,ae_ .i64 (byt t (tN 0)),.bool (eqI (byt t (tN 1)) 1)] x (λa=>Q true a))))))) (cw e2_ [s] a (λa b c=>bk eT_ [t] a λa d e=>aO e λe f=>cV e λe=>aZ d λd=>cJ x a 3 λg h=>dN a 65 3 32 g h [b,f,e] λa b e=>pS x λf g=>dC e f (g+2) a b 3 λa=>cK c Q a (dk Q d 0 a))))):=zz
def pn_:an_ prog 74 (d3_):=sO (eZ vm_ func125 (eZ tH_ func126 (eZ vp_ func127 (eZ rg_ func128 (eZ rQ_ func129 eN))))) nO func74
def bb_.cx:Cx:=⟨tys,[],[(2,[0,1,5])],[],[],av_,[.tmp 4]⟩
def bb_:=fF bb_.cx f75
def bb_.l2 k a b c:=aS_ (bb_.cx) f75 2 k (gP a::gI b::B 3 (gI c::B 21 []))
theorem pu_:ar_ bb_.cx f75 (k+1) [x,i] H Q=bb_.l2 k x i 0 H Q:=zz
theorem bb_.l2_eq:bb_.l2 (k+1) x i j H Q=fh x H 5 j (cH x H 5 0 j j (λa b=>aq H a (b+tN j*5+1+0) λa=>bj a i (Q j H) (bb_.l2 k x i (ae_ .i64 (j+1)) H Q))) (eF Q .i64 (-1) H):=zz
def ha_:an_ prog 75 (bb_):=sO eN nO func75
def aO_.cx:Cx:=⟨tys,[],[(2,[0,1,5])],[],[],av_,[.tmp 4]⟩
def aO_:=fF aO_.cx f55
def aO_.l2 k a b c:=aS_ (aO_.cx) f55 2 k (gP a::gI b::B 3 (gI c::B 20 []))
theorem n1_:ar_ aO_.cx f55 (k+1) [x,i] H Q=aO_.l2 k x i 0 H Q:=zz
theorem aO_.l2_eq:aO_.l2 (k+1) x i j H Q=fj x H 3 j (ff x H 3 0 j j (λa b=>aq H a (b+tN j*3+0) λa=>bj a i (Q j H) (aO_.l2 k x i (ae_ .i64 (j+1)) H Q))) (eF Q .i64 (-1) H):=zz
def dA_:an_ prog 55 (aO_):=sO eN nO func55
def aw_.cx:Cx:=⟨tys,[],[(2,[0,3]),(7,[0,4]),(11,[0,4,5,6])],[],[(55,aO_)],av_,[.tmp 2]⟩
def aw_:=fF aw_.cx f76
def aw_.l2 k a b:=aS_ (aw_.cx) f76 2 k (gP a::.bad::.bad::gI b::B 71 [])
def aw_.l7 k a b:=aS_ (aw_.cx) f76 7 k (gP a::B 3 (gI b::B 70 []))
def aw_.l11 k a b c d:=aS_ (aw_.cx) f76 11 k (gP a::B 3 (gI b::gI c::gI d::B 68 []))
theorem m0_:ar_ aw_.cx f76 (k+1) [x] H Q=aw_.l2 k x 0 H Q:=zz
theorem aw_.l2_eq:aw_.l2 (k+1) x i H Q=cD x H 4 i (dl x H 4 0 i i (λa b=>aq H a (b+tN i*4+2) λa=>aG aO_ [x,a] H λa b=>dA b 0 Q a (aw_.l2 k x (ae_ .i64 (i+1)) a Q))) (aw_.l7 k x 0 H Q):=zz
theorem aw_.l7_eq:aw_.l7 (k+1) x i H Q=fj x H 3 i (aw_.l11 k x i 0 0 H Q) (Q true H):=zz
theorem aw_.l11_eq:aw_.l11 (k+1) x i j h H Q=cD x H 4 h (dl x H 4 0 h h (λa b=>aq H a (b+tN h*4+2) λa=>ff x H 3 0 i i λb c=>aq H b (c+tN i*3+0) λb=>bj a b (aw_.l11 k x i (ae_ .i64 (j+1)) (ae_ .i64 (h+1)) H Q) (aw_.l11 k x i j (ae_ .i64 (h+1)) H Q))) (ff x H 3 0 i i (λa b=>aq H a (b+tN i*3+1+0) λa=>cU j a Q H (aw_.l7 k x (ae_ .i64 (i+1)) H Q))):=zz
def nc_:an_ prog 76 (aw_):=sO (eZ dA_ func55 eN) nO func76
def ax_.cx:Cx:=⟨tys,[],[(3,[0,3,4]),(8,[0,3,4,5,6,7])],[],[(55,aO_)],av_,[.tmp 2]⟩
def ax_:=fF ax_.cx f66
def ax_.l3 k a b c d:=aS_ (ax_.cx) f66 3 k (gP a::.bad::.bad::nL b c 5::gI d::B 87 [])
def ax_.l8 k a b c d e f g h i j l m n o p q:=aS_ (ax_.cx) f66 8 k (gP a::.bad::.bad::nL b c 5::gI d::.bx [.str e,.int .i64 f,.int .i64 g,.str h,.str i]::.bx [.str j,.int .i64 l,.str m,.str n,.sl o p 3]::gI q::B 84 [])
theorem nv_:ar_ ax_.cx f66 (k+1) [x] H Q=ax_.l3 k x none 0 0 H Q:=zz
theorem ax_.l3_eq:ax_.l3 (k+1) x y n i H Q=fh x H 5 i (cH x H 5 0 i i (λa b=>ah H a (b+tN i*5) λc=>aq H a (b+tN i*5+1) λd=>aq H a (b+tN i*5+1+1) λe=>dD H a (b+tN i*5+1+1+1) H a (b+tN i*5+1+1+1+1) λa b=>ax_.l8 k x y n i c d e a b c e a b none 0 0 H Q)) (dZ Q y n 5 H):=zz
theorem ax_.l8_eq:ax_.l8 (k+1) x y n i s j h t r S g R e z m I H Q=cD x H 4 I (dl x H 4 0 I I (λa b=>aq H a (b+tN I*4) λc=>ah H a (b+tN I*4+1) λd=>aq H a (b+tN I*4+1+1) λf=>aD H a (b+tN I*4+1+1+1) λa=>aG aO_ [x,f] H λb f=>bj c j (bf 0 f (ff x b 3 0 f f (λc l=>ah b c (l+tN f*3+1+1) λc=>dN b 108 3 40 z m [d,c,a] λa b c=>ax_.l8 k x y n i s j h t r S g R e a b (ae_ .i64 (I+1)) c Q)) (ax_.l8 k x y n i s j h t r S g R e z m (ae_ .i64 (I+1)) b Q)) (ax_.l8 k x y n i s j h t r S g R e z m (ae_ .i64 (I+1)) b Q))) (dN H 52 5 80 y n [S,g,R,e,.sl z m 3] (λa b c=>ax_.l3 k x a b (ae_ .i64 (i+1)) c Q)):=zz
def ea_:an_ prog 66 (ax_):=sO (eZ dA_ func55 eN) nO func66
def co_.cx:Cx:=⟨tys,[],[(2,[0,1,5])],[],[],av_,[.tmp 4]⟩
def co_:=fF co_.cx f95
def co_.l2 k a b c d:=aS_ (co_.cx) f95 2 k (nL a b 5::gS c::B 3 (gI d::B 14 []))
theorem Bv_:ar_ co_.cx f95 (k+1) [nL x n 5,s] H Q=co_.l2 k x n s 0 H Q:=zz
theorem co_.l2_eq:co_.l2 (k+1) x n s i H Q=bV i n (bq (leI 0 i&&ltI i (nI n)) x H (tN i*5) (λa=>dW a s (Q i H) (co_.l2 k x n s (ae_ .i64 (i+1)) H Q))) (eF Q .i64 (-1) H):=zz
def kT_:an_ prog 95 (co_):=sO eN nO func95
def aV_.cx:Cx:=⟨tys,[],[(4,[0,3,5]),(11,[0,7,8])],[],[(51,bf_),(53,bW_),(95,co_)],av_,[.tmp 4]⟩
def aV_:=fF aV_.cx f77
def aV_.l4 k a b c d e f g h i:=aS_ (aV_.cx) f77 4 k (nL a b 5::.bad::.bad::.bx [.str c,.int .i64 d,.str e,.str f,.sl g h 3]::.bad::gI i::B 105 [])
def aV_.l11 k a b c d:=aS_ (aV_.cx) f77 11 k (nL a b 5::B 6 (gS c::gI d::B 102 []))
theorem sC_:ar_ aV_.cx f77 (k+1) [nL x n 5,.agg [s,i,t,r,.sl y m 3]] H Q=bK bf_ [s] H Q λa=>dA i 0 Q a (dA 2 i Q a (dA 3 (sz r) Q a (bV 4 m (aS Q a) (aV_.l4 k x n s i t r y m 0 a Q)))):=zz
theorem aV_.l4_eq:aV_.l4 (k+1) x n s i t r y m j H Q=bV j m (dt (leI 0 j&&ltI j (nI m)) y H (tN j*3) H H (λa b c=>bK bW_ [a] H Q λd=>dA 6 (sz b) Q d (cq_ c (bj i 1 (aS Q d) (aw 0 j (eU (leI 0 (ae_ .i64 (j-1))&&ltI (ae_ .i64 (j-1)) (nI m)) y d (tN (ae_ .i64 (j-1))*3) a a (aS Q d) (aV_.l4 k x n s i t r y m (ae_ .i64 (j+1)) d Q)) (aV_.l4 k x n s i t r y m (ae_ .i64 (j+1)) d Q))) (aw 0 j (eU (leI 0 (ae_ .i64 (j-1))&&ltI (ae_ .i64 (j-1)) (nI m)) y d (tN (ae_ .i64 (j-1))*3) a a (aS Q d) (aV_.l4 k x n s i t r y m (ae_ .i64 (j+1)) d Q)) (aV_.l4 k x n s i t r y m (ae_ .i64 (j+1)) d Q))))) (aV_.l11 k x n t 0 H Q):=zz
theorem aV_.l11_eq:aV_.l11 (k+1) x n s i H Q=eM s [] (aG co_ [nL x n 5,s] H (λa b=>dA b 0 Q a (cp (leI 0 b&&ltI b (nI n)) x a (tN b*5) (λc=>cU c 2 Q a (dA 6 i Q a (aB (leI 0 b&&ltI b (nI n)) x (λc d=>ah a c (d+tN b*5+2) λb=>aV_.l11 k x n b (ae_ .i64 (i+1)) a Q))))))) (Q true H):=zz
def tA_:an_ prog 77 (aV_):=sO (eZ c5_ func51 (eZ eM_ func53 (eZ kT_ func95 eN))) nO func77
def aW_.cx:Cx:=⟨tys,[],[(4,[0,3])],[],[(77,aV_)],av_,[.tmp 2]⟩
def aW_:=fF aW_.cx f29
def aW_.l4 k a b c:=aS_ (aW_.cx) f29 4 k (nL a b 5::.bad::.bad::gI c::B 34 [])
theorem qJ_:ar_ aW_.cx f29 (k+1) [nL x n 5] H Q=bV 6 n (aS Q H) (aW_.l4 k x n 0 H Q):=zz
theorem aW_.l4_eq:aW_.l4 (k+1) x n i H Q=bV i n (cS (leI 0 i&&ltI i (nI n)) x H (tN i*5) H H H H 3 (λa b c d e f=>bK aV_ [nL x n 5,.agg [a,b,c,d,.sl e f 3]] H Q λa=>aw 0 i (bq (leI 0 i&&ltI i (nI n)) x a (tN i*5) (λb=>eU (leI 0 (ae_ .i64 (i-1))&&ltI (ae_ .i64 (i-1)) (nI n)) x a (tN (ae_ .i64 (i-1))*5) b b (aS Q a) (aW_.l4 k x n (ae_ .i64 (i+1)) a Q))) (aW_.l4 k x n (ae_ .i64 (i+1)) a Q))) (Q true H):=zz
def e5_:an_ prog 29 (aW_):=sO (eZ tA_ func77 eN) nO func29
def bM_.cx:Cx:=⟨tys,[15],[(6,[4,6,7,15]),(11,[6,8,15])],[],[(46,jY_),(74,d3_),(75,bb_),(76,aw_),(66,ax_),(29,aW_)],av_,[.tmp 2,.tmp 3]⟩
def bM_:=fF bM_.cx f28
def bM_.l6 k a b c d e f g:=aS_ (bM_.cx) f28 6 k (B 4 (nL a b 2::.bad::.g (.ptr (some (c,d)))::gI e::B 7 (.g (.ptr (some (f,g)))::B 48 [])))
def bM_.l11 k a b c d e:=aS_ (bM_.cx) f28 11 k (B 6 (.g (.ptr (some (a,b)))::.bad::gI c::B 6 (.g (.ptr (some (d,e)))::B 48 [])))
theorem CO_:ar_ bM_.cx f28 (k+1) [.agg [.sl x n 5]] H Q=du jY_ [.agg [.sl x n 5]] H 2 λa b c d=>cE d 0 Q [.s (.ptr (some (ln a,0))),false] (pu a (.row true 61 [.sl none 0 5,.sl none 0 4,.sl none 0 3])) (bM_.l6 k b c (ln a) 0 0 (ln a) 0 (pu a (.row true 61 [.sl none 0 5,.sl none 0 4,.sl none 0 3])) Q):=zz
theorem bM_.l6_eq:bM_.l6 (k+1) x n m l i o N H Q=bV i n (bn (leI 0 i&&ltI i (nI n)) x H (tN i*2) (λa b c=>ah H a (b+tN i*2+1) λa=>aL d3_ [.g (.ptr (some (m,l))),.agg [c,a]] H Q [.s (.ptr (some (m,l))),false] λa=>bM_.l6 k x n m l (ae_ .i64 (i+1)) o N a Q)) (bM_.l11 k m l 0 o N H Q):=zz
theorem bM_.l11_eq:bM_.l11 (k+1) n m i l o H Q=aX H n (m+0) 5 i (cT H n (m+0) 5 0 i i (λa b=>aq H a (b+tN i*5+1+0) λa=>aG bb_ [.g (.ptr (some (n,m))),a] H λa b=>cE b i Q [.s (.ptr (some (n,m))),false] a (bM_.l11 k n m (ae_ .i64 (i+1)) l o a Q))) (aj aw_ [.g (.ptr (some (n,m)))] H (λa b=>cq_ b (aE ax_ [.g (.ptr (some (n,m)))] a 5 (λa b c=>aj aW_ [nL b c 5] a λa b=>ax Q [.s (.ptr (some (n,m))),b] a)) (ax Q [.s (.ptr (some (n,m))),false] a))):=zz
def iX_:an_ prog 28 (bM_):=sO (eZ BE_ func46 (eZ pn_ func74 (eZ ha_ func75 (eZ nc_ func76 (eZ ea_ func66 (eZ e5_ func29 eN)))))) nO func28
def aQ_.cx:Cx:=⟨tys,[],[(2,[0,1,5])],[],[],av_,[.tmp 4]⟩
def aQ_:=fF aQ_.cx f52
def aQ_.l2 k a b c:=aS_ (aQ_.cx) f52 2 k (gP a::gS b::B 3 (gI c::B 20 []))
theorem n2_:ar_ aQ_.cx f52 (k+1) [x,s] H Q=aQ_.l2 k x s 0 H Q:=zz
theorem aQ_.l2_eq:aQ_.l2 (k+1) x s i H Q=fh x H 5 i (cH x H 5 0 i i (λa b=>ah H a (b+tN i*5+0) λa=>dW a s (Q i H) (aQ_.l2 k x s (ae_ .i64 (i+1)) H Q))) (eF Q .i64 (-1) H):=zz
def ek_:an_ prog 52 (aQ_):=sO eN nO func52
def aT_.cx:Cx:=⟨tys,[],[(3,[0,2,7,8])],[],[(52,aQ_)],av_,[.tmp 6]⟩
def aT_:=fF aT_.cx f54
def aT_.l3 k a b c d:=aS_ (aT_.cx) f54 3 k (gP a::.bad::gS b::B 4 (gI c::gI d::B 43 []))
theorem m3_:ar_ aT_.cx f54 (k+1) [x,s,t] H Q=dz x H 5 λa b c d=>aG aQ_ [x,s] H λe f=>bU e a (b+0) 5 (nL c d 5) (cN (leI 0 f&&ltI f (nI d)) c e (tN f*5) (λa=>aT_.l3 k x t a 0 e Q)):=zz
theorem aT_.l3_eq:aT_.l3 (k+1) x s i j H Q=cD x H 4 j (dl x H 4 0 j j (λa b=>aq H a (b+tN j*4+0) λa=>bj a i (dl x H 4 0 j j (λa b=>ah H a (b+tN j*4+1) λa=>dW a s (Q j H) (aT_.l3 k x s i (ae_ .i64 (j+1)) H Q))) (aT_.l3 k x s i (ae_ .i64 (j+1)) H Q))) (eF Q .i64 (-1) H):=zz
def ii_:an_ prog 54 (aT_):=sO (eZ ek_ func52 eN) nO func54
def hz_.cx:Cx:=⟨tys,[],[],[],[(28,bM_),(51,bf_),(52,aQ_),(53,bW_),(54,aT_),(55,aO_)],av_,[.tmp 6,.tmp 7]⟩
def hz_:=fF hz_.cx f16
theorem yH_:ar_ hz_.cx f16 (k+1) [.agg [.sl x n 5],s,t] H Q=fk bM_ [.agg [.sl x n 5]] H Q [mkS [],nN 2000] λa b=>aL bf_ [s] a Q [mkS [],nN 1901] λa=>aG aQ_ [b,s] a λa c=>dV c 0 Q [mkS [],nN 1903] a (aL bW_ [t] a Q [mkS [],nN 1907] (λa=>aG aT_ [b,s,t] a λa c=>dV c 0 Q [mkS [],nN 1908] a (pS b (λc d=>aa a c (d+2) 3 λe f=>pS b λg h=>aa a g (h+1) 4 λi j=>aG aT_ [b,s,t] a λa l=>aa a g (h+1) 4 λg h=>eqv (nL i j 4) (nL g h 4) (fp a c (d+2) 3 (nL e f 3) (aB (leI 0 l&&ltI l (nI j)) i (λg h=>aq a g (h+tN l*4+2) λg=>aG aO_ [b,g] a λa b=>fp a c (d+2) 3 (nL e f 3) (aB (leI 0 b&&ltI b (nI f)) e (λc d=>ah a c (d+tN b*3+1+1) λb=>ax Q [b,nN 0] a))))))))):=zz
def yT_:an_ prog 16 (hz_):=sO (eZ iX_ func28 (eZ c5_ func51 (eZ ek_ func52 (eZ eM_ func53 (eZ ii_ func54 (eZ dA_ func55 eN)))))) nO func16
def d2_.cx:Cx:=⟨tys,[],[],[],[],av_,[.tmp 2]⟩
def d2_:=fF d2_.cx f113
theorem pz_:ar_ d2_.cx f113 (k+1) [x] H Q=bY x H λa=>pj_ H a λa=>bX x H λb=>pj_ H b λb=>bv x H λc=>pj_ H c λc=>Q (ae_ .i64 (ae_ .i64 (nI a+nI b)+nI c)) H:=zz
def po_:an_ prog 113 (d2_):=sO eN nO func113
def aE_.cx:Cx:=⟨tys,[],[(3,[0,3,13]),(8,[3,6,25]),(1000016,[135]),(1000028,[136])],[],[],av_,[.tmp 2]⟩
def aE_:=fF aE_.cx f158
def aE_.l3 k a b c d:=aS_ (aE_.cx) f158 3 k (gP a::.bad::.bad::gM b::B 9 (.g (.ptr (some (c,d)))::B 26 []))
def aE_.l8 k a b c d e:=aS_ (aE_.cx) f158 8 k (B 3 (gM a::.bad::.bad::nL b c 2::B 18 (.g (.ptr (some (d,e)))::B 14 [])))
theorem ma_:ar_ aE_.cx f158 (k+1) [x] H Q=bY x (pu H (.map [] 0)) λa=>rng (pu H (.map [] 0)) a λa=>aE_.l3 k x (some (ln H)) (ln (pu H (.map [] 0))) 0 a Q:=zz
theorem aE_.l3_eq:aE_.l3 (k+1) x a n m H Q=cI H n m n m (λb=>bX x b λc=>rng b c λc=>aE_.l8 k a none 0 (ln b) 0 c Q) λb c d=>dm c λ_=>bm d λc d=>eQ c λc _=>cY c (dY b a [.int .i64] d true (λb=>aE_.l3 k x a n m b Q)):=zz
theorem aE_.l8_eq:aE_.l8 (k+1) a x n m l H Q=cI H m l m l (λa=>dZ Q x n 2 a) λb c d=>bm c λc e=>cV c λc=>bm d λd _=>eO d (da b a [.int .i64] e false (λd _=>rS d λd=>dB d λd=>aC d (dN b 144 2 24 x n [e,c] (λb c d=>aE_.l8 k a b c m l d Q)) (aE_.l8 k a x n m l b Q))):=zz
def mj_:an_ prog 158 (aE_):=sO eN nO func158
def b3_.cx:Cx:=⟨tys,[],[],[],[],av_,[]⟩
def b3_:=fF b3_.cx f116
theorem m7_:ar_ b3_.cx f116 (k+1) [x,.agg [i,s]] H Q=bX x H λa=>sI_ H a true [.int .i64,.str] (.a [i,s]) (.a [nN 0,false]) λa _=>bm a λa b=>eO a (bX x H (λa=>DQ_ H a true [.int .i64,.str] (.a [i,s]) λa=>bv x a λc=>ew a c [.int .i64] b (.a [nN 0,mkS []]) λc d=>cV c λc=>bj (ae_ .i64 (d-1)) 0 (bv x a (λc=>DQ_ a c false [.int .i64] b λa=>ax Q [] a)) (bv x a (λe=>dY a e [.int .i64] b (.a [ae_ .i64 (d-1),c]) λa=>ax Q [] a)))):=zz
def gm_:an_ prog 116 (b3_):=sO eN nO func116
def bv_.cx:Cx:=⟨tys,[],[(1,[0,5,6,7])],[],[(158,aE_),(116,b3_)],av_,[]⟩
def bv_:=fF bv_.cx f114
def bv_.l1 k a b c d e:=aS_ (bv_.cx) f114 1 k (gP a::B 4 (nL b c 2::gI d::gI e::B 7 []))
theorem ol_:ar_ bv_.cx f114 (k+1) [x] H Q=aE aE_ [x] H 2 λa b c=>bv_.l1 k x b c (nI c) 0 a Q:=zz
theorem bv_.l1_eq:bv_.l1 (k+1) x y n i j H Q=aw j i (aB (leI 0 j&&ltI j (nI n)) y (λa b=>aq H a (b+tN j*2) λc=>ah H a (b+tN j*2+1) λa=>cl b3_ [x,.agg [c,a]] H λ_ a=>bv_.l1 k x y n i (ae_ .i64 (j+1)) a Q)) (ax Q [] H):=zz
def oc_:an_ prog 114 (bv_):=sO (eZ mj_ func158 (eZ gm_ func116 eN)) nO func114
def kw_.cx:Cx:=⟨tys,[7],[],[],[(103,c4_)],av_,[.tmp 2,.tmp 3]⟩
def kw_:=fF kw_.cx f189
theorem A6_:ar_ kw_.cx f189 (k+1) [s] H Q=dR c4_ [s] H Q [mkS [],nN 1600] (.row true 5 [.int .u8 115]) 1 s Q (nN 0):=zz
def Bh_:an_ prog 189 (kw_):=sO (eZ gh_ func103 eN) nO func189
def jX_.cx:Cx:=⟨tys,[17],[],[],[(217,hU_)],av_,[.tmp 2,.tmp 3]⟩
def jX_:=fF jX_.cx f190
theorem Bo_:ar_ jX_.cx f190 (k+1) [.agg [i,j,s,t]] H Q=db hU_ [.agg [i,j,s,t]] H Q [mkS [],nN 1700] (.row true 5 [.int .u8 (ae_ .u8 i),.int .u8 (ae_ .u8 j),.int .u8 (ae_ .u8 (sz s))]) 3 λa b=>Iv_ b s λb=>di b t Q (nN 0) (pu a (.row true 5 [.int .u8 (ae_ .u8 i),.int .u8 (ae_ .u8 j),.int .u8 (ae_ .u8 (sz s))])):=zz
def BL_:an_ prog 190 (jX_):=sO (eZ uu_ func217 eN) nO func190
def ka_.cx:Cx:=⟨tys,[16],[],[],[(218,gy_),(49,dr_)],av_,[.tmp 4,.tmp 5]⟩
def ka_:=fF ka_.cx f191
theorem Bx_:ar_ ka_.cx f191 (k+1) [i,s] H Q=aL gy_ [i] H Q [mkS [],nN 1600] λa=>dR dr_ [s] a Q [mkS [],nN 1600] (.row true 5 [.int .u8 102,.int .u8 (ae_ .u8 i)]) 2 s Q (nN 0):=zz
def CK_:an_ prog 191 (ka_):=sO (eZ jN_ func218 (eZ hk_ func49 eN)) nO func191
def iA_.cx:Cx:=⟨tys,[9],[],[],[(218,gy_)],av_,[.tmp 2,.tmp 3]⟩
def iA_:=fF iA_.cx f192
theorem AK_:ar_ iA_.cx f192 (k+1) [i] H Q=db gy_ [i] H Q [mkS [],nN 1600] (.row true 5 [.int .u8 105,.int .u8 (ae_ .u8 i)]) 2 λa b=>ax Q [b,nN 0] (pu a (.row true 5 [.int .u8 105,.int .u8 (ae_ .u8 i)])):=zz
def Az_:an_ prog 192 (iA_):=sO (eZ jN_ func218 eN) nO func192
def io_.cx:Cx:=⟨tys,[10],[],[],[(219,gV_)],av_,[.tmp 2,.tmp 3]⟩
def io_:=fF io_.cx f193
theorem AV_:ar_ io_.cx f193 (k+1) [.agg [i,s]] H Q=dR gV_ [.agg [i,s]] H Q [mkS [],nN 1800] (.row true 5 [.int .u8 (ae_ .u8 i)]) 1 s Q (nN 0):=zz
def Ae_:an_ prog 193 (io_):=sO (eZ rs_ func219 eN) nO func193
def ap_.cx:Cx:=⟨tys,[66],[(3,[0,3,22]),(8,[0,3,44]),(16,[3,72]),(1000025,[135]),(1000047,[136]),(1000075,[137])],[(14,[0,3,9,10,12,44])],[(189,kw_),(190,jX_),(191,ka_),(192,iA_),(193,io_)],av_,[.tmp 2]⟩
def ap_:=fF ap_.cx f159
def ap_.l3 k a b c d:=aS_ (ap_.cx) f159 3 k (gP a::.bad::.bad::gM b::B 18 (.g (.ptr (some (c,d)))::B 68 []))
def ap_.l8 k a b c d:=aS_ (ap_.cx) f159 8 k (gP a::.bad::.bad::gM b::B 40 (.g (.ptr (some (c,d)))::B 46 []))
def ap_.l14 k a b c d e f g h:=aS_ (ap_.cx) f159 14 k (gP a::.bad::.bad::gM b::B 5 (.bx [.int .i64 c,.bool d]::gS e::.bad::.g (.int .u8 f)::B 31 (.g (.ptr (some (g,h)))::B 46 [])))
def ap_.l16 k a b c:=aS_ (ap_.cx) f159 16 k (B 3 (gM a::B 68 (.g (.ptr (some (b,c)))::B 18 [])))
theorem mn_:ar_ ap_.cx f159 (k+1) [x] H Q=bY x (pu H (.map [] 0)) λa=>rng (pu H (.map [] 0)) a λa=>ap_.l3 k x (some (ln H)) (ln (pu H (.map [] 0))) 0 a Q:=zz
theorem ap_.l3_eq:ap_.l3 (k+1) x a n m H Q=cI H n m n m (λb=>bX x b λc=>rng b c λc=>ap_.l8 k x a (ln b) 0 c Q) λb c d=>dm c λc=>bm d λd e=>aO d λd f=>aT d λd g=>cV d λd=>dE kw_ [c] b λb c=>dE jX_ [.agg [e,f,g,d]] b λb d=>dY b a [.str] c d λb=>ap_.l3 k x a n m b Q:=zz
theorem ap_.l8_eq:ap_.l8 (k+1) x a n m H Q=cI H n m n m (λb=>bv x b λc=>rng b c λc=>ap_.l16 k a (ln b) 0 c Q) λb c d=>bm c λc e=>cV c λc=>bm d λd f=>aR d λd g=>uN d (dE ka_ [e,c] b (λb c=>cq_ g (ap_.l14 k x a f g c 1 n m b Q) (ap_.l14 k x a f g c 0 n m b Q))):=zz
theorem ap_.l14_eq:ap_.l14 (k+1) x a i b s j n m H Q=rdN (pu H (.row true 5 [.int .u8 (ae_ .u8 i),.int .u8 j])) (some (ln H,0)) 2 λb=>txt b λb=>dY (pu H (.row true 5 [.int .u8 (ae_ .u8 i),.int .u8 j])) a [.str] s b λb=>ap_.l8 k x a n m b Q:=zz
theorem ap_.l16_eq:ap_.l16 (k+1) a n m H Q=cI H n m n m (λb=>cW Q (.map a) b) λb c d=>rS c λc=>ai c λc=>bm d λd e=>cV d λd=>dE iA_ [c] b λb c=>dE io_ [.agg [e,d]] b λb d=>dY b a [.str] c d λb=>ap_.l16 k a n m b Q:=zz
def l5_:an_ prog 159 (ap_):=sO (eZ Bh_ func189 (eZ BL_ func190 (eZ CK_ func191 (eZ Az_ func192 (eZ Ae_ func193 eN))))) nO func159
def cE_.cx:Cx:=⟨tys,[],[(3,[0,1,6,9,10,11])],[],[],av_,[.tmp 4,.tmp 5]⟩
def cE_:=fF cE_.cx f226
def cE_.l3 k a b c d e f g h:=aS_ (cE_.cx) f226 3 k (nL a b 1::gS c::B 4 (gI d::.bad::.bad::nL e f 1::gI g::gI h::B 22 []))
theorem z9_:ar_ cE_.cx f226 (k+1) [nL x n 1,s] H Q=cE_.l3 k x n s 0 x n (nI n) 0 H Q:=zz
theorem cE_.l3_eq:cE_.l3 (k+1) x n s i y m j h H Q=aw h j (e8 (leI 0 h&&ltI h (nI m)) y H (tN h*1) s (cE_.l3 k x n s (ae_ .i64 (i+1)) y m j (ae_ .i64 (h+1)) H Q) (cE_.l3 k x n s i y m j (ae_ .i64 (h+1)) H Q)) (bV i n (aJ (leI 0 i&&ltI i (nI n)) x H (tN i*1) (λa=>ax Q [i,.s (.bool (er_ a s))] H)) (ax Q [i,false] H)):=zz
def jB_:an_ prog 226 (cE_):=sO eN nO func226
def gM_.cx:Cx:=⟨tys,[],[],[],[(226,cE_)],av_,[.tmp 4]⟩
def gM_:=fF gM_.cx f225
theorem B9_:ar_ gM_.cx f225 (k+1) [x,s] H Q=cJ x H 1 λa b=>cw cE_ [nL a b 1,s] H λa b c=>cq_ c (Q (ae_ .i64 (b+1)) a) (Q b a):=zz
def ok_:an_ prog 225 (gM_):=sO (eZ jB_ func226 eN) nO func225
def dx_.cx:Cx:=⟨tys,[],[(4,[1,2,7]),(2000000,[7])],[],[(201,eh_),(225,gM_),(226,cE_)],av_,[.tmp 4,.tmp 5,.tmp 6]⟩
def dx_:=fF dx_.cx f194
def dx_.l4 k a b c d e:=aS_ (dx_.cx) f194 4 k (.bad::gS a::.bx [.sl b c 5]::B 4 (.g (.ptr (some (d,e)))::B 43 []))
theorem AN_:ar_ dx_.cx f194 (k+1) [.agg [.sl x n 5],s] H Q=aL eh_ [.agg [.sl x n 5]] H Q [mkS [],false,nN 1100] λa=>aB (leI 0 0&&ltI 0 (nI n)) x λb c=>dx_.l4 k s x n b (c+tN 0*5) a Q:=zz
theorem dx_.l4_eq:dx_.l4 (k+1) s x n m l H Q=aD H m (l+1) λa=>aC a (eu H m (l+4) (λa b=>aG gM_ [.g (.ptr (some (m,l))),s] H λc d=>cF c m (l+4) 1 (nL a b 1) (aM (leI 0 d&&ltI d (nI b)) a c (tN d*1) (λa=>aB (leI 0 a&&ltI a (nI n)) x λb d=>dx_.l4 k s x n b (d+tN a*5) c Q)))) (eu H m (l+2) (λa b=>cw cE_ [nL a b 1,s] H λa b c=>aK c Q [mkS [],false,nN 0] a (cT a m (l+3) 1 0 b b (λc d=>ah a c (d+tN b*1) λb=>ax Q [b,true,nN 0] a)))):=zz
def rJ_:an_ prog 194 (dx_):=sO (eZ ku_ func201 (eZ ok_ func225 (eZ jB_ func226 eN))) nO func194
def bC_.cx:Cx:=⟨tys,[],[],[],[],av_,[.tmp 2]⟩
def bC_:=fF bC_.cx f242
theorem iy_:ar_ bC_.cx f242 (k+1) [nL x n 1] H Q=cq_ (isNone x) (dZ Q none 0 1 H) (aP (cO H x (n*1) H 9 1 16 n (λa=>dZ Q (some (ln H,0)) n 1 a))):=zz
def iw_:an_ prog 242 (bC_):=sO eN nO func242
def cQ_.cx:Cx:=⟨tys,[],[],[],[],av_,[.tmp 2]⟩
def cQ_:=fF cQ_.cx f243
theorem lf_:ar_ cQ_.cx f243 (k+1) [nL x n 1] H Q=cq_ (isNone x) (dZ Q none 0 1 H) (aP (cO H x (n*1) H 3 1 8 n (λa=>dZ Q (some (ln H,0)) n 1 a))):=zz
def k3_:an_ prog 243 (cQ_):=sO eN nO func243
def ff_.cx:Cx:=⟨tys,[],[],[],[(242,bC_),(243,cQ_)],av_,[.cell 2 100]⟩
def ff_:=fF ff_.cx f227
theorem zT_:ar_ ff_.cx f227 (k+1) [.agg [b,c,.sl x n 1,.sl y m 1,.sl z l 1]] H Q=aE bC_ [nL x n 1] H 1 λa d e=>aE bC_ [nL y m 1] a 1 λa f g=>aE cQ_ [nL z l 1] a 1 λa h i=>en Q [b,c,.sl d e 1,.sl f g 1,.sl h i 1] a:=zz
def mi_:an_ prog 227 (ff_):=sO (eZ iw_ func242 (eZ k3_ func243 eN)) nO func227
def cH_.cx:Cx:=⟨tys,[],[(3,[2,3,8,9,10])],[],[(227,ff_)],av_,[.cell 2 24]⟩
def cH_:=fF cH_.cx f195
def cH_.l3 k a b c d e f g h:=aS_ (cH_.cx) f195 3 k (.bad::.bad::.bx [.sl a b 5]::.bx [.sl c d 5]::B 4 (nL e f 5::gI g::gI h::B 12 []))
theorem yy_:ar_ cH_.cx f195 (k+1) [.agg [.sl x n 5]] H Q=cH_.l3 k none 0 none 0 x n (nI n) 0 H Q:=zz
theorem cH_.l3_eq:cH_.l3 (k+1) x n y m z l i j H Q=aw j i (dK (leI 0 j&&ltI j (nI l)) z H (tN j*5) H H 1 H 1 H 1 (λa b c d e f g h=>eJ ff_ [.agg [a,b,.sl c d 1,.sl e f 1,.sl g h 1]] H 1 1 1 λa b c d e f g h o=>dN a 100 5 80 y m [b,c,.sl d e 1,.sl f g 1,.sl h o 1] λa b c=>cH_.l3 k x n a b z l i (ae_ .i64 (j+1)) c Q)) (en Q [.sl y m 5] H):=zz
def pN_:an_ prog 195 (cH_):=sO (eZ mi_ func227 eN) nO func195
end Go.Am
