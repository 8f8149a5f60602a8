import Derived.Test.YtiemhjehieipdaaM2
import Derived.Test.YtiemhjehieipdaaProg
import Derived.KernelRfl
import Derived.RangeFuncBox
import Derived.RangeFuncLeaves
import Derived.Shelf.Abstract
import Derived.WalkKit
import Derived.OwnWalkIn
import Derived.TacticsInMore
import Derived.LoopNIn
import Derived.LoopIn
import Derived.Maps.AppendAt
import Derived.Shelf.SortM.Plain
import Derived.Shelf.SortM.SortNone
import Derived.Lib.SlKeysI
import Derived.OpenShut
import Derived.ShutString
import Derived.ChangeOld
import Derived.ProofKit
set_option linter.unusedVariables false
set_option linter.unusedSimpArgs false
namespace Go.Am
def tys : List TI := [
⟨false, [], 0, [], 0, 4, [], 0⟩,
⟨false, [.fn], 0, [], 8, 0, [], 0⟩,
⟨false, [(.int .i64)], 0, [], 8, 0, [], 0⟩,
⟨false, [(.int .i64)], 0, [], 8, 0, [], 0⟩,
⟨false, [.bool], 0, [], 1, 0, [], 0⟩,
⟨false, [(.int .u8)], 0, [], 1, 0, [], 0⟩,
⟨false, [(.int .u8)], 0, [], 1, 0, [], 0⟩,
⟨true, [(.int .i64), (.int .i64), .bool, (.int .u8)], 1, [(0, 2), (1, 3), (2, 4), (3, 6)], 24, 0, [], 0⟩,
⟨true, [(.int .i64), (.int .i64), .bool, (.int .u8)], 1, [(0, 2), (1, 3), (2, 4), (3, 6)], 24, 0, [], 0⟩,
⟨false, [.str], 0, [], 16, 3, [], 0⟩,
⟨false, [.str], 0, [], 16, 3, [], 0⟩,
⟨false, [.str], 0, [], 16, 3, [], 0⟩,
⟨false, [(.int .u64)], 0, [], 8, 0, [], 0⟩,
⟨true, [.str, (.int .u64)], 0, [(0, 9), (1, 12)], 24, 0, [], 0⟩,
⟨true, [.str, (.int .u64)], 0, [(0, 9), (1, 12)], 24, 0, [], 0⟩,
⟨false, [.ptr], 186, [], 8, 2, [], 0⟩,
⟨false, [.ptr], 189, [], 8, 2, [], 0⟩,
⟨false, [.ptr], 197, [], 8, 2, [], 0⟩,
⟨true, [.ptr], 0, [(0, 17)], 8, 0, [], 0⟩,
⟨true, [.ptr], 0, [(0, 17)], 8, 0, [], 0⟩,
⟨false, [.iface], 0, [], 16, 0, [], 0⟩,
⟨false, [(.int .i32)], 0, [], 4, 0, [], 0⟩,
⟨false, [(.sl 1)], 3, [], 24, 1, [], 0⟩,
⟨false, [.fn], 0, [], 8, 0, [], 0⟩,
⟨true, [.bool, .bool, .bool, .bool, .bool, .bool, .bool, .bool, .bool, .bool, .bool, .bool, .bool, .bool, .bool, .bool, .bool, .bool, .bool, .bool, .bool, .bool, .bool, .bool, .bool, .bool, .bool, .bool, .bool, .bool, .bool, .bool, .bool, .bool, .bool, .bool, .bool, .bool, .bool, .bool, .bool, .bool, .bool, .bool, .bool, .bool, .bool, .bool, .bool, .bool, .bool, .bool, .bool, .bool, .bool, .bool, .bool, .bool, .bool, .bool, .bool, .bool, .bool, .bool, .bool, .bool, .bool, .bool, .bool, .bool, .bool, .bool, .bool, .bool, .bool, .bool, .bool, .bool, .bool, .bool, .bool, .bool, .bool, .bool, .bool, .bool, .bool, .bool, .bool, .bool, .bool, .bool, .bool, .bool, .bool, .bool, .bool, .bool, .bool, .bool, .bool, .bool, .bool, .bool, .bool, .bool, .bool, .bool, .bool, .bool, .bool, .bool, .bool, .bool, .bool, .bool, .bool, .bool, .bool, .bool, .bool, .bool, .bool, .bool, .bool, .bool, .bool, .bool, .bool, .bool, .bool, .bool, .bool, .bool, .bool, .bool, .bool, .bool, .bool, .bool, .bool, .bool, .bool, .bool, .bool, .bool, .bool, .bool, .bool, .bool, .bool, .bool, .bool, .bool, .bool, .bool, .bool, .bool, .bool, .bool, .bool, .bool, .bool, .bool, .bool, .bool, .bool, .bool, .bool, .bool, .bool, .bool, .bool, .bool, .bool, .bool, .bool, .bool, .bool, .bool, .bool, .bool, .bool, .bool, .bool, .bool, .bool, .bool, .bool, .bool, .bool, .bool, .bool, .bool, .bool, .bool, .bool, .bool, .bool, .bool, .bool, .bool, .bool, .bool, .bool, .bool, .bool, .bool, .bool, .bool, .bool, .bool, .bool, .bool, .bool, .bool, .bool, .bool, .bool, .bool, .bool, .bool, .bool, .bool, .bool, .bool, .bool, .bool, .bool, .bool, .bool, .bool, .bool, .bool, .bool, .bool, .bool, .bool, .bool, .bool, .bool, .bool, .bool, .bool, .bool, .bool, .bool, .bool, .bool, .bool, .bool, .bool, .bool, .bool, .bool, .bool], 4, [], 256, 6, [], 256⟩,
⟨false, [(.sl 1)], 9, [], 24, 1, [], 0⟩,
⟨false, [(.sl 1)], 5, [], 24, 1, [], 0⟩,
⟨false, [], 0, [(0, 3), (0, 4)], 0, 4, [], 0⟩,
⟨false, [.fn], 0, [], 8, 0, [], 0⟩,
⟨false, [.fn], 0, [], 8, 0, [], 0⟩,
⟨false, [(.int .i64)], 0, [], 8, 0, [], 0⟩,
⟨false, [.fn], 0, [], 8, 0, [], 0⟩,
⟨false, [(.sl 5)], 41, [], 24, 1, [], 0⟩,
⟨true, [(.sl 5)], 0, [(0, 32)], 24, 0, [], 0⟩,
⟨true, [(.sl 5)], 0, [(0, 32)], 24, 0, [], 0⟩,
⟨false, [.fn], 0, [], 8, 0, [], 0⟩,
⟨false, [.fn], 0, [], 8, 0, [], 0⟩,
⟨false, [(.sl 2)], 53, [], 24, 1, [], 0⟩,
⟨false, [], 0, [(0, 37), (0, 3)], 0, 4, [], 0⟩,
⟨false, [.fn], 0, [], 8, 0, [], 0⟩,
⟨true, [.bool, .bool, (.sl 1), (.sl 1), (.sl 1)], 0, [(0, 4), (1, 4), (2, 25), (3, 25), (4, 22)], 80, 0, [], 0⟩,
⟨true, [.bool, .bool, (.sl 1), (.sl 1), (.sl 1)], 0, [(0, 4), (1, 4), (2, 25), (3, 25), (4, 22)], 80, 0, [], 0⟩,
⟨false, [.fn], 0, [], 8, 0, [], 0⟩,
⟨false, [.fn], 0, [], 8, 0, [], 0⟩,
⟨false, [], 0, [(0, 37), (0, 30)], 0, 4, [], 0⟩,
⟨false, [.fn], 0, [], 8, 0, [], 0⟩,
⟨false, [.fn], 0, [], 8, 0, [], 0⟩,
⟨false, [.fn], 0, [], 8, 0, [], 0⟩,
⟨false, [.fn], 0, [], 8, 0, [], 0⟩,
⟨false, [.fn], 0, [], 8, 0, [], 0⟩,
⟨false, [.fn], 0, [], 8, 0, [], 0⟩,
⟨false, [.fn], 0, [], 8, 0, [], 0⟩,
⟨true, [.str, .str], 1, [(0, 9), (1, 9)], 32, 0, [], 0⟩,
⟨true, [.str, .str], 1, [(0, 9), (1, 9)], 32, 0, [], 0⟩,
⟨false, [.fn], 0, [], 8, 0, [], 0⟩,
⟨false, [.fn], 0, [], 8, 0, [], 0⟩,
⟨false, [.fn], 0, [], 8, 0, [], 0⟩,
⟨false, [.fn], 0, [], 8, 0, [], 0⟩,
⟨false, [], 0, [(0, 34), (0, 3)], 0, 4, [], 0⟩,
⟨false, [.fn], 0, [], 8, 0, [], 0⟩,
⟨false, [], 0, [(0, 9), (0, 4), (0, 30)], 0, 4, [], 0⟩,
⟨false, [.fn], 0, [], 8, 0, [], 0⟩,
⟨false, [], 0, [(0, 9), (0, 4), (0, 3)], 0, 4, [], 0⟩,
⟨false, [.fn], 0, [], 8, 0, [], 0⟩,
⟨false, [.fn], 0, [], 8, 0, [], 0⟩,
⟨false, [.fn], 0, [], 8, 0, [], 0⟩,
⟨false, [(.sl 2)], 76, [], 24, 1, [], 0⟩,
⟨false, [], 0, [(0, 66), (0, 30)], 0, 4, [], 0⟩,
⟨false, [.fn], 0, [], 8, 0, [], 0⟩,
⟨false, [.fn], 0, [], 8, 0, [], 0⟩,
⟨true, [(.int .i64), (.int .i64)], 1, [(0, 3), (1, 3)], 16, 0, [], 0⟩,
⟨true, [(.int .i64), (.int .i64)], 1, [(0, 3), (1, 3)], 16, 0, [], 0⟩,
⟨true, [(.int .i64), (.int .i64), (.int .i64), (.int .i64), (.sl 1)], 0, [(0, 71), (2, 3), (3, 3), (4, 25)], 56, 0, [], 0⟩,
⟨true, [(.int .i64), (.int .i64), (.int .i64), (.int .i64), (.sl 1)], 0, [(0, 71), (2, 3), (3, 3), (4, 25)], 56, 0, [], 0⟩,
⟨false, [.fn], 0, [], 8, 0, [], 0⟩,
⟨true, [(.int .i64), .str], 1, [(0, 3), (1, 9)], 24, 0, [], 0⟩,
⟨true, [(.int .i64), .str], 1, [(0, 3), (1, 9)], 24, 0, [], 0⟩,
⟨false, [], 0, [(0, 34), (0, 30)], 0, 4, [], 0⟩,
⟨false, [.fn], 0, [], 8, 0, [], 0⟩,
⟨false, [], 0, [(0, 34), (0, 4), (0, 30)], 0, 4, [], 0⟩,
⟨false, [.fn], 0, [], 8, 0, [], 0⟩,
⟨false, [], 0, [(0, 34), (0, 4), (0, 3)], 0, 4, [], 0⟩,
⟨false, [.fn], 0, [], 8, 0, [], 0⟩,
⟨false, [.fn], 0, [], 8, 0, [], 0⟩,
⟨false, [(.int .u64)], 0, [], 8, 0, [], 0⟩,
⟨false, [.fn], 0, [], 8, 0, [], 0⟩,
⟨false, [.fn], 0, [], 8, 0, [], 0⟩,
⟨false, [], 0, [(0, 41), (0, 9), (0, 41), (0, 30)], 0, 4, [], 0⟩,
⟨false, [.fn], 0, [], 8, 0, [], 0⟩,
⟨false, [], 0, [(0, 41), (0, 30)], 0, 4, [], 0⟩,
⟨false, [.fn], 0, [], 8, 0, [], 0⟩,
⟨false, [.fn], 0, [], 8, 0, [], 0⟩,
⟨false, [.fn], 0, [], 8, 0, [], 0⟩,
⟨false, [.fn], 0, [], 8, 0, [], 0⟩,
⟨false, [.ptr], 34, [], 8, 2, [], 0⟩,
⟨false, [.fn], 0, [], 8, 0, [], 0⟩,
⟨false, [.fn], 0, [], 8, 0, [], 0⟩,
⟨false, [.fn], 0, [], 8, 0, [], 0⟩,
⟨false, [.fn], 0, [], 8, 0, [], 0⟩,
⟨false, [.fn], 0, [], 8, 0, [], 0⟩,
⟨true, [(.sl 5), (.sl 1)], 0, [(0, 32), (1, 25)], 48, 0, [], 0⟩,
⟨true, [(.sl 5), (.sl 1)], 0, [(0, 32), (1, 25)], 48, 0, [], 0⟩,
⟨false, [.fn], 0, [], 8, 0, [], 0⟩,
⟨false, [.fn], 0, [], 8, 0, [], 0⟩,
⟨false, [.ptr], 41, [], 8, 2, [], 0⟩,
⟨false, [.fn], 0, [], 8, 0, [], 0⟩,
⟨false, [.fn], 0, [], 8, 0, [], 0⟩,
⟨false, [], 0, [(0, 9), (0, 30)], 0, 4, [], 0⟩,
⟨false, [.fn], 0, [], 8, 0, [], 0⟩,
⟨false, [.fn], 0, [], 8, 0, [], 0⟩,
⟨false, [.fn], 0, [], 8, 0, [], 0⟩,
⟨false, [.ptr], 145, [], 8, 2, [], 0⟩,
⟨false, [], 0, [(0, 111), (0, 4)], 0, 4, [], 0⟩,
⟨false, [.fn], 0, [], 8, 0, [], 0⟩,
⟨false, [.ptr], 116, [], 8, 2, [], 0⟩,
⟨true, [(.sl 5)], 0, [(0, 32)], 24, 0, [], 0⟩,
⟨true, [(.sl 5)], 0, [(0, 32)], 24, 0, [], 0⟩,
⟨false, [.fn], 0, [], 8, 0, [], 0⟩,
⟨false, [.fn], 0, [], 8, 0, [], 0⟩,
⟨false, [], 0, [(0, 41), (0, 9), (0, 41)], 0, 4, [], 0⟩,
⟨false, [.fn], 0, [], 8, 0, [], 0⟩,
⟨false, [.fn], 0, [], 8, 0, [], 0⟩,
⟨false, [.fn], 0, [], 8, 0, [], 0⟩,
⟨false, [.fn], 0, [], 8, 0, [], 0⟩,
⟨false, [.fn], 0, [], 8, 0, [], 0⟩,
⟨false, [.fn], 0, [], 8, 0, [], 0⟩,
⟨false, [.ptr], 129, [], 8, 2, [], 0⟩,
⟨false, [(.sl 1)], 4, [], 24, 1, [], 0⟩,
⟨true, [(.sl 5), (.sl 1), (.int .i64), (.int .i64)], 0, [(0, 32), (1, 127), (2, 3), (3, 3)], 64, 0, [], 0⟩,
⟨true, [(.sl 5), (.sl 1), (.int .i64), (.int .i64)], 0, [(0, 32), (1, 127), (2, 3), (3, 3)], 64, 0, [], 0⟩,
⟨false, [.fn], 0, [], 8, 0, [], 0⟩,
⟨true, [.str, .str, .bool], 1, [(0, 9), (1, 9), (2, 4)], 40, 0, [], 0⟩,
⟨true, [.str, .str, .bool], 1, [(0, 9), (1, 9), (2, 4)], 40, 0, [], 0⟩,
⟨false, [.fn], 0, [], 8, 0, [], 0⟩,
⟨false, [.fn], 0, [], 8, 0, [], 0⟩,
⟨false, [.fn], 0, [], 8, 0, [], 0⟩,
⟨false, [.fn], 0, [], 8, 0, [], 0⟩,
⟨false, [.fn], 0, [], 8, 0, [], 0⟩,
⟨false, [.fn], 0, [], 8, 0, [], 0⟩,
⟨false, [.ptr], 141, [], 8, 2, [], 0⟩,
⟨true, [.str], 1, [(0, 9)], 16, 0, [], 0⟩,
⟨true, [.str], 1, [(0, 9)], 16, 0, [], 0⟩,
⟨false, [.fn], 0, [], 8, 0, [], 0⟩,
⟨false, [.fn], 0, [], 8, 0, [], 0⟩,
⟨true, [(.sl 1), (.int .i64), (.int .i64), .bool], 0, [(0, 127), (1, 3), (2, 3), (3, 4)], 48, 0, [], 0⟩,
⟨true, [(.sl 1), (.int .i64), (.int .i64), .bool], 0, [(0, 127), (1, 3), (2, 3), (3, 4)], 48, 0, [], 0⟩,
⟨false, [.fn], 0, [], 8, 0, [], 0⟩,
⟨false, [.fn], 0, [], 8, 0, [], 0⟩,
⟨false, [.fn], 0, [], 8, 0, [], 0⟩,
⟨false, [.fn], 0, [], 8, 0, [], 0⟩,
⟨false, [.fn], 0, [], 8, 0, [], 0⟩,
⟨false, [.fn], 0, [], 8, 0, [], 0⟩,
⟨false, [.fn], 0, [], 8, 0, [], 0⟩,
⟨false, [.fn], 0, [], 8, 0, [], 0⟩,
⟨false, [.fn], 0, [], 8, 0, [], 0⟩,
⟨false, [.fn], 0, [], 8, 0, [], 0⟩,
⟨false, [.fn], 0, [], 8, 0, [], 0⟩,
⟨false, [.fn], 0, [], 8, 0, [], 0⟩,
⟨false, [.fn], 0, [], 8, 0, [], 0⟩,
⟨false, [.fn], 0, [], 8, 0, [], 0⟩,
⟨false, [.fn], 0, [], 8, 0, [], 0⟩,
⟨false, [.fn], 0, [], 8, 0, [], 0⟩,
⟨false, [.fn], 0, [], 8, 0, [], 0⟩,
⟨false, [.fn], 0, [], 8, 0, [], 0⟩,
⟨false, [.fn], 0, [], 8, 0, [], 0⟩,
⟨false, [.fn], 0, [], 8, 0, [], 0⟩,
⟨false, [(.int .i64)], 0, [], 8, 0, [], 0⟩,
⟨false, [], 0, [(0, 3), (0, 166)], 0, 4, [], 0⟩,
⟨false, [.fn], 0, [], 8, 0, [], 0⟩,
⟨false, [.fn], 0, [], 8, 0, [], 0⟩,
⟨false, [.fn], 0, [], 8, 0, [], 0⟩,
⟨false, [.fn], 0, [], 8, 0, [], 0⟩,
⟨false, [.fn], 0, [], 8, 0, [], 0⟩,
⟨false, [(.int .u32)], 0, [], 4, 0, [], 0⟩,
⟨false, [.fn], 0, [], 8, 0, [], 0⟩,
⟨false, [(.int .u64)], 0, [], 8, 0, [], 0⟩,
⟨false, [(.int .u64)], 0, [], 8, 0, [], 0⟩,
⟨false, [.fn], 0, [], 8, 0, [], 0⟩,
⟨false, [.fn], 0, [], 8, 0, [], 0⟩,
⟨false, [.fn], 0, [], 8, 0, [], 0⟩,
⟨false, [.ptr], 3, [], 8, 2, [], 0⟩,
⟨false, [.fn], 0, [], 8, 0, [], 0⟩,
⟨false, [.ptr], 176, [], 8, 2, [], 0⟩,
⟨false, [], 0, [(0, 3), (0, 3)], 0, 4, [], 0⟩,
⟨false, [.fn], 0, [], 8, 0, [], 0⟩,
⟨true, [.ptr, .ptr, .ptr, .str], 0, [(0, 17), (1, 17), (2, 17), (3, 9)], 40, 0, [], 0⟩,
⟨true, [.ptr, .ptr, .ptr, .str], 0, [(0, 17), (1, 17), (2, 17), (3, 9)], 40, 0, [], 0⟩,
⟨true, [], 16, [], 0, 6, [], 0⟩,
⟨true, [], 0, [(0, 187)], 0, 0, [], 0⟩,
⟨true, [], 0, [(0, 187)], 0, 0, [], 0⟩,
⟨false, [(.int .u8)], 0, [], 1, 0, [], 0⟩,
⟨false, [(.int .u8)], 0, [], 1, 0, [], 0⟩,
⟨false, [.fn], 0, [], 8, 0, [], 0⟩,
⟨false, [.ptr], 5, [], 8, 2, [], 0⟩,
⟨false, [(.int .i32)], 0, [], 4, 0, [], 0⟩,
⟨false, [(.int .i32)], 0, [], 4, 0, [], 0⟩,
⟨true, [(.int .u64), (.int .u64), (.int .u32), (.int .u8), (.int .u8), (.int .u8), (.int .u8), .fn, .ptr, (.int .i32), (.int .i32)], 0, [(0, 12), (1, 12), (2, 173), (3, 190), (4, 5), (5, 5), (6, 191), (7, 192), (8, 193), (9, 194), (10, 195)], 48, 0, [], 0⟩,
⟨true, [(.int .u64), (.int .u64), (.int .u32), (.int .u8), (.int .u8), (.int .u8), (.int .u8), .fn, .ptr, (.int .i32), (.int .i32)], 0, [(0, 12), (1, 12), (2, 173), (3, 190), (4, 5), (5, 5), (6, 191), (7, 192), (8, 193), (9, 194), (10, 195)], 48, 0, [], 0⟩,
⟨false, [], 0, [], 8, 0, [], 0⟩]

set_option maxRecDepth 100000 in
theorem prog_ok : ProgOK Go.Proofs.Try.prog tys := ⟨tysOK (by kernel_rfl), by kernel_rfl⟩

end Go.Am
namespace Go.Proofs
open Go.RowKit Go.Shelf

attribute [local go_sem] Oper.semAt_some

/-- what has come behind k rounds -/
def Uq.upto (zs : List Int) (k : Nat) : List Int := (List.range k).map fun j => zs[j]?.getD 0
theorem Uq.upto_succ (zs : List Int) (k : Nat) : Uq.upto zs (k + 1) = Uq.upto zs k ++ [zs[k]?.getD 0] := by simp [Uq.upto, List.range_succ]
theorem Uq.upto_length (zs : List Int) (k : Nat) : (Uq.upto zs k).length = k := by simp [Uq.upto]
theorem Uq.upto_all (zs : List Int) : Uq.upto zs zs.length = zs := by
  apply List.ext_getElem
  · simp [Uq.upto]
  · intro i h1 h2
    simp [Uq.upto, h2]

set_option maxRecDepth 100000 in
set_option maxHeartbeats 2000000 in
/-- slices.Values's closure, for every body that keeps what lay below n₀ -/
theorem Uq.values1_in (F : Fence) (n : Nat) (h7 : F.fn 129) (hro : F.round = none) (hn : 1 ≤ n) (l Bs n₀ b off len cap : Nat) (zs : List Int) (hreach : len * 8 ≤ 140737488355328) (hb : b < n₀) (J Jx : List Int → World → Prop)
    (hY : ∀ pre x W, J pre W → pre.length < len → YieldAt F (n - 1) Try.prog l #[.int .i64 x] W fun e W' =>
      (e = .returned (.bool true) ∧ J (pre ++ [x]) W' ∧ Below n₀ W W') ∨ (e = .returned (.bool false) ∧ Jx (pre ++ [x]) W'))
    (W : World) (hBs : W.cell? ⟨Bs, 0, none⟩ = some (.slice (some ⟨b, off, none⟩) len cap)) (hc : ∀ j, j < len → W.cell? ⟨b, off + j, none⟩ = some (.int .i64 (zs[j]?.getD 0))) (h0 : J [] W) :
    CallsIn F n Try.prog 129 #[.func (.yield l) #[] #[], .pointer (some ⟨Bs, 0, none⟩)] W fun e W' => (∃ v, e = .returned v) ∧
      ((∃ ys, ys = Uq.upto zs len ∧ J ys W') ∨ (∃ pre, (∃ k, k ≤ len ∧ pre = Uq.upto zs k) ∧ Jx pre W')) := by
  refine callsIn_of_wp Try.func129 rfl h7 ?_ hro
  simp only [Try.ntmps129, List.size_toArray, List.length_cons, List.length_nil, Nat.reduceAdd, Nat.reduceSub, Array.replicate_succ, Array.replicate_zero, List.push_toArray, List.append_toArray, List.nil_append, List.cons_append]
  gi_wp2
  gi_loopw [7] (fun i wr => ∃ k : Nat, k ≤ len ∧ i = .int .i64 k ∧ J (Uq.upto zs k) wr ∧ Below n₀ W wr)
    (fun i _ => len - (intOf i).toNat)
  case atStart => exact ⟨0, Nat.zero_le _, rfl, h0, Below.refl _ _⟩
  case round =>
    obtain ⟨k, hk, rfl, hJs, hnx⟩ := hrel
    have hcx : k < len → wr.cell? ⟨b, off + k, none⟩ = some (.int .i64 (zs[k]?.getD 0)) := fun h => (hnx.cell (p := ⟨b, off + k, none⟩) hb).trans (hc k h)
    by_cases hlt : k < len
    · obtain ⟨fn, tmps, assign, body, hy, hR⟩ := hY _ (zs[k]?.getD 0) wr hJs (by rw [Uq.upto_length]; exact hlt)
      have hcx' := hcx hlt
      gi_wp2
      refine hR.mono ?_
      rintro e W3 (⟨rfl, hJ3, hk3⟩ | ⟨rfl, hJx3⟩)
      · gi_wp2
        go_roundw
        case rel => exact ⟨k + 1, by omega, by simp, by rw [Uq.upto_succ]; exact hJ3, hnx.trans hk3⟩
        case measure => simp [intOf]; omega
      · gi_wp2
        refine bodyPost_ret (results_none rfl _ _ _) rfl ?_
        exact ⟨⟨_, rfl⟩, .inr ⟨_, ⟨k + 1, by omega, (Uq.upto_succ _ _).symm⟩, hJx3⟩⟩
    · obtain rfl : k = len := by omega
      gi_wp2
      go_end0
      exact ⟨⟨_, rfl⟩, .inl ⟨_, rfl, hJs⟩⟩

set_option maxRecDepth 100000 in
set_option maxHeartbeats 1000000 in
theorem Uq.values1_nil_in (F : Fence) (n : Nat) (h7 : F.fn 129) (hro : F.round = none) (l Bs : Nat) (J : List Int → World → Prop) (W : World) (p : Option Addr) (cap : Nat) (hBs : W.cell? ⟨Bs, 0, none⟩ = some (.slice p 0 cap)) (h0 : J [] W) :
    CallsIn F n Try.prog 129 #[.func (.yield l) #[] #[], .pointer (some ⟨Bs, 0, none⟩)] W fun e W' => (∃ v, e = .returned v) ∧ J [] W' := by
  refine callsIn_of_wp Try.func129 rfl h7 ?_ hro
  simp only [Try.ntmps129, List.size_toArray, List.length_cons, List.length_nil, Nat.reduceAdd, Nat.reduceSub, Array.replicate_succ, Array.replicate_zero, List.push_toArray, List.append_toArray, List.nil_append, List.cons_append]
  gi_wp2
  gi_loopw [7] (fun i wr => i = .int .i64 0 ∧ J [] wr) (fun _ _ => 0)
  case atStart => exact ⟨rfl, h0⟩
  case round =>
    obtain ⟨rfl, hJs⟩ := hrel
    gi_wp2
    go_end0
    exact ⟨⟨_, rfl⟩, hJs⟩

/-- the slice value holds the ints zs, in a block below n₀ -/
def Uq.Ints (n₀ : Nat) (W : World) (sv : Value) (zs : List Int) : Prop :=
  (∃ p cap, sv = .slice p 0 cap ∧ zs = []) ∨ ∃ b off cap, sv = .slice (some ⟨b, off, none⟩) zs.length cap ∧ b < n₀ ∧ ∀ j, j < zs.length → W.cell? ⟨b, off + j, none⟩ = some (.int .i64 (zs[j]?.getD 0))
theorem Uq.Ints.below {n₀ : Nat} {A B : World} (h : Below n₀ A B) {sv : Value} {zs : List Int} : Uq.Ints n₀ A sv zs → Uq.Ints n₀ B sv zs
  | .inl e => .inl e
  | .inr ⟨b, off, cap, e, hb, hc⟩ => .inr ⟨b, off, cap, e, hb, fun j hj => (h.cell (p := ⟨b, off + j, none⟩) hb).trans (hc j hj)⟩

theorem Uq.values_stops (F : Fence) (n : Nat) (h7 : F.fn 129) (hro : F.round = none) (hn : 1 ≤ n) (Bs n₀ : Nat) (sv : Value) (zs : List Int) (hreach : zs.length * 8 ≤ 140737488355328) (w : World) (hBs : Bs < w.heap.size) (hn₀ : n₀ ≤ w.heap.size)
    (hc : w.cell? ⟨Bs, 0, none⟩ = some sv) (hI : Uq.Ints n₀ w sv zs) :
    SeqStopsK F n Try.prog 129 #[.pointer (some ⟨Bs, 0, none⟩)] (fun x : Int => #[Value.int .i64 x]) (Below n₀) (fun ys => ys = zs) (fun _ => True) zs.length w := fun l J Jx W hW _ _ hY h0 => by
  have hc' := (hW.cell (p := ⟨Bs, 0, none⟩) hBs).trans hc
  rcases hI.below (hW.mono hn₀) with ⟨p, cap, rfl, rfl⟩ | ⟨b, off, cap, rfl, hb, hcs⟩
  · exact (Uq.values1_nil_in F n h7 hro l Bs J W p cap hc' h0).mono fun e W' ⟨he, hj⟩ => ⟨he, .inl ⟨_, rfl, hj⟩⟩
  · refine (Uq.values1_in F n h7 hro hn l Bs n₀ b off zs.length cap zs hreach hb J Jx hY W hc' hcs h0).mono ?_
    rintro e W' ⟨he, ⟨ys, rfl, hj⟩ | ⟨pre, ⟨k, hk, rfl⟩, hj⟩⟩
    · exact ⟨he, .inl ⟨_, Uq.upto_all zs, hj⟩⟩
    · exact ⟨he, .inr ⟨_, trivial, hj⟩⟩

theorem Uq.info3 : (Try.prog.info? 3).map (fun i => (i.zero, i.size, i.bytes)) = some (some (.int .i64 0), 1, 8) := by kernel_rfl

set_option maxRecDepth 100000 in
set_option maxHeartbeats 2000000 in
/-- slices.AppendSeq(nil, slices.Values(zs)): a new row of the same numbers -/
theorem Uq.appendSeq_in (F : Fence) (n : Nat) (h3 : F.fn 130) (h7 : F.fn 129) (hro : F.round = none) (hn : 3 ≤ n) (Bs : Nat) (sv : Value) (zs : List Int) (hreach : zs.length * 8 ≤ 140737488355328) (w : World) (hBs : Bs < w.heap.size)
    (hc : w.cell? ⟨Bs, 0, none⟩ = some sv) (hI : Uq.Ints w.heap.size w sv zs) :
    CallsIn F n Try.prog 130 #[.slice none 0 0, .func (.func 129) #[] #[.pointer (some ⟨Bs, 0, none⟩)]] w fun e W' => ∃ v, e = .returned v ∧
      W'.ownsRow w.heap.size 3 1 v zs.length (zs.map (Value.int .i64)) ∧ (v = .slice none 0 0 ↔ zs = []) ∧ Below w.heap.size w W' := by
  have h1 : 1 ≤ n := by omega
  obtain ⟨i0, hi, hz0, hz1, hz2⟩ := info_parts Uq.info3
  refine callsIn_of_wp_marks Try.func130 rfl h3 ?_ hro
  simp only [Try.ntmps130, List.size_toArray, List.length_cons, List.length_nil, Nat.reduceAdd, Nat.reduceSub, Array.replicate_succ, Array.replicate_zero, List.push_toArray, List.append_toArray, List.nil_append, List.cons_append]
  gi_wp2
  have bS := Boxed.new w 22 (.slice none 0 0)
  have hB0 : Below w.heap.size w (w.alloc (.cells #[.slice none 0 0] 22)) := (Below.refl _ w).alloc (Nat.le_refl _) _
  refine wpIn_rangeFunc_ownG hro h1 (gf := 129) (lb := #[.pointer (some ⟨Bs, 0, none⟩)]) rfl h7 (enters_of Try.func129 (by kernel_rfl) rfl)
    (Uq.values_stops F (n - 1) h7 hro (by omega) Bs w.heap.size _ zs hreach _ (by simp; omega) (by simp) ((hB0.cell (p := ⟨Bs, 0, none⟩) hBs).trans hc) (hI.below hB0)) belowK_t (belowK_b (by simp)) (Below.refl _ _) (fun _ => rfl)
    (fun pre W => (∃ v, Boxed W w.heap.size 22 v ∧ W.ownsRow w.heap.size 3 1 v pre.length (pre.map (Value.int .i64)) ∧ (v = .slice none 0 0 ↔ pre = [])) ∧ Below w.heap.size w W)
    (fun _ _ _ => False)
    (OwnFrom.and (Own.from (holdsRow_own w.heap.size w.heap.size 22 3 1 (fun pre : List Int => pre.length) (fun pre => pre.map (Value.int .i64)) (fun pre v => (v = .slice none 0 0 ↔ pre = []))) _) (ownFrom_below (Nat.le_refl _) (by simp)))
    (fun _ _ _ _ _ hs _ _ => hs)
    ⟨⟨_, bS, World.ownsRow_nil _ _ _ _, by simp⟩, hB0⟩
    (fun x => { tmps := #[.slice none 0 0, .func (.func 129) #[] #[.pointer (some ⟨Bs, 0, none⟩)], .pointer (some ⟨w.heap.size, 0, none⟩), undef, .slice none 0 0, .int .i64 x, .func (.func 129) #[] #[.pointer (some ⟨Bs, 0, none⟩)], .int .i64 x, undef, undef, undef, undef, undef], defers := [] }) ?assign ?body ?done ?stop
  case assign =>
    intro l x W K hK
    gi_wp2
    exact hK
  case body =>
    rintro l pre x W ⟨⟨v, hv, hrow, hnil⟩, hB⟩ hlt
    have hvc := hv.cell
    have hle : w.heap.size ≤ w.heap.size := Nat.le_refl _
    have hm : (pre.length + 1) * 8 ≤ 140737488355328 := by omega
    have hm' : pre.length + 1 ≤ maxLen := by unfold maxLen; omega
    gi_wp2_with (gi_at_builtin; refine wpListIn_append_own _ rfl _ _ 22 rfl w.heap.size 3 i0 (.int .i64 0) 1 8 Try.underlying22 hi hz0 hz1 hz2 rfl (by decide) _ _ _ rfl (hrow.alloc _) ⟨W.heap.size, 0, none⟩ 1 1 [.int .i64 x] rfl rfl (cell_one_new _ _ _) (by simp [Value.oneCell']) (by omega) (by omega) (by have := hB.size; simp; omega) ?_; intro v' w1 hown' hgrow _; obtain ⟨g', cap', rfl⟩ := ownsRow_succ hown'; obtain ⟨hv1, hv2, hr2, hk2, hb2⟩ := hv.appended (by decide) hrow hB.size hle hown' hgrow; have hc1 := hv1.cell; have hf1 := hv1.frozen)
    exact ⟨hk2.from _, hb2, ⟨_, hv2, by simpa using hr2, by simp⟩, hB.trans hb2⟩
  case done =>
    rintro D ys W hD rfl ⟨⟨v, hv, hrow, hnil⟩, hB⟩ hK
    have hvc := hv.cell
    gi_wp2
    refine ⟨by simp, .inl ⟨_, _, rfl, run_takeDeferred hK, ?_⟩⟩
    exact ⟨_, results_tmp rfl _ _ _, v, rfl, ownsRow_putObj hrow _ hK rfl, hnil, hB.trans (belowK_b (w := w) (Nat.le_refl _) W D _ _ (by simp at hD; omega) hK rfl rfl)⟩
  case stop =>
    rintro D c pre W _ _ h _
    exact h.elim

end Go.Proofs
namespace Go.Proofs
open Go.Shelf
def Uq.sortA_ren : Go.Shelf.Ren := ⟨fun | 5 => 128 | 8 => 132 | 7 => 131 | 19 => 142 | 20 => 143 | 10 => 133 | 11 => 134 | 12 => 135 | 13 => 136 | 14 => 137 | 15 => 138 | 16 => 139 | 17 => 140 | 18 => 141 | 30 => 144 | 31 => 145 | 32 => 146 | 33 => 147 | 34 => 148 | 35 => 149 | 40 => 150 | n => n, fun | 23 => 22 | 25 => 3 | 3 => 3 | 32 => 84 | 22 => 22 | 0 => 0 | 44 => 173 | 46 => 175 | 4 => 4 | 36 => 167 | 35 => 166 | 41 => 27 | 5 => 5 | 9 => 9 | 53 => 176 | 57 => 180 | 63 => 182 | 64 => 183 | n => n, fun | n => n⟩
theorem Uq.sortA : Go.Proofs.SlLaysM.n5 Try.prog Uq.sortA_ren := {
  mixed := by kernel_rfl
  f5 := ⟨Try.f128.name, by decide, Try.func128.trans (congrArg some (by kernel_rfl))⟩
  f7 := ⟨Try.f131.name, by decide, Try.func131.trans (congrArg some (by kernel_rfl))⟩
  f8 := Try.func132.trans (congrArg some (by kernel_rfl))
  f10 := ⟨Try.f133.name, by decide, Try.func133.trans (congrArg some (by kernel_rfl))⟩
  f11 := ⟨Try.f134.name, by decide, Try.func134.trans (congrArg some (by kernel_rfl))⟩
  f12 := ⟨Try.f135.name, by decide, Try.func135.trans (congrArg some (by kernel_rfl))⟩
  f13 := ⟨Try.f136.name, by decide, Try.func136.trans (congrArg some (by kernel_rfl))⟩
  f14 := ⟨Try.f137.name, by decide, Try.func137.trans (congrArg some (by kernel_rfl))⟩
  f15 := ⟨Try.f138.name, by decide, Try.func138.trans (congrArg some (by kernel_rfl))⟩
  f16 := ⟨Try.f139.name, by decide, Try.func139.trans (congrArg some (by kernel_rfl))⟩
  f17 := ⟨Try.f140.name, by decide, Try.func140.trans (congrArg some (by kernel_rfl))⟩
  f18 := ⟨Try.f141.name, by decide, Try.func141.trans (congrArg some (by kernel_rfl))⟩
  f19 := Try.func142.trans (congrArg some (by kernel_rfl))
  f20 := Try.func143.trans (congrArg some (by kernel_rfl))
  f30 := ⟨Try.f144.name, by decide, Try.func144.trans (congrArg some (by kernel_rfl))⟩
  f31 := Try.func145.trans (congrArg some (by kernel_rfl))
  f32 := Try.func146.trans (congrArg some (by kernel_rfl))
  f33 := ⟨Try.f147.name, by decide, Try.func147.trans (congrArg some (by kernel_rfl))⟩
  f34 := ⟨Try.f148.name, by decide, Try.func148.trans (congrArg some (by kernel_rfl))⟩
  f35 := ⟨Try.f149.name, by decide, Try.func149.trans (congrArg some (by kernel_rfl))⟩
  f40 := ⟨Try.f150.name, by decide, Try.func150.trans (congrArg some (by kernel_rfl))⟩
  t0 := Try.underlying0
  a0 := Try.isAgg0
  z0 := Try.sizeOf0
  v0 := Try.zeroValue0
  t3 := Try.underlying3
  a3 := Try.isAgg3
  z3 := Try.sizeOf3
  v3 := Try.zeroValue3
  t4 := Try.underlying4
  a4 := Try.isAgg4
  z4 := Try.sizeOf4
  v4 := Try.zeroValue4
  t5 := Try.underlying5
  a5 := Try.isAgg5
  z5 := Try.sizeOf5
  v5 := Try.zeroValue5
  t9 := Try.underlying9
  a9 := Try.isAgg9
  z9 := Try.sizeOf9
  v9 := Try.zeroValue9
  t22 := Try.underlying22
  a22 := Try.isAgg22
  z22 := Try.sizeOf22
  v22 := Try.zeroValue22
  t23 := Try.underlying22
  a23 := Try.isAgg22
  z23 := Try.sizeOf22
  v23 := Try.zeroValue22
  t25 := Try.underlying3
  a25 := Try.isAgg3
  z25 := Try.sizeOf3
  v25 := Try.zeroValue3
  t32 := Try.underlying84
  a32 := Try.isAgg84
  z32 := Try.sizeOf84
  v32 := Try.zeroValue84
  t35 := Try.underlying166
  a35 := Try.isAgg166
  z35 := Try.sizeOf166
  v35 := Try.zeroValue166
  t36 := Try.underlying167
  a36 := Try.isAgg167
  z36 := Try.sizeOf167
  v36 := Try.zeroValue167
  t41 := Try.underlying27
  a41 := Try.isAgg27
  z41 := Try.sizeOf27
  v41 := Try.zeroValue27
  t44 := Try.underlying173
  a44 := Try.isAgg173
  z44 := Try.sizeOf173
  v44 := Try.zeroValue173
  t46 := Try.underlying175
  a46 := Try.isAgg175
  z46 := Try.sizeOf175
  v46 := Try.zeroValue175
  t53 := Try.underlying176
  a53 := Try.isAgg176
  z53 := Try.sizeOf176
  v53 := Try.zeroValue176
  t57 := Try.underlying180
  a57 := Try.isAgg180
  z57 := Try.sizeOf180
  v57 := Try.zeroValue180
  t63 := Try.underlying182
  a63 := Try.isAgg182
  z63 := Try.sizeOf182
  v63 := Try.zeroValue182
  t64 := Try.underlying183
  a64 := Try.isAgg183
  z64 := Try.sizeOf183
  v64 := Try.zeroValue183 }
end Go.Proofs
namespace Go.Am
open Go.Proofs Go.RowKit Go.Sort

/-- the world goes on; no row is touched -/
theorem Back.stay {φ : List LI} {H : Hp} {w w' : World} (h : RepH φ H w) (hb : Below w.heap.size w w') : Back φ H w φ H w' :=
  ⟨List.prefix_refl _, ⟨h.len, fun l o hl hv => by obtain ⟨i, hi, hr⟩ := h.obj l o hl hv; exact ⟨i, hi, hr.keep (hb.block _ (h.blockLt ⟨l, o, i, hl, hv, hi, rfl⟩)) hb.size⟩, h.apart⟩,
    ⟨hb.os, hb.tape, hb.output, hb.size, fun b h1 _ => hb.block b h1⟩, fun _ h => .inl h, fun _ h => .inl h⟩

/-- a new row that a call has made -/
theorem Back.made {φ : List LI} {H : Hp} {w w' : World} (h : RepH φ H w) (hb : Below w.heap.size w w') {t : TypeId} {cs : List GV} {g cap : Nat} {cur : Array Value} (hg : w.heap.size ≤ g)
    (hc : w'.heap[g]? = some (.cells cur t (0, 0))) (hs : cur.size = cap) (hle : cs.length ≤ cap) (his : Is2 φ cs (cur.toList.take cs.length)) :
    Back φ H w (φ ++ [⟨g, 0, true, cs.length, cap⟩]) (H ++ [.row true t cs]) w' :=
  Back.snoc h ⟨hb.os, hb.tape, hb.output, hb.size, fun b h1 _ => hb.block b h1⟩ (fun b q => hb.block b (h.blockLt q))
    ⟨rfl, rfl, (Array.getElem?_eq_some_iff.1 hc).1, rfl, cur, t, (0, 0), hc, fun _ => rfl, hs, (fun j _ h2 => by simp at h2), by omega, Is2.mono (List.prefix_append _ _) his⟩ hg

theorem ints_is (φ : List LI) : ∀ zs : List Int, Is2 φ (zs.map (GV.int .i64)) (zs.map (Value.int .i64))
  | [] => .nil
  | _ :: zs => .cons rfl (ints_is φ zs)
theorem ints_of {φ : List LI} : ∀ {zs : List Int} {xs : List Value}, Is2 φ (zs.map (GV.int .i64)) xs → xs = zs.map (Value.int .i64)
  | [], _, h => by rw [All2.nil_inv h]; rfl
  | z :: zs, _, h => by
    obtain ⟨b, bs, rfl, h1, h2⟩ := All2.cons_inv h
    rw [ints_of h2, show b = _ from h1]; rfl

theorem All2.two {α β : Type} {R : α → β → Prop} {a b : α} {vs : List β} (h : All2 R [a, b] vs) : ∃ x y, vs = [x, y] ∧ R a x ∧ R b y := by
  obtain ⟨x, vs, rfl, h1, h⟩ := h.cons_inv
  obtain ⟨y, vs, rfl, h2, h⟩ := h.cons_inv
  rw [h.nil_inv]
  exact ⟨x, y, rfl, h1, h2⟩
theorem All2.one {α β : Type} {R : α → β → Prop} {a : α} {vs : List β} (h : All2 R [a] vs) : ∃ x, vs = [x] ∧ R a x := by
  obtain ⟨x, vs, rfl, h1, h⟩ := h.cons_inv
  rw [h.nil_inv]
  exact ⟨x, rfl, h1⟩

/-- slices.AppendSeq(nil, slices.Values(zs)) -/
def slices_AppendSeq__int_int : Sm := fun xs H Q => ∃ l t cs a n zs, xs = [.g (.sl none 0 1), .g (.fn 129 [(l, 0)])] ∧ H[l]? = some (.row true t cs) ∧ cs[0]? = some (.sl a n 1) ∧ cells? H a n = some (zs.map (GV.int .i64)) ∧ zs.length * 8 ≤ Lim ∧
  (zs = [] → Q (.g (.sl none 0 1)) H) ∧ (zs ≠ [] → Q (.g (.sl (some (ln H, 0)) zs.length 1)) (pu H (.row true 3 (zs.map (GV.int .i64)))))

theorem ints_at {φ : List LI} {H : Hp} {w : World} (h : RepH φ H w) {a : Pl} {n : Nat} {zs : List Int} (hz : cells? H a n = some (zs.map (GV.int .i64))) {x : Value} (hx : GV.is φ (.sl a n 1) x) : Uq.Ints w.heap.size w x zs := by
  cases a with
  | none =>
    obtain ⟨rfl, rfl⟩ := hx
    simp [cells?] at hz
    exact .inl ⟨none, 0, rfl, hz⟩
  | some p =>
    obtain ⟨l, o⟩ := p
    obtain ⟨i, ad, c, hi, rfl, hq, hnc, hu, _⟩ := hx
    obtain ⟨i', hi', hlen, xs, his, hcell⟩ := h.cells hz
    rw [hi] at hi'; cases hi'
    simp at hlen
    subst hlen
    have hxs := ints_of his
    subst hxs
    cases zs with
    | nil => exact .inl ⟨_, c, rfl, rfl⟩
    | cons z zs =>
      have hq := hq.resolve_right (by simp at hnc; omega)
      subst hq
      refine .inr ⟨i.b, i.p + o, c, rfl, ?_, fun j hj => ?_⟩
      · have := hcell 0 (.int .i64 z) (by simp)
        rcases Nat.lt_or_ge i.b w.heap.size with h1 | h1
        · exact h1
        · simp [World.cell?, Array.getElem?_eq_none h1] at this
      · exact hcell j _ (by rw [List.getElem?_map, List.getElem?_eq_getElem hj]; simp)

set_option maxRecDepth 100000 in
theorem slices_AppendSeq__int_int_ok : SoundC Try.prog 130 slices_AppendSeq__int_int := by
  intro as0 H Q ⟨l, t, cs, a, n, zs, e, hl, h0, hz, hlim, hQ1, hQ2⟩ φ w vs hr ha
  subst e
  obtain ⟨x, y, rfl, hx, hy⟩ := ha.two
  obtain ⟨_, rfl⟩ := hx
  obtain ⟨xs, rfl, hc⟩ := hy
  obtain ⟨p, rfl, i, hi, rfl⟩ := hc.one
  obtain ⟨i', hi', hrow⟩ := hr.row l true t cs hl
  rw [hi] at hi'; cases hi'
  obtain ⟨_, hu, hlt, hp, c, t', fz, hb, _, hs, _, hle, his⟩ := hrow
  obtain ⟨sv, hsv, hvx⟩ := his.get h0
  have hcell : w.cell? ⟨i.b, 0, none⟩ = some sv := by
    rw [cell_of hb]
    rw [List.getElem?_take] at hsv
    split at hsv
    · simpa using hsv
    · simp at hsv
  have e0 : i.p + 0 = 0 := by omega
  show CallsC Try.prog 130 #[.slice none 0 0, .func (.func 129) #[] #[.pointer (some ⟨i.b, i.p + 0, none⟩)]] w _
  rw [e0]
  refine .inl ⟨enters_of Try.func130 (by kernel_rfl) rfl _ _, ?_⟩
  refine ((callsIn_wide (n := 3)).1 (Uq.appendSeq_in Fence.wide 3 trivial trivial rfl (by omega) i.b sv zs hlim w hlt hcell (ints_at hr hz hvx))).mono ?_
  rintro e w' ⟨v, rfl, ⟨_, hown⟩, hnil, hbel⟩
  by_cases hze : zs = []
  · exact ⟨_, H, φ, v, hQ1 hze, rfl, ⟨rfl, hnil.2 hze⟩, Back.stay hr hbel⟩
  · rcases hown with ⟨rfl, h1⟩ | ⟨g, cap, cur, rfl, hg, hgb, h1, h2, h3, h4⟩
    · exact (hze (hnil.1 rfl)).elim
    · have B := Back.made (cs := zs.map (GV.int .i64)) hr hbel hg hgb (by simpa using h3) (by simpa using h1) (by rw [List.length_map, ← Nat.mul_one zs.length, h4]; exact ints_is φ zs)
      refine ⟨_, _, _, _, hQ2 hze, rfl, ?_, B⟩
      refine ⟨⟨g, 0, true, (zs.map (GV.int .i64)).length, cap⟩, _, cap, ?_, rfl, .inl rfl, h1, by simp; omega, fun _ => ⟨rfl, by simp, by unfold maxLen at h2; exact h2⟩⟩
      show (φ ++ [_])[ln H]? = _
      rw [show ln H = φ.length from hr.len.symm]
      simp

/-- slices.Sort of numbers, in place -/
def slices_Sort__int_int : Sm := fun xs H Q => (xs = [.g (.sl none 0 1)] ∧ Q (.tup []) H) ∨
  ∃ l zs, xs = [.g (.sl (some (l, 0)) zs.length 1)] ∧ zs ≠ [] ∧ zs.length * 8 ≤ Lim ∧ H[l]? = some (.row true 3 (zs.map (GV.int .i64))) ∧ Q (.tup []) (H.set l (.row true 3 ((zs.mergeSort fun x y => decide (x ≤ y)).map (GV.int .i64))))

theorem slices_Sort__int_int_ok : SoundC Try.prog 128 slices_Sort__int_int := by
  intro as0 H Q hS φ w vs hr ha
  rcases hS with ⟨rfl, hQ⟩ | ⟨l, zs, rfl, hne, hlim, hl, hQ⟩
  · obtain ⟨x, rfl, hx⟩ := ha.one
    obtain ⟨_, rfl⟩ := hx
    refine .inl ⟨enters_of Try.func128 (by kernel_rfl) rfl _ _, ?_⟩
    refine (AnyM.slices_Sort_int_none Uq.sortA none 0 w).mono ?_
    rintro e w' ⟨rfl, rfl⟩
    exact ⟨_, H, φ, _, hQ, rfl, ⟨#[], rfl, .nil⟩, Back.refl hr⟩
  · obtain ⟨x, rfl, hx⟩ := ha.one
    obtain ⟨i, ad, c, hi, rfl, hq, hnc, hu, ho⟩ := hx
    obtain ⟨i', hi', hrow⟩ := hr.row l true 3 _ hl
    rw [hi] at hi'; cases hi'
    obtain ⟨ho', hu', hlt, hp, cur, t', fz, hb, ht', hs, hfz, hle, his⟩ := hrow
    have hzl : 0 < zs.length := List.length_pos_iff.2 hne
    have hq' : ad = ⟨i.b, 0, none⟩ := by
      rcases hq with h | h
      · rw [h, hp]
      · omega
    subst hq'
    have hcur : cur.toList.take zs.length = zs.map (Value.int .i64) := by
      have := ints_of his
      rwa [List.length_map] at this
    have hH : Holds (Value.int .i64) w i.b 0 zs.toArray := by
      intro j hj
      have hj' : j < zs.length := by simpa using hj
      rw [Nat.zero_add]
      constructor
      · rw [cell_of hb]
        have h1 : (cur.toList.take zs.length)[j]? = (zs.map (Value.int .i64))[j]? := by rw [hcur]
        rw [List.getElem?_take_of_lt hj', List.getElem?_map, List.getElem?_eq_getElem hj'] at h1
        simp at h1
        rw [h1]
        simp [hj']
      · simp only [World.frozen?, hb]
        simp only [List.length_map] at hle
        by_cases h1 : fz.1 ≤ j
        · by_cases h2 : j < fz.2
          · have := hfz j h1 h2; omega
          · simp; omega
        · simp; omega
    refine .inl ⟨enters_of Try.func128 (by kernel_rfl) rfl _ _, ?_⟩
    refine (AnyM.slices_Sort_int Uq.sortA i.b 0 c zs w hH hlt (by unfold Lim at hlim; omega)).mono ?_
    rintro e w' ⟨rfl, k, os, rfl⟩
    have hlen : (zs.mergeSort fun x y => decide (x ≤ y)).length = zs.length := by simp
    refine ⟨_, _, φ, _, hQ, rfl, ⟨#[], rfl, .nil⟩, ?_⟩
    have hg := grownBy_sorted_i (w := w) (g := i.b) (n := k) (os := os) (zs.mergeSort fun x y => decide (x ≤ y)).toArray
    refine Back.turn hr hl hi (by simp at hle; omega) ⟨hg.os, hg.tape, hg.output, hg.size, fun b h1 h2 => hg.block b h1 (fun e => h2 (by cases e; rfl))⟩ ?_
    have hb' := heap_sorted_i (n := k) (os := os) (zs.mergeSort fun x y => decide (x ≤ y)).toArray hb
    refine ⟨ho', by simp [hu'], (Array.getElem?_eq_some_iff.1 hb').1, hp, _, t', fz, hb', ht', by simp [putCells, hs], hfz, by simp [putCells]; simpa using hle, ?_⟩
    have htk := take_putCells_i cur (zs.mergeSort fun x y => decide (x ≤ y)) (by simpa using hle)
    rw [List.length_map, htk]
    exact ints_is φ _
end Go.Am
namespace Go.Am
/-! 105: cryostat/page.rising -/
def page_rising.cx : Cx := ⟨tys, [], [(2, [0, 3])], [], [], noDyn, [.tmp 2]⟩
def page_rising : Sm := fun xs H Q => ∃ k, callK (page_rising.cx) Go.Proofs.Try.f105 k xs H Q
def page_rising.l2 (k : Nat) (xx0 : Pl) (nx1 : Nat) (ix2 : Int) (H : Hp) (Q : Post) : Prop := loopK (page_rising.cx) Go.Proofs.Try.f105 2 k ((.g (.sl xx0 nx1 1)) :: .bad :: .bad :: (.g (.int .i64 ix2)) :: B 16 ([])) H Q
theorem page_rising_eq (k : Nat) (z0 : Pl) (z0n : Nat) (H : Hp) (Q : Post) : callK (page_rising.cx) Go.Proofs.Try.f105 (k + 1) [.g (.sl z0 z0n 1)] H Q = (
 page_rising.l2 k z0 z0n 1 H Q) := by kernel_rfl
theorem page_rising.l2_eq (k : Nat) (xx0 : Pl) (nx1 : Nat) (ix2 : Int) (H : Hp) (Q : Post) : page_rising.l2 (k + 1) xx0 nx1 ix2 H Q = (
 bite (ltI ix2 (nI nx1))
 (chk true (chk ((leI 0 (wrapI .i64 (ix2 - 1))) && (ltI (wrapI .i64 (ix2 - 1)) (nI nx1))) (pS xx0 fun n0 n1 =>
  rd H n0 (n1 + ((tN (wrapI .i64 (ix2 - 1))) * 1)) fun v2 =>
  dS v2 fun s3 =>
  chk true (chk ((leI 0 ix2) && (ltI ix2 (nI nx1))) (pS xx0 fun n4 n5 =>
  rd H n4 (n5 + ((tN ix2) * 1)) fun v6 =>
  dS v6 fun s7 =>
  bite (!(strLt s3 s7))
  (Q (.g (.bool false)) H)
  (page_rising.l2 k xx0 nx1 (wrapI .i64 (ix2 + 1)) H Q))))))
 (Q (.g (.bool true)) H)) := by kernel_rfl
theorem page_rising_ok : Sound Go.Proofs.Try.prog 105 (page_rising) := prog_ok.sound (cx := page_rising.cx) rfl (EnvOK.nil _) (noDyn_ok _) Go.Proofs.Try.func105 rfl

/-! 116: slices.IndexFunc[[]string,string] -/
def slices_IndexFunc__string_string.cx (E : Nat → Sm) : Cx := ⟨tys, [], [(2, [0, 1, 7, 8])], [], [], E, [.tmp 4]⟩
def slices_IndexFunc__string_string (E : Nat → Sm) : Sm := fun xs H Q => ∃ k, callK (slices_IndexFunc__string_string.cx E) Go.Proofs.Try.f116 k xs H Q
def slices_IndexFunc__string_string.l2 (E : Nat → Sm) (k : Nat) (xx0 : Pl) (nx1 : Nat) (nx2 : Nat) (cx3 : List (Nat × Nat)) (ix4 : Int) (ix5 : Int) (H : Hp) (Q : Post) : Prop := loopK (slices_IndexFunc__string_string.cx E) Go.Proofs.Try.f116 2 k ((.g (.sl xx0 nx1 1)) :: (.g (.fn nx2 cx3)) :: B 5 ((.g (.int .i64 ix4)) :: (.g (.int .i64 ix5)) :: B 10 ([]))) H Q
theorem slices_IndexFunc__string_string_eq (E : Nat → Sm) (k : Nat) (z0 : Pl) (z0n : Nat) (z1 : Nat) (z1c : List (Nat × Nat)) (H : Hp) (Q : Post) : callK (slices_IndexFunc__string_string.cx E) Go.Proofs.Try.f116 (k + 1) [.g (.sl z0 z0n 1), .g (.fn z1 z1c)] H Q = (
 slices_IndexFunc__string_string.l2 E k z0 z0n z1 z1c (nI z0n) 0 H Q) := by kernel_rfl
theorem slices_IndexFunc__string_string.l2_eq (E : Nat → Sm) (k : Nat) (xx0 : Pl) (nx1 : Nat) (nx2 : Nat) (cx3 : List (Nat × Nat)) (ix4 : Int) (ix5 : Int) (H : Hp) (Q : Post) : slices_IndexFunc__string_string.l2 E (k + 1) xx0 nx1 nx2 cx3 ix4 ix5 H Q = (
 bite (ltI ix5 ix4)
 (chk true (chk ((leI 0 ix5) && (ltI ix5 (nI nx1))) (pS xx0 fun n0 n1 =>
  rd H n0 (n1 + ((tN ix5) * 1)) fun v2 =>
  dS v2 fun s3 =>
  cl (E nx2) (cpl [(.g (.str s3))] cx3) H fun r4 H5 =>
  rG r4 fun v6 =>
  dB v6 fun b7 =>
  bite b7
  (Q (.g (.int .i64 ix5)) H5)
  (slices_IndexFunc__string_string.l2 E k xx0 nx1 nx2 cx3 ix4 (wrapI .i64 (ix5 + 1)) H5 Q))))
 (Q (.g (.int .i64 (-1))) H)) := by kernel_rfl
theorem slices_IndexFunc__string_string_ok (E : Nat → Sm) (hE : ∀ f, SoundC Go.Proofs.Try.prog f (E f)) : Sound Go.Proofs.Try.prog 116 (slices_IndexFunc__string_string E) := prog_ok.sound (cx := slices_IndexFunc__string_string.cx E) rfl (EnvOK.nil _) hE Go.Proofs.Try.func116 rfl

/-! 95: slices.ContainsFunc[[]string,string] -/
def slices_ContainsFunc__string_string.cx (E : Nat → Sm) : Cx := ⟨tys, [], [], [], [(116, (slices_IndexFunc__string_string E))], E, [.tmp 4]⟩
def slices_ContainsFunc__string_string (E : Nat → Sm) : Sm := fun xs H Q => ∃ k, callK (slices_ContainsFunc__string_string.cx E) Go.Proofs.Try.f95 k xs H Q
theorem slices_ContainsFunc__string_string_eq (E : Nat → Sm) (k : Nat) (z0 : Pl) (z0n : Nat) (z1 : Nat) (z1c : List (Nat × Nat)) (H : Hp) (Q : Post) : callK (slices_ContainsFunc__string_string.cx E) Go.Proofs.Try.f95 (k + 1) [.g (.sl z0 z0n 1), .g (.fn z1 z1c)] H Q = (
 cl (slices_IndexFunc__string_string E) [(.g (.sl z0 z0n 1)), (.g (.fn z1 z1c))] H fun r0 H1 =>
 rG r0 fun v2 =>
 dI .i64 v2 fun i3 =>
 Q (.g (.bool (leI 0 i3))) H1) := by kernel_rfl
theorem slices_ContainsFunc__string_string_ok (E : Nat → Sm) (hE : ∀ f, SoundC Go.Proofs.Try.prog f (E f)) : Sound Go.Proofs.Try.prog 95 (slices_ContainsFunc__string_string E) := prog_ok.sound (cx := slices_ContainsFunc__string_string.cx E) rfl (EnvOK.cons ((slices_IndexFunc__string_string_ok E hE).c ⟨_, Go.Proofs.Try.func116, by kernel_rfl, by kernel_rfl⟩) (EnvOK.nil _)) hE Go.Proofs.Try.func95 rfl

/-! 120: cryostat/page.all[string]$1 -/
def page_all_string_1.cx (E : Nat → Sm) : Cx := ⟨tys, [], [], [], [], E, [.tmp 3]⟩
def page_all_string_1 (E : Nat → Sm) : Sm := fun xs H Q => ∃ k, callK (page_all_string_1.cx E) Go.Proofs.Try.f120 k xs H Q
theorem page_all_string_1_eq (E : Nat → Sm) (k : Nat) (z0 : ByteArray) (z1 : Nat) (z1o : Nat) (H : Hp) (Q : Post) : callK (page_all_string_1.cx E) Go.Proofs.Try.f120 (k + 1) [.g (.str z0), .g (.ptr (some (z1, z1o)))] H Q = (
 rd H z1 z1o fun v0 =>
 dF v0 fun n1 c2 =>
 cl (E n1) (cpl [(.g (.str z0))] c2) H fun r3 H4 =>
 rG r3 fun v5 =>
 dB v5 fun b6 =>
 Q (.g (.bool (!b6))) H4) := by kernel_rfl
theorem page_all_string_1_ok (E : Nat → Sm) (hE : ∀ f, SoundC Go.Proofs.Try.prog f (E f)) : Sound Go.Proofs.Try.prog 120 (page_all_string_1 E) := prog_ok.sound (cx := page_all_string_1.cx E) rfl (EnvOK.nil _) hE Go.Proofs.Try.func120 rfl

/-! 106: cryostat/page.all[string] -/
def page_all_string.cx (E : Nat → Sm) : Cx := ⟨tys, [3], [], [], [(95, (slices_ContainsFunc__string_string (dynOf [(120, (page_all_string_1 E))])))], E, [.tmp 4]⟩
def page_all_string (E : Nat → Sm) : Sm := fun xs H Q => ∃ k, callK (page_all_string.cx E) Go.Proofs.Try.f106 k xs H Q
theorem page_all_string_eq (E : Nat → Sm) (k : Nat) (z0 : Pl) (z0n : Nat) (z1 : Nat) (z1c : List (Nat × Nat)) (H : Hp) (Q : Post) : callK (page_all_string.cx E) Go.Proofs.Try.f106 (k + 1) [.g (.sl z0 z0n 1), .g (.fn z1 z1c)] H Q = (
 cl (slices_ContainsFunc__string_string (dynOf [(120, (page_all_string_1 E))])) [(.g (.sl z0 z0n 1)), (.g (.fn 120 [((ln H), 0)]))] (pu H (.row true 135 [(.fn z1 z1c)])) fun r0 H1 =>
 rG r0 fun v2 =>
 dB v2 fun b3 =>
 Q (.g (.bool (!b3))) H1) := by kernel_rfl
theorem page_all_string_ok (E : Nat → Sm) (hE : ∀ f, SoundC Go.Proofs.Try.prog f (E f)) : Sound Go.Proofs.Try.prog 106 (page_all_string E) := prog_ok.sound (cx := page_all_string.cx E) rfl (EnvOK.cons ((slices_ContainsFunc__string_string_ok (dynOf [(120, (page_all_string_1 E))]) (dynOf_ok (EnvOK.cons ((page_all_string_1_ok E hE).c ⟨_, Go.Proofs.Try.func120, by kernel_rfl, by kernel_rfl⟩) (EnvOK.nil _)))).c ⟨_, Go.Proofs.Try.func95, by kernel_rfl, by kernel_rfl⟩) (EnvOK.nil _)) hE Go.Proofs.Try.func106 rfl

/-! 126: slices.IndexFunc[[]int,int] -/
def slices_IndexFunc__int_int.cx (E : Nat → Sm) : Cx := ⟨tys, [], [(2, [0, 1, 7, 8])], [], [], E, [.tmp 4]⟩
def slices_IndexFunc__int_int (E : Nat → Sm) : Sm := fun xs H Q => ∃ k, callK (slices_IndexFunc__int_int.cx E) Go.Proofs.Try.f126 k xs H Q
def slices_IndexFunc__int_int.l2 (E : Nat → Sm) (k : Nat) (xx0 : Pl) (nx1 : Nat) (nx2 : Nat) (cx3 : List (Nat × Nat)) (ix4 : Int) (ix5 : Int) (H : Hp) (Q : Post) : Prop := loopK (slices_IndexFunc__int_int.cx E) Go.Proofs.Try.f126 2 k ((.g (.sl xx0 nx1 1)) :: (.g (.fn nx2 cx3)) :: B 5 ((.g (.int .i64 ix4)) :: (.g (.int .i64 ix5)) :: B 10 ([]))) H Q
theorem slices_IndexFunc__int_int_eq (E : Nat → Sm) (k : Nat) (z0 : Pl) (z0n : Nat) (z1 : Nat) (z1c : List (Nat × Nat)) (H : Hp) (Q : Post) : callK (slices_IndexFunc__int_int.cx E) Go.Proofs.Try.f126 (k + 1) [.g (.sl z0 z0n 1), .g (.fn z1 z1c)] H Q = (
 slices_IndexFunc__int_int.l2 E k z0 z0n z1 z1c (nI z0n) 0 H Q) := by kernel_rfl
theorem slices_IndexFunc__int_int.l2_eq (E : Nat → Sm) (k : Nat) (xx0 : Pl) (nx1 : Nat) (nx2 : Nat) (cx3 : List (Nat × Nat)) (ix4 : Int) (ix5 : Int) (H : Hp) (Q : Post) : slices_IndexFunc__int_int.l2 E (k + 1) xx0 nx1 nx2 cx3 ix4 ix5 H Q = (
 bite (ltI ix5 ix4)
 (chk true (chk ((leI 0 ix5) && (ltI ix5 (nI nx1))) (pS xx0 fun n0 n1 =>
  rd H n0 (n1 + ((tN ix5) * 1)) fun v2 =>
  dI .i64 v2 fun i3 =>
  cl (E nx2) (cpl [(.g (.int .i64 i3))] cx3) H fun r4 H5 =>
  rG r4 fun v6 =>
  dB v6 fun b7 =>
  bite b7
  (Q (.g (.int .i64 ix5)) H5)
  (slices_IndexFunc__int_int.l2 E k xx0 nx1 nx2 cx3 ix4 (wrapI .i64 (ix5 + 1)) H5 Q))))
 (Q (.g (.int .i64 (-1))) H)) := by kernel_rfl
theorem slices_IndexFunc__int_int_ok (E : Nat → Sm) (hE : ∀ f, SoundC Go.Proofs.Try.prog f (E f)) : Sound Go.Proofs.Try.prog 126 (slices_IndexFunc__int_int E) := prog_ok.sound (cx := slices_IndexFunc__int_int.cx E) rfl (EnvOK.nil _) hE Go.Proofs.Try.func126 rfl

/-! 121: slices.ContainsFunc[[]int,int] -/
def slices_ContainsFunc__int_int.cx (E : Nat → Sm) : Cx := ⟨tys, [], [], [], [(126, (slices_IndexFunc__int_int E))], E, [.tmp 4]⟩
def slices_ContainsFunc__int_int (E : Nat → Sm) : Sm := fun xs H Q => ∃ k, callK (slices_ContainsFunc__int_int.cx E) Go.Proofs.Try.f121 k xs H Q
theorem slices_ContainsFunc__int_int_eq (E : Nat → Sm) (k : Nat) (z0 : Pl) (z0n : Nat) (z1 : Nat) (z1c : List (Nat × Nat)) (H : Hp) (Q : Post) : callK (slices_ContainsFunc__int_int.cx E) Go.Proofs.Try.f121 (k + 1) [.g (.sl z0 z0n 1), .g (.fn z1 z1c)] H Q = (
 cl (slices_IndexFunc__int_int E) [(.g (.sl z0 z0n 1)), (.g (.fn z1 z1c))] H fun r0 H1 =>
 rG r0 fun v2 =>
 dI .i64 v2 fun i3 =>
 Q (.g (.bool (leI 0 i3))) H1) := by kernel_rfl
theorem slices_ContainsFunc__int_int_ok (E : Nat → Sm) (hE : ∀ f, SoundC Go.Proofs.Try.prog f (E f)) : Sound Go.Proofs.Try.prog 121 (slices_ContainsFunc__int_int E) := prog_ok.sound (cx := slices_ContainsFunc__int_int.cx E) rfl (EnvOK.cons ((slices_IndexFunc__int_int_ok E hE).c ⟨_, Go.Proofs.Try.func126, by kernel_rfl, by kernel_rfl⟩) (EnvOK.nil _)) hE Go.Proofs.Try.func121 rfl

/-! 122: cryostat/page.all[int]$1 -/
def page_all_int_1.cx (E : Nat → Sm) : Cx := ⟨tys, [], [], [], [], E, [.tmp 3]⟩
def page_all_int_1 (E : Nat → Sm) : Sm := fun xs H Q => ∃ k, callK (page_all_int_1.cx E) Go.Proofs.Try.f122 k xs H Q
theorem page_all_int_1_eq (E : Nat → Sm) (k : Nat) (z0 : Int) (z1 : Nat) (z1o : Nat) (H : Hp) (Q : Post) : callK (page_all_int_1.cx E) Go.Proofs.Try.f122 (k + 1) [.g (.int .i64 z0), .g (.ptr (some (z1, z1o)))] H Q = (
 rd H z1 z1o fun v0 =>
 dF v0 fun n1 c2 =>
 cl (E n1) (cpl [(.g (.int .i64 z0))] c2) H fun r3 H4 =>
 rG r3 fun v5 =>
 dB v5 fun b6 =>
 Q (.g (.bool (!b6))) H4) := by kernel_rfl
theorem page_all_int_1_ok (E : Nat → Sm) (hE : ∀ f, SoundC Go.Proofs.Try.prog f (E f)) : Sound Go.Proofs.Try.prog 122 (page_all_int_1 E) := prog_ok.sound (cx := page_all_int_1.cx E) rfl (EnvOK.nil _) hE Go.Proofs.Try.func122 rfl

/-! 109: cryostat/page.all[int] -/
def page_all_int.cx (E : Nat → Sm) : Cx := ⟨tys, [3], [], [], [(121, (slices_ContainsFunc__int_int (dynOf [(122, (page_all_int_1 E))])))], E, [.tmp 4]⟩
def page_all_int (E : Nat → Sm) : Sm := fun xs H Q => ∃ k, callK (page_all_int.cx E) Go.Proofs.Try.f109 k xs H Q
theorem page_all_int_eq (E : Nat → Sm) (k : Nat) (z0 : Pl) (z0n : Nat) (z1 : Nat) (z1c : List (Nat × Nat)) (H : Hp) (Q : Post) : callK (page_all_int.cx E) Go.Proofs.Try.f109 (k + 1) [.g (.sl z0 z0n 1), .g (.fn z1 z1c)] H Q = (
 cl (slices_ContainsFunc__int_int (dynOf [(122, (page_all_int_1 E))])) [(.g (.sl z0 z0n 1)), (.g (.fn 122 [((ln H), 0)]))] (pu H (.row true 137 [(.fn z1 z1c)])) fun r0 H1 =>
 rG r0 fun v2 =>
 dB v2 fun b3 =>
 Q (.g (.bool (!b3))) H1) := by kernel_rfl
theorem page_all_int_ok (E : Nat → Sm) (hE : ∀ f, SoundC Go.Proofs.Try.prog f (E f)) : Sound Go.Proofs.Try.prog 109 (page_all_int E) := prog_ok.sound (cx := page_all_int.cx E) rfl (EnvOK.cons ((slices_ContainsFunc__int_int_ok (dynOf [(122, (page_all_int_1 E))]) (dynOf_ok (EnvOK.cons ((page_all_int_1_ok E hE).c ⟨_, Go.Proofs.Try.func122, by kernel_rfl, by kernel_rfl⟩) (EnvOK.nil _)))).c ⟨_, Go.Proofs.Try.func121, by kernel_rfl, by kernel_rfl⟩) (EnvOK.nil _)) hE Go.Proofs.Try.func109 rfl

/-! 124: slices.Values[[]int,int] -/
def slices_Values__int_int.cx (E : Nat → Sm) : Cx := ⟨tys, [1], [], [], [], E, [.tmp 2]⟩
def slices_Values__int_int (E : Nat → Sm) : Sm := fun xs H Q => ∃ k, callK (slices_Values__int_int.cx E) Go.Proofs.Try.f124 k xs H Q
theorem slices_Values__int_int_eq (E : Nat → Sm) (k : Nat) (z0 : Pl) (z0n : Nat) (H : Hp) (Q : Post) : callK (slices_Values__int_int.cx E) Go.Proofs.Try.f124 (k + 1) [.g (.sl z0 z0n 1)] H Q = (
 Q (.g (.fn 129 [((ln H), 0)])) (pu H (.row true 22 [(.sl z0 z0n 1)]))) := by kernel_rfl
theorem slices_Values__int_int_ok (E : Nat → Sm) (hE : ∀ f, SoundC Go.Proofs.Try.prog f (E f)) : Sound Go.Proofs.Try.prog 124 (slices_Values__int_int E) := prog_ok.sound (cx := slices_Values__int_int.cx E) rfl (EnvOK.nil _) hE Go.Proofs.Try.func124 rfl

/-! 127: slices.Collect[int] -/
def slices_Collect_int.cx : Cx := ⟨tys, [], [], [], [(130, slices_AppendSeq__int_int)], noDyn, [.tmp 2]⟩
def slices_Collect_int : Sm := fun xs H Q => ∃ k, callK (slices_Collect_int.cx) Go.Proofs.Try.f127 k xs H Q
theorem slices_Collect_int_eq (k : Nat) (z0 : Nat) (z0c : List (Nat × Nat)) (H : Hp) (Q : Post) : callK (slices_Collect_int.cx) Go.Proofs.Try.f127 (k + 1) [.g (.fn z0 z0c)] H Q = (
 cl slices_AppendSeq__int_int [(.g (.sl none 0 1)), (.g (.fn z0 z0c))] H fun r0 H1 =>
 rG r0 fun v2 =>
 dL 1 v2 fun x3 n4 =>
 Q (.g (.sl x3 n4 1)) H1) := by kernel_rfl
theorem slices_Collect_int_ok : Sound Go.Proofs.Try.prog 127 (slices_Collect_int) := prog_ok.sound (cx := slices_Collect_int.cx) rfl (EnvOK.cons (slices_AppendSeq__int_int_ok) (EnvOK.nil _)) (noDyn_ok _) Go.Proofs.Try.func127 rfl

/-! 123: slices.Sorted[int] -/
def slices_Sorted_int.cx : Cx := ⟨tys, [], [], [], [(127, slices_Collect_int), (128, slices_Sort__int_int)], noDyn, [.tmp 2]⟩
def slices_Sorted_int : Sm := fun xs H Q => ∃ k, callK (slices_Sorted_int.cx) Go.Proofs.Try.f123 k xs H Q
theorem slices_Sorted_int_eq (k : Nat) (z0 : Nat) (z0c : List (Nat × Nat)) (H : Hp) (Q : Post) : callK (slices_Sorted_int.cx) Go.Proofs.Try.f123 (k + 1) [.g (.fn z0 z0c)] H Q = (
 cl slices_Collect_int [(.g (.fn z0 z0c))] H fun r0 H1 =>
 rG r0 fun v2 =>
 dL 1 v2 fun x3 n4 =>
 cl slices_Sort__int_int [(.g (.sl x3 n4 1))] H1 fun r5 H6 =>
 Q (.g (.sl x3 n4 1)) H6) := by kernel_rfl
theorem slices_Sorted_int_ok : Sound Go.Proofs.Try.prog 123 (slices_Sorted_int) := prog_ok.sound (cx := slices_Sorted_int.cx) rfl (EnvOK.cons ((slices_Collect_int_ok).c ⟨_, Go.Proofs.Try.func127, by kernel_rfl, by kernel_rfl⟩) (EnvOK.cons (slices_Sort__int_int_ok) (EnvOK.nil _))) (noDyn_ok _) Go.Proofs.Try.func123 rfl

/-! 125: slices.Compact[[]int,int] -/
def slices_Compact__int_int.cx : Cx := ⟨tys, [], [(4, [0, 3]), (9, [0, 3, 4, 5])], [], [], noDyn, [.tmp 2]⟩
def slices_Compact__int_int : Sm := fun xs H Q => ∃ k, callK (slices_Compact__int_int.cx) Go.Proofs.Try.f125 k xs H Q
def slices_Compact__int_int.l4 (k : Nat) (xx0 : Pl) (nx1 : Nat) (ix2 : Int) (H : Hp) (Q : Post) : Prop := loopK (slices_Compact__int_int.cx) Go.Proofs.Try.f125 4 k ((.g (.sl xx0 nx1 1)) :: .bad :: .bad :: (.g (.int .i64 ix2)) :: B 57 ([])) H Q
def slices_Compact__int_int.l9 (k : Nat) (xx0 : Pl) (nx1 : Nat) (ix2 : Int) (xx3 : Pl) (nx4 : Nat) (ix5 : Int) (H : Hp) (Q : Post) : Prop := loopK (slices_Compact__int_int.cx) Go.Proofs.Try.f125 9 k ((.g (.sl xx0 nx1 1)) :: .bad :: .bad :: (.g (.int .i64 ix2)) :: (.g (.sl xx3 nx4 1)) :: (.g (.int .i64 ix5)) :: B 55 ([])) H Q
theorem slices_Compact__int_int_eq (k : Nat) (z0 : Pl) (z0n : Nat) (H : Hp) (Q : Post) : callK (slices_Compact__int_int.cx) Go.Proofs.Try.f125 (k + 1) [.g (.sl z0 z0n 1)] H Q = (
 bite (ltI (nI z0n) 2)
 (Q (.g (.sl z0 z0n 1)) H)
 (slices_Compact__int_int.l4 k z0 z0n 1 H Q)) := by kernel_rfl
theorem slices_Compact__int_int.l4_eq (k : Nat) (xx0 : Pl) (nx1 : Nat) (ix2 : Int) (H : Hp) (Q : Post) : slices_Compact__int_int.l4 (k + 1) xx0 nx1 ix2 H Q = (
 bite (ltI ix2 (nI nx1))
 (chk true (chk ((leI 0 ix2) && (ltI ix2 (nI nx1))) (pS xx0 fun n0 n1 =>
  rd H n0 (n1 + ((tN ix2) * 1)) fun v2 =>
  dI .i64 v2 fun i3 =>
  chk true (chk ((leI 0 (wrapI .i64 (ix2 - 1))) && (ltI (wrapI .i64 (ix2 - 1)) (nI nx1))) (pS xx0 fun n4 n5 =>
  rd H n4 (n5 + ((tN (wrapI .i64 (ix2 - 1))) * 1)) fun v6 =>
  dI .i64 v6 fun i7 =>
  bite (eqI i3 i7)
  (chk true (chk (leI 0 ix2) (chk (leN (tN ix2) nx1) (slices_Compact__int_int.l9 k xx0 nx1 ix2 (shf xx0 ((tN ix2) * 1)) (nx1 - (tN ix2)) 1 H Q))))
  (slices_Compact__int_int.l4 k xx0 nx1 (wrapI .i64 (ix2 + 1)) H Q))))))
 (Q (.g (.sl xx0 nx1 1)) H)) := by kernel_rfl
theorem slices_Compact__int_int.l9_eq (k : Nat) (xx0 : Pl) (nx1 : Nat) (ix2 : Int) (xx3 : Pl) (nx4 : Nat) (ix5 : Int) (H : Hp) (Q : Post) : slices_Compact__int_int.l9 (k + 1) xx0 nx1 ix2 xx3 nx4 ix5 H Q = (
 bite (ltI ix5 (nI nx4))
 (chk true (chk ((leI 0 ix5) && (ltI ix5 (nI nx4))) (pS xx3 fun n0 n1 =>
  rd H n0 (n1 + ((tN ix5) * 1)) fun v2 =>
  dI .i64 v2 fun i3 =>
  chk true (chk ((leI 0 (wrapI .i64 (ix5 - 1))) && (ltI (wrapI .i64 (ix5 - 1)) (nI nx4))) (pS xx3 fun n4 n5 =>
  rd H n4 (n5 + ((tN (wrapI .i64 (ix5 - 1))) * 1)) fun v6 =>
  dI .i64 v6 fun i7 =>
  bite (!(eqI i3 i7))
  (chk true (chk ((leI 0 ix5) && (ltI ix5 (nI nx4))) (pS xx3 fun n8 n9 =>
   rd H n8 (n9 + ((tN ix5) * 1)) fun v10 =>
   dI .i64 v10 fun i11 =>
   chk true (chk ((leI 0 ix2) && (ltI ix2 (nI nx1))) (pS xx0 fun n12 n13 =>
   wr H n12 (n13 + ((tN ix2) * 1)) (.int .i64 i11) fun H14 =>
   slices_Compact__int_int.l9 k xx0 nx1 (wrapI .i64 (ix2 + 1)) xx3 nx4 (wrapI .i64 (ix5 + 1)) H14 Q)))))
  (slices_Compact__int_int.l9 k xx0 nx1 ix2 xx3 nx4 (wrapI .i64 (ix5 + 1)) H Q))))))
 (chk true (chk (leI 0 ix2) (chk (leN (tN ix2) nx1) (chk true (clr H (shf xx0 ((tN ix2) * 1)) (nx1 - (tN ix2)) [(.int .i64 0)] fun H15 =>
  chk true (chk (leI 0 ix2) (chk ((leN 0 (tN ix2)) && ((leN (tN ix2) nx1) || (room H15 xx0 ((tN ix2) * 1)))) (Q (.g (.sl (shf xx0 0) ((tN ix2) - 0) 1)) H15))))))))) := by kernel_rfl
theorem slices_Compact__int_int_ok : Sound Go.Proofs.Try.prog 125 (slices_Compact__int_int) := prog_ok.sound (cx := slices_Compact__int_int.cx) rfl (EnvOK.nil _) (noDyn_ok _) Go.Proofs.Try.func125 rfl

/-! 111: cryostat/page.unlike -/
def page_unlike.cx (E : Nat → Sm) : Cx := ⟨tys, [], [], [], [(124, (slices_Values__int_int E)), (123, slices_Sorted_int), (125, slices_Compact__int_int)], E, [.tmp 2]⟩
def page_unlike (E : Nat → Sm) : Sm := fun xs H Q => ∃ k, callK (page_unlike.cx E) Go.Proofs.Try.f111 k xs H Q
theorem page_unlike_eq (E : Nat → Sm) (k : Nat) (z0 : Pl) (z0n : Nat) (H : Hp) (Q : Post) : callK (page_unlike.cx E) Go.Proofs.Try.f111 (k + 1) [.g (.sl z0 z0n 1)] H Q = (
 cl (slices_Values__int_int E) [(.g (.sl z0 z0n 1))] H fun r0 H1 =>
 rG r0 fun v2 =>
 cl slices_Sorted_int [(.g v2)] H1 fun r3 H4 =>
 rG r3 fun v5 =>
 dL 1 v5 fun x6 n7 =>
 cl slices_Compact__int_int [(.g (.sl x6 n7 1))] H4 fun r8 H9 =>
 rG r8 fun v10 =>
 dL 1 v10 fun x11 n12 =>
 Q (.g (.bool (eqI (nI n12) (nI z0n)))) H9) := by kernel_rfl
theorem page_unlike_ok (E : Nat → Sm) (hE : ∀ f, SoundC Go.Proofs.Try.prog f (E f)) : Sound Go.Proofs.Try.prog 111 (page_unlike E) := prog_ok.sound (cx := page_unlike.cx E) rfl (EnvOK.cons ((slices_Values__int_int_ok E hE).c ⟨_, Go.Proofs.Try.func124, by kernel_rfl, by kernel_rfl⟩) (EnvOK.cons ((slices_Sorted_int_ok).c ⟨_, Go.Proofs.Try.func123, by kernel_rfl, by kernel_rfl⟩) (EnvOK.cons ((slices_Compact__int_int_ok).c ⟨_, Go.Proofs.Try.func125, by kernel_rfl, by kernel_rfl⟩) (EnvOK.nil _)))) hE Go.Proofs.Try.func111 rfl

/-! 107: cryostat/page.Key -/
def page_Key.cx : Cx := ⟨tys, [], [], [], [], noDyn, [.tmp 2]⟩
def page_Key : Sm := fun xs H Q => ∃ k, callK (page_Key.cx) Go.Proofs.Try.f107 k xs H Q
theorem page_Key_eq (k : Nat) (z0 : ByteArray) (H : Hp) (Q : Post) : callK (page_Key.cx) Go.Proofs.Try.f107 (k + 1) [.g (.str z0)] H Q = (
 bite (leI 1 (sz z0))
 (Q (.g (.bool (leI (sz z0) 6))) H)
 (Q (.g (.bool false)) H)) := by kernel_rfl
theorem page_Key_ok : Sound Go.Proofs.Try.prog 107 (page_Key) := prog_ok.sound (cx := page_Key.cx) rfl (EnvOK.nil _) (noDyn_ok _) Go.Proofs.Try.func107 rfl

/-! 108: cryostat/page.Value -/
def page_Value.cx : Cx := ⟨tys, [], [], [], [], noDyn, [.tmp 2]⟩
def page_Value : Sm := fun xs H Q => ∃ k, callK (page_Value.cx) Go.Proofs.Try.f108 k xs H Q
theorem page_Value_eq (k : Nat) (z0 : ByteArray) (H : Hp) (Q : Post) : callK (page_Value.cx) Go.Proofs.Try.f108 (k + 1) [.g (.str z0)] H Q = (
 Q (.g (.bool (leI (sz z0) 10))) H) := by kernel_rfl
theorem page_Value_ok : Sound Go.Proofs.Try.prog 108 (page_Value) := prog_ok.sound (cx := page_Value.cx) rfl (EnvOK.nil _) (noDyn_ok _) Go.Proofs.Try.func108 rfl

/-! 110: cryostat/page.Kid -/
def page_Kid.cx : Cx := ⟨tys, [], [], [], [], noDyn, [.tmp 2]⟩
def page_Kid : Sm := fun xs H Q => ∃ k, callK (page_Kid.cx) Go.Proofs.Try.f110 k xs H Q
theorem page_Kid_eq (k : Nat) (z0 : Int) (H : Hp) (Q : Post) : callK (page_Kid.cx) Go.Proofs.Try.f110 (k + 1) [.g (.int .i64 z0)] H Q = (
 bite (leI 1 z0)
 (Q (.g (.bool (ltI z0 48))) H)
 (Q (.g (.bool false)) H)) := by kernel_rfl
theorem page_Kid_ok : Sound Go.Proofs.Try.prog 110 (page_Kid) := prog_ok.sound (cx := page_Kid.cx) rfl (EnvOK.nil _) (noDyn_ok _) Go.Proofs.Try.func110 rfl

/-! 78: cryostat/page.Fits -/
def page_Fits.cx : Cx := ⟨tys, [], [], [], [(105, page_rising), (106, (page_all_string (dynOf [(107, page_Key), (108, page_Value), (110, page_Kid)]))), (109, (page_all_int (dynOf [(107, page_Key), (108, page_Value), (110, page_Kid)]))), (111, (page_unlike (dynOf [(107, page_Key), (108, page_Value), (110, page_Kid)])))], noDyn, [.tmp 2]⟩
def page_Fits : Sm := fun xs H Q => ∃ k, callK (page_Fits.cx) Go.Proofs.Try.f78 k xs H Q
theorem page_Fits_eq (k : Nat) (z0 : Bool) (z1 : Bool) (z2 : Pl) (z2n : Nat) (z3 : Pl) (z3n : Nat) (z4 : Pl) (z4n : Nat) (H : Hp) (Q : Post) : callK (page_Fits.cx) Go.Proofs.Try.f78 (k + 1) [.agg [.bool z0, .bool z1, .sl z2 z2n 1, .sl z3 z3n 1, .sl z4 z4n 1]] H Q = (
 bite (!z0)
 (Q (.g (.bool false)) H)
 (cl page_rising [(.g (.sl z2 z2n 1))] H fun r0 H1 =>
  rG r0 fun v2 =>
  dB v2 fun b3 =>
  bite (!b3)
  (Q (.g (.bool false)) H1)
  (cl (page_all_string (dynOf [(107, page_Key), (108, page_Value), (110, page_Kid)])) [(.g (.sl z2 z2n 1)), (.g (.fn 107 []))] H1 fun r4 H5 =>
   rG r4 fun v6 =>
   dB v6 fun b7 =>
   bite (!b7)
   (Q (.g (.bool false)) H5)
   (bite z1
    (bite (eqI (nI z3n) (nI z2n))
     (bite (eqI (nI z4n) 0)
      (cl (page_all_string (dynOf [(107, page_Key), (108, page_Value), (110, page_Kid)])) [(.g (.sl z3 z3n 1)), (.g (.fn 108 []))] H5 fun r8 H9 =>
       rG r8 fun v10 =>
       dB v10 fun b11 =>
       Q (.g (.bool b11)) H9)
      (Q (.g (.bool false)) H5))
     (Q (.g (.bool false)) H5))
    (bite (leI 1 (nI z2n))
     (bite (eqI (nI z3n) 0)
      (bite (eqI (nI z4n) (wrapI .i64 ((nI z2n) + 1)))
       (cl (page_all_int (dynOf [(107, page_Key), (108, page_Value), (110, page_Kid)])) [(.g (.sl z4 z4n 1)), (.g (.fn 110 []))] H5 fun r12 H13 =>
        rG r12 fun v14 =>
        dB v14 fun b15 =>
        bite b15
        (cl (page_unlike (dynOf [(107, page_Key), (108, page_Value), (110, page_Kid)])) [(.g (.sl z4 z4n 1))] H13 fun r16 H17 =>
         rG r16 fun v18 =>
         dB v18 fun b19 =>
         Q (.g (.bool b19)) H17)
        (Q (.g (.bool false)) H13))
       (Q (.g (.bool false)) H5))
      (Q (.g (.bool false)) H5))
     (Q (.g (.bool false)) H5)))))) := by kernel_rfl
theorem page_Fits_ok : Sound Go.Proofs.Try.prog 78 (page_Fits) := prog_ok.sound (cx := page_Fits.cx) rfl (EnvOK.cons ((page_rising_ok).c ⟨_, Go.Proofs.Try.func105, by kernel_rfl, by kernel_rfl⟩) (EnvOK.cons ((page_all_string_ok (dynOf [(107, page_Key), (108, page_Value), (110, page_Kid)]) (dynOf_ok (EnvOK.cons ((page_Key_ok).c ⟨_, Go.Proofs.Try.func107, by kernel_rfl, by kernel_rfl⟩) (EnvOK.cons ((page_Value_ok).c ⟨_, Go.Proofs.Try.func108, by kernel_rfl, by kernel_rfl⟩) (EnvOK.cons ((page_Kid_ok).c ⟨_, Go.Proofs.Try.func110, by kernel_rfl, by kernel_rfl⟩) (EnvOK.nil _)))))).c ⟨_, Go.Proofs.Try.func106, by kernel_rfl, by kernel_rfl⟩) (EnvOK.cons ((page_all_int_ok (dynOf [(107, page_Key), (108, page_Value), (110, page_Kid)]) (dynOf_ok (EnvOK.cons ((page_Key_ok).c ⟨_, Go.Proofs.Try.func107, by kernel_rfl, by kernel_rfl⟩) (EnvOK.cons ((page_Value_ok).c ⟨_, Go.Proofs.Try.func108, by kernel_rfl, by kernel_rfl⟩) (EnvOK.cons ((page_Kid_ok).c ⟨_, Go.Proofs.Try.func110, by kernel_rfl, by kernel_rfl⟩) (EnvOK.nil _)))))).c ⟨_, Go.Proofs.Try.func109, by kernel_rfl, by kernel_rfl⟩) (EnvOK.cons ((page_unlike_ok (dynOf [(107, page_Key), (108, page_Value), (110, page_Kid)]) (dynOf_ok (EnvOK.cons ((page_Key_ok).c ⟨_, Go.Proofs.Try.func107, by kernel_rfl, by kernel_rfl⟩) (EnvOK.cons ((page_Value_ok).c ⟨_, Go.Proofs.Try.func108, by kernel_rfl, by kernel_rfl⟩) (EnvOK.cons ((page_Kid_ok).c ⟨_, Go.Proofs.Try.func110, by kernel_rfl, by kernel_rfl⟩) (EnvOK.nil _)))))).c ⟨_, Go.Proofs.Try.func111, by kernel_rfl, by kernel_rfl⟩) (EnvOK.nil _))))) (noDyn_ok _) Go.Proofs.Try.func78 rfl

/-! 80: cryostat/page.May -/
def page_May.cx : Cx := ⟨tys, [], [], [], [(78, page_Fits)], noDyn, [.tmp 2]⟩
def page_May : Sm := fun xs H Q => ∃ k, callK (page_May.cx) Go.Proofs.Try.f80 k xs H Q
theorem page_May_eq (k : Nat) (z0 : Bool) (z1 : Bool) (z2 : Pl) (z2n : Nat) (z3 : Pl) (z3n : Nat) (z4 : Pl) (z4n : Nat) (H : Hp) (Q : Post) : callK (page_May.cx) Go.Proofs.Try.f80 (k + 1) [.agg [.bool z0, .bool z1, .sl z2 z2n 1, .sl z3 z3n 1, .sl z4 z4n 1]] H Q = (
 bite (leI (nI z2n) 4)
 (cl page_Fits [(.agg [(.bool z0), (.bool z1), (.sl z2 z2n 1), (.sl z3 z3n 1), (.sl z4 z4n 1)])] H fun r0 H1 =>
  rG r0 fun v2 =>
  dB v2 fun b3 =>
  Q (.g (.bool b3)) H1)
 (Q (.g (.bool false)) H)) := by kernel_rfl
theorem page_May_ok : Sound Go.Proofs.Try.prog 80 (page_May) := prog_ok.sound (cx := page_May.cx) rfl (EnvOK.cons ((page_Fits_ok).c ⟨_, Go.Proofs.Try.func78, by kernel_rfl, by kernel_rfl⟩) (EnvOK.nil _)) (noDyn_ok _) Go.Proofs.Try.func80 rfl

/-! 84: cryostat/cryostatlaw0.SameTexts -/
def law0_SameTexts.cx : Cx := ⟨tys, [], [(4, [0, 1, 5])], [], [], noDyn, [.tmp 4]⟩
def law0_SameTexts : Sm := fun xs H Q => ∃ k, callK (law0_SameTexts.cx) Go.Proofs.Try.f84 k xs H Q
def law0_SameTexts.l4 (k : Nat) (xx0 : Pl) (nx1 : Nat) (xx2 : Pl) (nx3 : Nat) (ix4 : Int) (H : Hp) (Q : Post) : Prop := loopK (law0_SameTexts.cx) Go.Proofs.Try.f84 4 k ((.g (.sl xx0 nx1 1)) :: (.g (.sl xx2 nx3 1)) :: B 3 ((.g (.int .i64 ix4)) :: B 20 ([]))) H Q
theorem law0_SameTexts_eq (k : Nat) (z0 : Pl) (z0n : Nat) (z1 : Pl) (z1n : Nat) (H : Hp) (Q : Post) : callK (law0_SameTexts.cx) Go.Proofs.Try.f84 (k + 1) [.g (.sl z0 z0n 1), .g (.sl z1 z1n 1)] H Q = (
 bite (!(eqI (nI z0n) (nI z1n)))
 (Q (.g (.bool false)) H)
 (law0_SameTexts.l4 k z0 z0n z1 z1n 0 H Q)) := by kernel_rfl
theorem law0_SameTexts.l4_eq (k : Nat) (xx0 : Pl) (nx1 : Nat) (xx2 : Pl) (nx3 : Nat) (ix4 : Int) (H : Hp) (Q : Post) : law0_SameTexts.l4 (k + 1) xx0 nx1 xx2 nx3 ix4 H Q = (
 bite (ltI ix4 (nI nx1))
 (chk true (chk ((leI 0 ix4) && (ltI ix4 (nI nx1))) (pS xx0 fun n0 n1 =>
  rd H n0 (n1 + ((tN ix4) * 1)) fun v2 =>
  dS v2 fun s3 =>
  chk true (chk ((leI 0 ix4) && (ltI ix4 (nI nx3))) (pS xx2 fun n4 n5 =>
  rd H n4 (n5 + ((tN ix4) * 1)) fun v6 =>
  dS v6 fun s7 =>
  bite (!(strEq s3 s7))
  (Q (.g (.bool false)) H)
  (law0_SameTexts.l4 k xx0 nx1 xx2 nx3 (wrapI .i64 (ix4 + 1)) H Q))))))
 (Q (.g (.bool true)) H)) := by kernel_rfl
theorem law0_SameTexts_ok : Sound Go.Proofs.Try.prog 84 (law0_SameTexts) := prog_ok.sound (cx := law0_SameTexts.cx) rfl (EnvOK.nil _) (noDyn_ok _) Go.Proofs.Try.func84 rfl

/-! 85: cryostat/cryostatlaw0.SameInts -/
def law0_SameInts.cx : Cx := ⟨tys, [], [(4, [0, 1, 5])], [], [], noDyn, [.tmp 4]⟩
def law0_SameInts : Sm := fun xs H Q => ∃ k, callK (law0_SameInts.cx) Go.Proofs.Try.f85 k xs H Q
def law0_SameInts.l4 (k : Nat) (xx0 : Pl) (nx1 : Nat) (xx2 : Pl) (nx3 : Nat) (ix4 : Int) (H : Hp) (Q : Post) : Prop := loopK (law0_SameInts.cx) Go.Proofs.Try.f85 4 k ((.g (.sl xx0 nx1 1)) :: (.g (.sl xx2 nx3 1)) :: B 3 ((.g (.int .i64 ix4)) :: B 20 ([]))) H Q
theorem law0_SameInts_eq (k : Nat) (z0 : Pl) (z0n : Nat) (z1 : Pl) (z1n : Nat) (H : Hp) (Q : Post) : callK (law0_SameInts.cx) Go.Proofs.Try.f85 (k + 1) [.g (.sl z0 z0n 1), .g (.sl z1 z1n 1)] H Q = (
 bite (!(eqI (nI z0n) (nI z1n)))
 (Q (.g (.bool false)) H)
 (law0_SameInts.l4 k z0 z0n z1 z1n 0 H Q)) := by kernel_rfl
theorem law0_SameInts.l4_eq (k : Nat) (xx0 : Pl) (nx1 : Nat) (xx2 : Pl) (nx3 : Nat) (ix4 : Int) (H : Hp) (Q : Post) : law0_SameInts.l4 (k + 1) xx0 nx1 xx2 nx3 ix4 H Q = (
 bite (ltI ix4 (nI nx1))
 (chk true (chk ((leI 0 ix4) && (ltI ix4 (nI nx1))) (pS xx0 fun n0 n1 =>
  rd H n0 (n1 + ((tN ix4) * 1)) fun v2 =>
  dI .i64 v2 fun i3 =>
  chk true (chk ((leI 0 ix4) && (ltI ix4 (nI nx3))) (pS xx2 fun n4 n5 =>
  rd H n4 (n5 + ((tN ix4) * 1)) fun v6 =>
  dI .i64 v6 fun i7 =>
  bite (!(eqI i3 i7))
  (Q (.g (.bool false)) H)
  (law0_SameInts.l4 k xx0 nx1 xx2 nx3 (wrapI .i64 (ix4 + 1)) H Q))))))
 (Q (.g (.bool true)) H)) := by kernel_rfl
theorem law0_SameInts_ok : Sound Go.Proofs.Try.prog 85 (law0_SameInts) := prog_ok.sound (cx := law0_SameInts.cx) rfl (EnvOK.nil _) (noDyn_ok _) Go.Proofs.Try.func85 rfl

/-! 56: cryostat/cryostatlaw0.SamePage -/
def law0_SamePage.cx : Cx := ⟨tys, [], [], [], [(84, law0_SameTexts), (85, law0_SameInts)], noDyn, [.tmp 4]⟩
def law0_SamePage : Sm := fun xs H Q => ∃ k, callK (law0_SamePage.cx) Go.Proofs.Try.f56 k xs H Q
theorem law0_SamePage_eq (k : Nat) (z0 : Bool) (z1 : Bool) (z2 : Pl) (z2n : Nat) (z3 : Pl) (z3n : Nat) (z4 : Pl) (z4n : Nat) (z5 : Bool) (z6 : Bool) (z7 : Pl) (z7n : Nat) (z8 : Pl) (z8n : Nat) (z9 : Pl) (z9n : Nat) (H : Hp) (Q : Post) : callK (law0_SamePage.cx) Go.Proofs.Try.f56 (k + 1) [.agg [.bool z0, .bool z1, .sl z2 z2n 1, .sl z3 z3n 1, .sl z4 z4n 1], .agg [.bool z5, .bool z6, .sl z7 z7n 1, .sl z8 z8n 1, .sl z9 z9n 1]] H Q = (
 bite (eqB z0 z5)
 (bite (eqB z1 z6)
  (cl law0_SameTexts [(.g (.sl z2 z2n 1)), (.g (.sl z7 z7n 1))] H fun r0 H1 =>
   rG r0 fun v2 =>
   dB v2 fun b3 =>
   bite b3
   (cl law0_SameTexts [(.g (.sl z3 z3n 1)), (.g (.sl z8 z8n 1))] H1 fun r4 H5 =>
    rG r4 fun v6 =>
    dB v6 fun b7 =>
    bite b7
    (cl law0_SameInts [(.g (.sl z4 z4n 1)), (.g (.sl z9 z9n 1))] H5 fun r8 H9 =>
     rG r8 fun v10 =>
     dB v10 fun b11 =>
     Q (.g (.bool b11)) H9)
    (Q (.g (.bool false)) H5))
   (Q (.g (.bool false)) H1))
  (Q (.g (.bool false)) H))
 (Q (.g (.bool false)) H)) := by kernel_rfl
theorem law0_SamePage_ok : Sound Go.Proofs.Try.prog 56 (law0_SamePage) := prog_ok.sound (cx := law0_SamePage.cx) rfl (EnvOK.cons ((law0_SameTexts_ok).c ⟨_, Go.Proofs.Try.func84, by kernel_rfl, by kernel_rfl⟩) (EnvOK.cons ((law0_SameInts_ok).c ⟨_, Go.Proofs.Try.func85, by kernel_rfl, by kernel_rfl⟩) (EnvOK.nil _))) (noDyn_ok _) Go.Proofs.Try.func56 rfl

/-! 23: cryostat/cryostatlaw0.Num -/
def law0_Num.cx : Cx := ⟨tys, [], [], [], [], noDyn, [.tmp 2]⟩
def law0_Num : Sm := fun xs H Q => ∃ k, callK (law0_Num.cx) Go.Proofs.Try.f23 k xs H Q
theorem law0_Num_eq (k : Nat) (z0 : Int) (H : Hp) (Q : Post) : callK (law0_Num.cx) Go.Proofs.Try.f23 (k + 1) [.g (.int .i64 z0)] H Q = (
 Q (.g (.int .i64 z0)) H) := by kernel_rfl
theorem law0_Num_ok : Sound Go.Proofs.Try.prog 23 (law0_Num) := prog_ok.sound (cx := law0_Num.cx) rfl (EnvOK.nil _) (noDyn_ok _) Go.Proofs.Try.func23 rfl

end Go.Am
namespace Go.Am
abbrev tS : Nat := 9
abbrev tI : Nat := 3
abbrev tB : Nat := 4
abbrev tU8 : Nat := 5
abbrev tPg : Nat := 41
abbrev tPgs : Nat := 32
abbrev tTr : Nat := 34
abbrev tSs : Nat := 25
abbrev tIs : Nat := 22
abbrev tU8s : Nat := 26
abbrev tKV : Nat := 53
abbrev tKVs : Nat := 37
abbrev tWalk : Nat := 129
abbrev tBelow : Nat := 145
abbrev tLevel : Nat := 101
abbrev tImg : Nat := 76
abbrev tImgs : Nat := 66
abbrev tPager : Nat := 73
abbrev tEraser : Nat := 116
abbrev tTaker : Nat := 141
abbrev tErr : Nat := 30
abbrev tFnS : Nat := 135
abbrev tFnI : Nat := 137
abbrev fKey : Nat := 107
abbrev fVal : Nat := 108
abbrev fKid : Nat := 110
abbrev fAllS : Nat := 120
abbrev fAllI : Nat := 122
abbrev fLong : Nat := 92
end Go.Am
namespace Go.Am

theorem dynOf_hit {f : Nat} {s : Sm} {l : List (Nat × Sm)} : dynOf ((f, s) :: l) f = s := by simp [dynOf, List.lookup]
theorem dynOf_miss {f g : Nat} {s : Sm} {l : List (Nat × Sm)} (h : f ≠ g) : dynOf ((g, s) :: l) f = dynOf l f := by
  unfold dynOf
  rw [List.lookup_cons, show (f == g) = false by simpa using h]

theorem page_Key_spec {s : ByteArray} {H : Hp} {Q : Post} (hQ : Q (.g (.bool (decide (1 ≤ s.size) && decide (s.size ≤ 6)))) H) : page_Key [.g (.str s)] H Q := by
  refine ⟨1, ?_⟩
  rw [page_Key_eq]
  refine bite_of (fun h => ?_) (fun h => ?_)
  · simp only [leI_def, sz_def, decide_eq_true_eq] at h ⊢
    rw [decide_eq_true (show 1 ≤ s.size by omega), Bool.true_and] at hQ
    rw [show decide ((s.size : Int) ≤ 6) = decide (s.size ≤ 6) by rw [decide_eq_decide]; omega]
    exact hQ
  · simp only [leI_def, sz_def, decide_eq_false_iff_not] at h
    rw [decide_eq_false (show ¬ 1 ≤ s.size by omega)] at hQ
    simpa using hQ
theorem page_Value_spec {s : ByteArray} {H : Hp} {Q : Post} (hQ : Q (.g (.bool (decide (s.size ≤ 10)))) H) : page_Value [.g (.str s)] H Q := by
  refine ⟨1, ?_⟩
  rw [page_Value_eq]
  simp only [leI_def, sz_def]
  rw [show decide ((s.size : Int) ≤ 10) = decide (s.size ≤ 10) by rw [decide_eq_decide]; omega]
  exact hQ
theorem page_Kid_spec {k : Int} {H : Hp} {Q : Post} (hQ : Q (.g (.bool (decide (1 ≤ k) && decide (k < 48)))) H) : page_Kid [.g (.int .i64 k)] H Q := by
  refine ⟨1, ?_⟩
  rw [page_Kid_eq]
  refine bite_of (fun h => ?_) (fun h => ?_)
  · simp only [leI_def, ltI_def] at h ⊢
    rw [h] at hQ
    simpa using hQ
  · simp only [leI_def, ltI_def] at h
    rw [h] at hQ
    simpa using hQ

/-! rising -/
def Rising (xs : List ByteArray) : Prop := ∀ i, (h : i + 1 < xs.length) → strLt (xs[i]'(by omega)) xs[i + 1] = true

theorem page_rising_loop {H : Hp} {Q : Post} {a : Pl} {n : Nat} {xs : List ByteArray} (h : Ss H a n xs) (hQ : ∀ b, (b = true ↔ Rising xs) → Q (.g (.bool b)) H) :
    ∀ m k : Nat, xs.length - k = m → (∀ i, (hi : i + 1 < xs.length) → i < k → strLt (xs[i]'(by omega)) xs[i + 1] = true) → ∃ f, page_rising.l2 f a n ((k + 1 : Nat) : Int) H Q := by
  intro m
  have hn := h.len
  have hlim := h.lim
  induction m with
  | zero =>
    intro k hm hk
    refine ⟨1, ?_⟩
    rw [page_rising.l2_eq, show ltI ((k + 1 : Nat) : Int) (nI n) = false by simp; omega, bite_false]
    exact hQ true ⟨fun _ i hi => hk i hi (by omega), fun _ => rfl⟩
  | succ m ih =>
    intro k hm hk
    by_cases hkn : k + 1 < xs.length
    · have hlt : ltI ((k + 1 : Nat) : Int) (nI n) = true := by simp; omega
      cases hs : strLt (xs[k]'(by omega)) xs[k + 1] with
      | true =>
        obtain ⟨f, hf⟩ := ih (k + 1) (by omega) (fun i hi hik => by
          by_cases e : i = k
          · subst e; exact hs
          · exact hk i hi (by omega))
        refine ⟨f + 1, ?_⟩
        rw [page_rising.l2_eq, bite_t hlt, chk_true, h.rd k (wrap_pred (by omega)) (by omega), chk_true, h.rd (k + 1) rfl hkn, bite_f (by rw [hs]; rfl), wrap_succ (by omega)]
        exact hf
      | false =>
        refine ⟨1, ?_⟩
        rw [page_rising.l2_eq, bite_t hlt, chk_true, h.rd k (wrap_pred (by omega)) (by omega), chk_true, h.rd (k + 1) rfl hkn, bite_t (by rw [hs]; rfl)]
        refine hQ false ⟨fun q => (by cases q), fun q => ?_⟩
        rw [q k hkn] at hs; cases hs
    · refine ⟨1, ?_⟩
      rw [page_rising.l2_eq, show ltI ((k + 1 : Nat) : Int) (nI n) = false by simp; omega, bite_false]
      exact hQ true ⟨fun _ i hi => hk i hi (by omega), fun _ => rfl⟩
theorem page_rising_spec {H : Hp} {Q : Post} {a : Pl} {n : Nat} {xs : List ByteArray} (h : Ss H a n xs) (hQ : ∀ b, (b = true ↔ Rising xs) → Q (.g (.bool b)) H) : page_rising [.g (.sl a n 1)] H Q := by
  obtain ⟨f, hf⟩ := page_rising_loop h hQ _ 0 rfl (fun i hi h => by omega)
  exact ⟨f + 1, by rw [page_rising_eq]; exact hf⟩

/-! all -/
theorem page_all_string_1_spec {E : Nat → Sm} {p : ByteArray → Bool} {f : Nat} (hE : ∀ (s : ByteArray) (H : Hp) (Q : Post), Q (.g (.bool (p s))) H → E f [.g (.str s)] H Q) {H : Hp} {Q : Post} {l : Nat} (hl : gt H l 0 = some (.fn f []))
    {s : ByteArray} (hQ : Q (.g (.bool (!(p s)))) H) : page_all_string_1 E [.g (.str s), .g (.ptr (some (l, 0)))] H Q := by
  refine ⟨1, ?_⟩
  rw [page_all_string_1_eq, rd_of hl, dF_fn]
  exact hE s H _ hQ
theorem index_string_loop {E : Nat → Sm} {p : ByteArray → Bool} {g l : Nat} {H : Hp} (hE : ∀ (s : ByteArray) (Q : Post), Q (.g (.bool (p s))) H → E g [.g (.str s), .g (.ptr (some (l, 0)))] H Q)
    {Q : Post} {a : Pl} {n : Nat} {xs : List ByteArray} (h : Ss H a n xs) (hQ : ∀ i : Int, (0 ≤ i ↔ ∃ s ∈ xs, p s = true) → Q (.g (.int .i64 i)) H) :
    ∀ m k : Nat, xs.length - k = m → k ≤ xs.length → (∀ i, (hi : i < xs.length) → i < k → p xs[i] = false) → ∃ f, slices_IndexFunc__string_string.l2 E f a n g [(l, 0)] (nI n) (k : Int) H Q := by
  intro m
  have hn := h.len
  have hlim := h.lim
  induction m with
  | zero =>
    intro k hm hle hk
    refine ⟨1, ?_⟩
    rw [slices_IndexFunc__string_string.l2_eq, show ltI (k : Int) (nI n) = false by simp; omega, bite_false]
    refine hQ _ ⟨fun q => by omega, fun ⟨s, hs, hp⟩ => ?_⟩
    obtain ⟨i, hi, rfl⟩ := List.getElem_of_mem hs
    rw [hk i hi (by omega)] at hp; cases hp
  | succ m ih =>
    intro k hm hle hk
    have hkn : k < xs.length := by omega
    have hlt : ltI (k : Int) (nI n) = true := by simp; omega
    cases hs : p xs[k] with
    | false =>
      obtain ⟨f, hf⟩ := ih (k + 1) (by omega) (by omega) (fun i hi hik => by
        by_cases e : i = k
        · subst e; exact hs
        · exact hk i hi (by omega))
      refine ⟨f + 1, ?_⟩
      rw [slices_IndexFunc__string_string.l2_eq, bite_t hlt, chk_true, h.rd k rfl hkn]
      refine hE _ _ ?_
      rw [rG_g, dB_bool, hs, bite_false, wrap_succ (by omega)]
      exact hf
    | true =>
      refine ⟨1, ?_⟩
      rw [slices_IndexFunc__string_string.l2_eq, bite_t hlt, chk_true, h.rd k rfl hkn]
      refine hE _ _ ?_
      rw [rG_g, dB_bool, hs, bite_true]
      exact hQ _ ⟨fun _ => ⟨_, List.getElem_mem hkn, hs⟩, fun _ => by omega⟩
theorem page_all_string_spec {E : Nat → Sm} {p : ByteArray → Bool} {f : Nat} (hE : ∀ (s : ByteArray) (H : Hp) (Q : Post), Q (.g (.bool (p s))) H → E f [.g (.str s)] H Q) {H : Hp} {Q : Post}
    {a : Pl} {n : Nat} {xs : List ByteArray} (h : Ss H a n xs) (hQ : ∀ b H', H <+: H' → (b = true ↔ ∀ s ∈ xs, p s = true) → Q (.g (.bool b)) H') : page_all_string E [.g (.sl a n 1), .g (.fn f [])] H Q := by
  refine ⟨1, ?_⟩
  rw [page_all_string_eq]
  have hp := pre_pu H (.row true tFnS [.fn f []])
  refine ⟨1, ?_⟩
  rw [slices_ContainsFunc__string_string_eq]
  obtain ⟨k, hk⟩ := index_string_loop (E := dynOf [(fAllS, page_all_string_1 E)]) (p := fun s => !(p s)) (g := fAllS) (l := H.length) (H := H ++ [.row true tFnS [.fn f []]])
    (fun s Q hQ => by rw [dynOf_hit]; exact page_all_string_1_spec hE (by simp [gt]) hQ) (Q := fun r H1 => rG r fun v2 => dI .i64 v2 fun i3 => rG (.g (.bool (leI 0 i3))) fun v2 => dB v2 fun b3 => Q (.g (.bool (!b3))) H1) (h.mono hp)
    (fun i hi => by
      rw [rG_g, dI_int, rG_g, dB_bool]
      refine hQ _ _ hp ?_
      simp only [leI_def, Bool.not_eq_true', decide_eq_false_iff_not]
      rw [hi]
      constructor
      · intro q s hs
        cases e : p s with
        | true => rfl
        | false => exact (q ⟨s, hs, by simp [e]⟩).elim
      · rintro q ⟨s, hs, e⟩
        rw [q s hs] at e; cases e) _ 0 rfl (Nat.zero_le _) (fun i hi h => by omega)
  refine ⟨k + 1, ?_⟩
  rw [slices_IndexFunc__string_string_eq]
  exact hk

theorem page_all_int_1_spec {E : Nat → Sm} {p : Int → Bool} {f : Nat} (hE : ∀ (s : Int) (H : Hp) (Q : Post), Q (.g (.bool (p s))) H → E f [.g (.int .i64 s)] H Q) {H : Hp} {Q : Post} {l : Nat} (hl : gt H l 0 = some (.fn f []))
    {s : Int} (hQ : Q (.g (.bool (!(p s)))) H) : page_all_int_1 E [.g (.int .i64 s), .g (.ptr (some (l, 0)))] H Q := by
  refine ⟨1, ?_⟩
  rw [page_all_int_1_eq, rd_of hl, dF_fn]
  exact hE s H _ hQ
theorem index_int_loop {E : Nat → Sm} {p : Int → Bool} {g l : Nat} {H : Hp} (hE : ∀ (s : Int) (Q : Post), Q (.g (.bool (p s))) H → E g [.g (.int .i64 s), .g (.ptr (some (l, 0)))] H Q)
    {Q : Post} {a : Pl} {n : Nat} {xs : List Int} (h : Is H a n xs) (hQ : ∀ i : Int, (0 ≤ i ↔ ∃ s ∈ xs, p s = true) → Q (.g (.int .i64 i)) H) :
    ∀ m k : Nat, xs.length - k = m → k ≤ xs.length → (∀ i, (hi : i < xs.length) → i < k → p xs[i] = false) → ∃ f, slices_IndexFunc__int_int.l2 E f a n g [(l, 0)] (nI n) (k : Int) H Q := by
  intro m
  have hn := h.len
  have hlim := h.lim
  induction m with
  | zero =>
    intro k hm hle hk
    refine ⟨1, ?_⟩
    rw [slices_IndexFunc__int_int.l2_eq, show ltI (k : Int) (nI n) = false by simp; omega, bite_false]
    refine hQ _ ⟨fun q => by omega, fun ⟨s, hs, hp⟩ => ?_⟩
    obtain ⟨i, hi, rfl⟩ := List.getElem_of_mem hs
    rw [hk i hi (by omega)] at hp; cases hp
  | succ m ih =>
    intro k hm hle hk
    have hkn : k < xs.length := by omega
    have hlt : ltI (k : Int) (nI n) = true := by simp; omega
    cases hs : p xs[k] with
    | false =>
      obtain ⟨f, hf⟩ := ih (k + 1) (by omega) (by omega) (fun i hi hik => by
        by_cases e : i = k
        · subst e; exact hs
        · exact hk i hi (by omega))
      refine ⟨f + 1, ?_⟩
      rw [slices_IndexFunc__int_int.l2_eq, bite_t hlt, chk_true, h.rd k rfl hkn]
      refine hE _ _ ?_
      rw [rG_g, dB_bool, hs, bite_false, wrap_succ (by omega)]
      exact hf
    | true =>
      refine ⟨1, ?_⟩
      rw [slices_IndexFunc__int_int.l2_eq, bite_t hlt, chk_true, h.rd k rfl hkn]
      refine hE _ _ ?_
      rw [rG_g, dB_bool, hs, bite_true]
      exact hQ _ ⟨fun _ => ⟨_, List.getElem_mem hkn, hs⟩, fun _ => by omega⟩
theorem page_all_int_spec {E : Nat → Sm} {p : Int → Bool} {f : Nat} (hE : ∀ (s : Int) (H : Hp) (Q : Post), Q (.g (.bool (p s))) H → E f [.g (.int .i64 s)] H Q) {H : Hp} {Q : Post}
    {a : Pl} {n : Nat} {xs : List Int} (h : Is H a n xs) (hQ : ∀ b H', H <+: H' → (b = true ↔ ∀ s ∈ xs, p s = true) → Q (.g (.bool b)) H') : page_all_int E [.g (.sl a n 1), .g (.fn f [])] H Q := by
  refine ⟨1, ?_⟩
  rw [page_all_int_eq]
  have hp := pre_pu H (.row true tFnI [.fn f []])
  refine ⟨1, ?_⟩
  rw [slices_ContainsFunc__int_int_eq]
  obtain ⟨k, hk⟩ := index_int_loop (E := dynOf [(fAllI, page_all_int_1 E)]) (p := fun s => !(p s)) (g := fAllI) (l := H.length) (H := H ++ [.row true tFnI [.fn f []]])
    (fun s Q hQ => by rw [dynOf_hit]; exact page_all_int_1_spec hE (by simp [gt]) hQ) (Q := fun r H1 => rG r fun v2 => dI .i64 v2 fun i3 => rG (.g (.bool (leI 0 i3))) fun v2 => dB v2 fun b3 => Q (.g (.bool (!b3))) H1) (h.mono hp)
    (fun i hi => by
      rw [rG_g, dI_int, rG_g, dB_bool]
      refine hQ _ _ hp ?_
      simp only [leI_def, Bool.not_eq_true', decide_eq_false_iff_not]
      rw [hi]
      constructor
      · intro q s hs
        cases e : p s with
        | true => rfl
        | false => exact (q ⟨s, hs, by simp [e]⟩).elim
      · rintro q ⟨s, hs, e⟩
        rw [q s hs] at e; cases e) _ 0 rfl (Nat.zero_le _) (fun i hi h => by omega)
  refine ⟨k + 1, ?_⟩
  rw [slices_IndexFunc__int_int_eq]
  exact hk
end Go.Am
namespace Go.Am

def NoAdj (zs : List Int) : Prop := ∀ i, (h : i + 1 < zs.length) → zs[i]'(by omega) ≠ zs[i + 1]

theorem Is.row {H : Hp} {l o n : Nat} {own : Bool} {t : TypeId} {ws : List Int} (h : H[l]? = some (.row own t (ws.map (GV.int .i64)))) (ho : o + n = ws.length) (hlim : n * 8 ≤ 140737488351232) : Is H (some (l, o)) n (ws.drop o) :=
  ⟨by simp only [cells?, h]; rw [if_pos (by simp; omega)]; congr 1; rw [← List.map_drop, ← List.map_take, List.take_of_length_le (by simp; omega)], by simp; omega, hlim⟩

theorem compact_l9 {H0 : Hp} {l n o n2 : Nat} {Q : Post} (hb : H0.length ≤ l) (hlim : n * 8 ≤ 140737488351232) (hon : o + n2 = n) (hQ : ∀ (j : Nat) H', H0 <+: H' → j < n → Q (.g (.sl (some (l, 0)) j 1)) H') :
    ∀ (m' m j : Nat) (H : Hp) (ws : List Int), n2 - m = m' → 1 ≤ m → m ≤ n2 → 1 ≤ j → j + 1 ≤ o + m → H0 <+: H → H[l]? = some (.row true tI (ws.map (GV.int .i64))) → ws.length = n →
      ∃ f, slices_Compact__int_int.l9 f (some (l, 0)) n (j : Int) (some (l, o)) n2 (m : Int) H Q := by
  intro m'
  induction m' with
  | zero =>
    intro m j H ws hm h1 h2 hj hjo h0 hrow hw
    refine ⟨1, ?_⟩
    obtain ⟨d, hd⟩ : ∃ d, n - j = d + 1 := ⟨n - j - 1, by omega⟩
    rw [slices_Compact__int_int.l9_eq, bite_f (by simp; omega), chk_true]
    refine chk_of (by simp) (chk_of (by simp; omega) ?_)
    simp only [tN_def, Int.toNat_natCast, Nat.mul_one, shf_some, Nat.zero_add, chk_true, hd]
    show (match H[l]? with
      | some (.row true t cs) => j + (d + 1) * 1 ≤ cs.length ∧ _
      | _ => False)
    rw [hrow]
    refine ⟨by simp; omega, chk_of (by simp) (chk_of (by simp; omega) ?_)⟩
    exact hQ j _ (pre_set h0 hb _) (by omega)
  | succ m' ih =>
    intro m j H ws hm h1 h2 hj hjo h0 hrow hw
    have hI := Is.row (o := o) (n := n2) hrow (by omega) (by omega)
    have hmn : m < (ws.drop o).length := by simp; omega
    obtain ⟨m1, rfl⟩ : ∃ m1, m = m1 + 1 := ⟨m - 1, by omega⟩
    have hm1 : m1 < (ws.drop o).length := by omega
    have hlt : ltI ((m1 + 1 : Nat) : Int) (nI n2) = true := by simp; omega
    by_cases he : (ws.drop o)[m1 + 1] = (ws.drop o)[m1]
    · obtain ⟨f, hf⟩ := ih (m1 + 1 + 1) j H ws (by omega) (by omega) (by omega) hj (by omega) h0 hrow hw
      refine ⟨f + 1, ?_⟩
      rw [slices_Compact__int_int.l9_eq, bite_t hlt, chk_true, hI.rd (m1 + 1) rfl hmn, chk_true, hI.rd m1 (wrap_pred (by omega)) hm1, bite_f (by simpa using he), wrap_succ (by omega)]
      exact hf
    · have hjn : j < (ws.map (GV.int .i64)).length := by simp; omega
      obtain ⟨f, hf⟩ := ih (m1 + 1 + 1) (j + 1) (H.set l (.row true tI ((ws.set j (ws.drop o)[m1 + 1]).map (GV.int .i64)))) (ws.set j (ws.drop o)[m1 + 1]) (by omega) (by omega) (by omega) (by omega) (by omega) (pre_set h0 hb _)
        (by rw [List.getElem?_set_self]; exact (List.getElem?_eq_some_iff.1 hrow).1) (by simpa using hw)
      refine ⟨f + 1, ?_⟩
      rw [slices_Compact__int_int.l9_eq, bite_t hlt, chk_true, hI.rd (m1 + 1) rfl hmn, chk_true, hI.rd m1 (wrap_pred (by omega)) hm1, bite_t (by simpa using he), chk_true, hI.rd (m1 + 1) rfl hmn, chk_true]
      refine chk_of (by simp; omega) ?_
      simp only [tN_def, Int.toNat_natCast, Nat.mul_one, pS_some, Nat.zero_add]
      rw [wr_of hrow hjn, wrap_succ (by omega), wrap_succ (by omega)]
      rw [List.map_set] at hf
      exact hf

theorem compact_spec {H0 H : Hp} {l : Nat} {zs : List Int} {Q : Post} (h0 : H0 <+: H) (hb : H0.length ≤ l) (hrow : H[l]? = some (.row true tI (zs.map (GV.int .i64)))) (hlim : zs.length * 8 ≤ 140737488351232)
    (hQ : ∀ (a : Pl) (j : Nat) H', H0 <+: H' → (j = zs.length ↔ NoAdj zs) → Q (.g (.sl a j 1)) H') : slices_Compact__int_int [.g (.sl (some (l, 0)) zs.length 1)] H Q := by
  have hI := Is.row (o := 0) (n := zs.length) hrow (by omega) hlim
  rw [List.drop_zero] at hI
  have loop : ∀ m k : Nat, zs.length - k = m → k + 1 ≤ zs.length → (∀ i, (h : i + 1 < zs.length) → i < k → zs[i]'(by omega) ≠ zs[i + 1]) → ∃ f, slices_Compact__int_int.l4 f (some (l, 0)) zs.length ((k + 1 : Nat) : Int) H Q := by
    intro m
    induction m with
    | zero => intro k hm hk; omega
    | succ m ih =>
      intro k hm hk hne
      by_cases hkn : k + 1 < zs.length
      · have hlt : ltI ((k + 1 : Nat) : Int) (nI zs.length) = true := by simp; omega
        by_cases he : zs[k + 1] = zs[k]'(by omega)
        · obtain ⟨f, hf⟩ := compact_l9 (H0 := H0) (l := l) (n := zs.length) (o := k + 1) (n2 := zs.length - (k + 1)) (Q := Q) hb hlim (by omega) (fun j H' h1 h2 => hQ _ j H' h1 ⟨fun e => by omega, fun q => (q k hkn he.symm).elim⟩)
            _ 1 (k + 1) H zs rfl (by omega) (by omega) (by omega) (by omega) h0 hrow rfl
          refine ⟨f + 1, ?_⟩
          rw [slices_Compact__int_int.l4_eq, bite_t hlt, chk_true, hI.rd (k + 1) rfl hkn, chk_true, hI.rd k (wrap_pred (by omega)) (by omega), bite_t (by simpa using he), chk_true]
          refine chk_of (by simp; omega) (chk_of (by simp; omega) ?_)
          simp only [tN_def, Int.toNat_natCast, Nat.mul_one, shf_some, Nat.zero_add]
          exact hf
        · obtain ⟨f, hf⟩ := ih (k + 1) (by omega) (by omega) (fun i hi hik => by
            by_cases e : i = k
            · subst e; exact fun q => he q.symm
            · exact hne i hi (by omega))
          refine ⟨f + 1, ?_⟩
          rw [slices_Compact__int_int.l4_eq, bite_t hlt, chk_true, hI.rd (k + 1) rfl hkn, chk_true, hI.rd k (wrap_pred (by omega)) (by omega), bite_f (by simpa using he), wrap_succ (by omega)]
          exact hf
      · refine ⟨1, ?_⟩
        rw [slices_Compact__int_int.l4_eq, bite_f (by simp; omega)]
        exact hQ _ _ _ h0 ⟨fun _ i hi => hne i hi (by omega), fun _ => rfl⟩
  by_cases h2 : zs.length < 2
  · refine ⟨1, ?_⟩
    rw [slices_Compact__int_int_eq, bite_t (by simp; omega)]
    exact hQ _ _ _ h0 ⟨fun _ i hi => by omega, fun _ => rfl⟩
  · obtain ⟨f, hf⟩ := loop _ 0 rfl (by omega) (fun i hi h => by omega)
    refine ⟨f + 1, ?_⟩
    rw [slices_Compact__int_int_eq, bite_f (by simp; omega)]
    exact hf

/-- sorted, no two neighbours the same: no two the same -/
theorem noAdj_sorted {zs : List Int} : NoAdj (zs.mergeSort fun x y => decide (x ≤ y)) ↔ zs.Nodup := by
  have hp := List.mergeSort_perm zs (fun x y => decide (x ≤ y))
  have hs : (zs.mergeSort fun x y => decide (x ≤ y)).Pairwise fun x y => x ≤ y := by
    have := List.pairwise_mergeSort (le := fun (x y : Int) => decide (x ≤ y)) (fun a b c h1 h2 => by simp at *; omega) (fun a b => by simp; omega) zs
    exact this.imp fun h => by simpa using h
  rw [← hp.nodup_iff]
  generalize (zs.mergeSort fun x y => decide (x ≤ y)) = ws at hs
  clear hp
  constructor
  · intro h
    rw [List.Nodup, List.pairwise_iff_getElem]
    have key : ∀ d i, (hi : i + d + 1 < ws.length) → ws[i]'(by omega) < ws[i + d + 1] := by
      intro d
      induction d with
      | zero =>
        intro i hi
        have h1 := (List.pairwise_iff_getElem.1 hs) i (i + 1) (by omega) (by omega) (by omega)
        have h2 := h i (by omega)
        simp only [Nat.add_zero]
        omega
      | succ d ih =>
        intro i hi
        have h1 := ih i (by omega)
        have h2 := (List.pairwise_iff_getElem.1 hs) (i + d + 1) (i + (d + 1) + 1) (by omega) (by omega) (by omega)
        omega
    intro i j hi hj hij
    obtain ⟨d, rfl⟩ : ∃ d, j = i + d + 1 := ⟨j - i - 1, by omega⟩
    have := key d i hj
    omega
  · intro h i hi
    exact (List.pairwise_iff_getElem.1 h) i (i + 1) (by omega) (by omega) (by omega)

theorem page_unlike_spec {E : Nat → Sm} {H : Hp} {Q : Post} {a : Pl} {n : Nat} {zs : List Int} (h : Is H a n zs) (hQ : ∀ b H', H <+: H' → (b = true ↔ zs.Nodup) → Q (.g (.bool b)) H') : page_unlike E [.g (.sl a n 1)] H Q := by
  refine ⟨1, ?_⟩
  rw [page_unlike_eq]
  refine ⟨1, ?_⟩
  rw [slices_Values__int_int_eq, rG_g]
  refine ⟨1, ?_⟩
  rw [slices_Sorted_int_eq]
  refine ⟨1, ?_⟩
  rw [slices_Collect_int_eq]
  have hlen := h.len
  have hlim := h.lim
  have hp := pre_pu H (.row true tIs [.sl a n 1])
  refine ⟨H.length, tIs, [.sl a n 1], a, n, zs, rfl, by simp, rfl, (h.mono hp).cells, by unfold Lim; omega, fun hz => ?_, fun hz => ?_⟩
  · simp only [rG_g, dL_sl]
    refine .inl ⟨rfl, ?_⟩
    simp only [rG_g, dL_sl]
    refine ⟨1, ?_⟩
    rw [slices_Compact__int_int_eq, bite_t (by simp)]
    simp only [rG_g, dL_sl]
    refine hQ _ _ hp ?_
    subst hz
    simp [hlen]
  · simp only [rG_g, dL_sl]
    refine .inr ⟨(H ++ [Obj.row true tIs [.sl a n 1]]).length, zs, rfl, hz, by unfold Lim; omega, by simp, ?_⟩
    dsimp only
    have e : ((H ++ [Obj.row true tIs [.sl a n 1]]) ++ [Obj.row true tI (zs.map (GV.int .i64))]).set (H ++ [Obj.row true tIs [.sl a n 1]]).length (Obj.row true tI ((zs.mergeSort fun x y => decide (x ≤ y)).map (GV.int .i64))) =
        (H ++ [Obj.row true tIs [.sl a n 1]]) ++ [Obj.row true tI ((zs.mergeSort fun x y => decide (x ≤ y)).map (GV.int .i64))] := by
      rw [List.set_append_right _ _ (Nat.le_refl _)]; simp
    simp only [pu_def, ln_def]
    rw [e]
    have hsl : (zs.mergeSort fun x y => decide (x ≤ y)).length = zs.length := by simp
    have key := compact_spec (H0 := H) (H := (H ++ [Obj.row true tIs [.sl a n 1]]) ++ [Obj.row true tI ((zs.mergeSort fun x y => decide (x ≤ y)).map (GV.int .i64))]) (l := (H ++ [Obj.row true tIs [.sl a n 1]]).length)
      (zs := zs.mergeSort fun x y => decide (x ≤ y)) (hp.trans (List.prefix_append _ _)) (by simp) (by simp) (by rw [hsl]; omega)
      (Q := fun r8 H9 => rG r8 fun v10 => dL 1 v10 fun x11 n12 => Q (.g (.bool (eqI (nI n12) (nI n)))) H9) (fun a' j H' h1 h2 => by
        simp only [rG_g, dL_sl]
        refine hQ _ _ h1 ?_
        rw [← noAdj_sorted, ← h2, hsl, ← hlen]
        simp
        omega)
    rw [hsl] at key
    exact key
end Go.Am
namespace Go.Am

/-- a page, as data -/
structure Pg where
  used : Bool
  leaf : Bool
  keys : List ByteArray
  vals : List ByteArray
  kids : List Int

structure PgAt (H : Hp) (u l : Bool) (a1 : Pl) (n1 : Nat) (a2 : Pl) (n2 : Nat) (a3 : Pl) (n3 : Nat) (p : Pg) : Prop where
  used : p.used = u
  leaf : p.leaf = l
  keys : Ss H a1 n1 p.keys
  vals : Ss H a2 n2 p.vals
  kids : Is H a3 n3 p.kids
theorem PgAt.mono {H H' : Hp} (hp : H <+: H') {u l : Bool} {a1 : Pl} {n1 : Nat} {a2 : Pl} {n2 : Nat} {a3 : Pl} {n3 : Nat} {p : Pg} (h : PgAt H u l a1 n1 a2 n2 a3 n3 p) : PgAt H' u l a1 n1 a2 n2 a3 n3 p :=
  ⟨h.used, h.leaf, h.keys.mono hp, h.vals.mono hp, h.kids.mono hp⟩

/-- may a page be, whatever the number of its keys? -/
structure FitsP (p : Pg) : Prop where
  used : p.used = true
  rising : Rising p.keys
  keys : ∀ k ∈ p.keys, 1 ≤ k.size ∧ k.size ≤ 6
  leaf : p.leaf = true → p.vals.length = p.keys.length ∧ p.kids = [] ∧ ∀ v ∈ p.vals, v.size ≤ 10
  inner : p.leaf = false → 1 ≤ p.keys.length ∧ p.vals = [] ∧ p.kids.length = p.keys.length + 1 ∧ (∀ k ∈ p.kids, 1 ≤ k ∧ k < 48) ∧ p.kids.Nodup
def MayP (p : Pg) : Prop := p.keys.length ≤ 4 ∧ FitsP p

section
variable {H : Hp} {Q : Post} {u l : Bool} {a1 : Pl} {n1 : Nat} {a2 : Pl} {n2 : Nat} {a3 : Pl} {n3 : Nat} {p : Pg}

theorem page_Fits_spec (h : PgAt H u l a1 n1 a2 n2 a3 n3 p) (hQ : ∀ b H', H <+: H' → (b = true ↔ FitsP p) → Q (.g (.bool b)) H') :
    page_Fits [.agg [.bool u, .bool l, .sl a1 n1 1, .sl a2 n2 1, .sl a3 n3 1]] H Q := by
  obtain ⟨hu, hl, hk, hv, hi⟩ := h
  have n1e := hk.len
  have n2e := hv.len
  have n3e := hi.len
  have l1 := hk.lim
  have l3 := hi.lim
  have EK : ∀ (s : ByteArray) (H : Hp) (Q : Post), Q (.g (.bool (decide (1 ≤ s.size) && decide (s.size ≤ 6)))) H → dynOf [(fKey, page_Key), (fVal, page_Value), (fKid, page_Kid)] fKey [.g (.str s)] H Q :=
    fun s H Q q => by rw [dynOf_hit]; exact page_Key_spec q
  have EV : ∀ (s : ByteArray) (H : Hp) (Q : Post), Q (.g (.bool (decide (s.size ≤ 10)))) H → dynOf [(fKey, page_Key), (fVal, page_Value), (fKid, page_Kid)] fVal [.g (.str s)] H Q :=
    fun s H Q q => by rw [dynOf_miss (by decide), dynOf_hit]; exact page_Value_spec q
  have EI : ∀ (s : Int) (H : Hp) (Q : Post), Q (.g (.bool (decide (1 ≤ s) && decide (s < 48)))) H → dynOf [(fKey, page_Key), (fVal, page_Value), (fKid, page_Kid)] fKid [.g (.int .i64 s)] H Q :=
    fun s H Q q => by rw [dynOf_miss (by decide), dynOf_miss (by decide), dynOf_hit]; exact page_Kid_spec q
  refine ⟨1, ?_⟩
  rw [page_Fits_eq]
  refine bite_of (fun e => hQ _ _ (List.prefix_refl _) ⟨fun q => (by cases q), fun q => ?_⟩) (fun e => ?_)
  · rw [← hu, q.used] at e; cases e
  refine page_rising_spec hk fun b hb => ?_
  simp only [rG_g, dB_bool]
  refine bite_of (fun e1 => hQ _ _ (List.prefix_refl _) ⟨fun q => (by cases q), fun q => ?_⟩) (fun e1 => ?_)
  · rw [hb.2 q.rising] at e1; cases e1
  refine page_all_string_spec EK hk fun b2 H2 p2 hb2 => ?_
  simp only [rG_g, dB_bool]
  have hkeys : (∀ k ∈ p.keys, 1 ≤ k.size ∧ k.size ≤ 6) ↔ ∀ s ∈ p.keys, (decide (1 ≤ s.size) && decide (s.size ≤ 6)) = true := by simp
  refine bite_of (fun e2 => hQ _ _ p2 ⟨fun q => (by cases q), fun q => ?_⟩) (fun e2 => ?_)
  · rw [hb2.2 (hkeys.1 q.keys)] at e2; cases e2
  have hR : Rising p.keys := hb.1 (by cases b <;> simp_all)
  have hK := hkeys.2 (hb2.1 (by cases b2 <;> simp_all))
  have hU : p.used = true := by rw [hu]; cases u <;> simp_all
  refine bite_of (fun e3 => ?_) (fun e3 => ?_)
  · have hL : p.leaf = true := by rw [hl]; exact e3
    refine bite_of (fun e4 => ?_) (fun e4 => hQ _ _ p2 ⟨fun q => (by cases q), fun q => ?_⟩)
    rotate_left
    · have := (q.leaf hL).1; simp at e4; omega
    refine bite_of (fun e5 => ?_) (fun e5 => hQ _ _ p2 ⟨fun q => (by cases q), fun q => ?_⟩)
    rotate_left
    · have := (q.leaf hL).2.1; simp [this] at n3e; simp at e5; omega
    refine page_all_string_spec EV (hv.mono p2) fun b3 H3 p3 hb3 => ?_
    simp only [rG_g, dB_bool]
    refine hQ _ _ (p2.trans p3) (hb3.trans ⟨fun q => ⟨hU, hR, hK, fun _ => ⟨?_, ?_, by simpa using q⟩, fun q => (by rw [hL] at q; cases q)⟩, fun q => by simpa using (q.leaf hL).2.2⟩)
    · simp at e4; omega
    · simp at e5; exact List.eq_nil_of_length_eq_zero (by omega)
  · have hL : p.leaf = false := by rw [hl]; exact e3
    refine bite_of (fun e4 => ?_) (fun e4 => hQ _ _ p2 ⟨fun q => (by cases q), fun q => ?_⟩)
    rotate_left
    · have := (q.inner hL).1; simp at e4; omega
    refine bite_of (fun e5 => ?_) (fun e5 => hQ _ _ p2 ⟨fun q => (by cases q), fun q => ?_⟩)
    rotate_left
    · have := (q.inner hL).2.1; simp [this] at n2e; simp at e5; omega
    refine bite_of (fun e6 => ?_) (fun e6 => hQ _ _ p2 ⟨fun q => (by cases q), fun q => ?_⟩)
    rotate_left
    · have := (q.inner hL).2.2.1; simp only [nI_def] at e6; rw [wrap_succ (by omega)] at e6; simp at e6; omega
    simp only [nI_def] at e6
    rw [wrap_succ (by omega)] at e6
    refine page_all_int_spec EI (hi.mono p2) fun b3 H3 p3 hb3 => ?_
    simp only [rG_g, dB_bool]
    refine bite_of (fun e7 => ?_) (fun e7 => hQ _ _ (p2.trans p3) ⟨fun q => (by cases q), fun q => ?_⟩)
    rotate_left
    · rw [hb3.2 (by simpa using (q.inner hL).2.2.2.1)] at e7; cases e7
    refine page_unlike_spec (hi.mono (p2.trans p3)) fun b4 H4 p4 hb4 => ?_
    simp only [rG_g, dB_bool]
    refine hQ _ _ ((p2.trans p3).trans p4) (hb4.trans ⟨fun q => ⟨hU, hR, hK, fun q => (by rw [hL] at q; cases q), fun _ => ⟨?_, ?_, ?_, by simpa using hb3.1 e7, q⟩⟩, fun q => (q.inner hL).2.2.2.2⟩)
    · simp at e4; omega
    · simp at e5; exact List.eq_nil_of_length_eq_zero (by omega)
    · simp at e6; omega

theorem page_May_spec (h : PgAt H u l a1 n1 a2 n2 a3 n3 p) (hQ : ∀ b H', H <+: H' → (b = true ↔ MayP p) → Q (.g (.bool b)) H') :
    page_May [.agg [.bool u, .bool l, .sl a1 n1 1, .sl a2 n2 1, .sl a3 n3 1]] H Q := by
  have n1e := h.keys.len
  refine ⟨1, ?_⟩
  rw [page_May_eq]
  refine bite_of (fun e => ?_) (fun e => hQ _ _ (List.prefix_refl _) ⟨fun q => (by cases q), fun q => ?_⟩)
  · refine page_Fits_spec h fun b H' hp hb => ?_
    simp only [rG_g, dB_bool]
    simp at e
    exact hQ _ _ hp (hb.trans ⟨fun q => ⟨by omega, q⟩, fun q => q.2⟩)
  · have := q.1; simp at e; omega

/-! the document's -/
end
end Go.Am
namespace Go.Am

def Dj (a b : Pl) : Prop := ∀ l, a = some (l, 0) → b ≠ some (l, 0)
theorem Dj.symm {a b : Pl} (h : Dj a b) : Dj b a := fun l h1 h2 => h l h2 h1
theorem Own.lt' {H : Hp} {b : Nat} {t : TypeId} {a : Pl} {n : Nat} {cs : List GV} (h : Own H b t a n cs) {l : Nat} (e : a = some (l, 0)) : l < H.length := by subst e; exact h.lt
theorem Own.after {H0 H H' : Hp} {b : Nat} {t : TypeId} {a a0 : Pl} {n : Nat} {cs : List GV} (h : Own H b t a n cs) (hd : Dj a0 a) (hx : Ex H0 a0 H H') : Own H' b t a n cs :=
  h.keep fun l e => hx.row l (h.lt' e) fun e0 => hd l e0 e
theorem Dj.fresh {H : Hp} {b : Nat} {t : TypeId} {a a' : Pl} {n : Nat} {cs : List GV} (h : Own H b t a n cs) (hf : ∀ l o, a' = some (l, o) → H.length ≤ l) : Dj a' a := fun l e1 e2 => by
  have := hf l 0 e1; have := h.lt' e2; omega
theorem Own.set {H : Hp} {b : Nat} {t : TypeId} {a : Pl} {n : Nat} {cs : List GV} (h : Own H b t a n cs) {l : Nat} (hd : a ≠ some (l, 0)) (x : Obj) : Own (H.set l x) b t a n cs :=
  h.keep fun l' e => by rw [List.getElem?_set_ne]; intro q; subst q; exact hd e

/-- a page in rows of one's own -/
structure PgOwn (H : Hp) (b : Nat) (u l : Bool) (a1 : Pl) (n1 : Nat) (a2 : Pl) (n2 : Nat) (a3 : Pl) (n3 : Nat) (p : Pg) : Prop where
  used : p.used = u
  leaf : p.leaf = l
  keys : Own H b tS a1 n1 (p.keys.map GV.str)
  vals : Own H b tS a2 n2 (p.vals.map GV.str)
  kids : Own H b tI a3 n3 (p.kids.map (GV.int .i64))
  d12 : Dj a1 a2
  d13 : Dj a1 a3
  d23 : Dj a2 a3
  small : n1 ≤ 1000 ∧ n2 ≤ 1000 ∧ n3 ≤ 1000
theorem PgOwn.at {H : Hp} {b : Nat} {u l : Bool} {a1 : Pl} {n1 : Nat} {a2 : Pl} {n2 : Nat} {a3 : Pl} {n3 : Nat} {p : Pg} (h : PgOwn H b u l a1 n1 a2 n2 a3 n3 p) : PgAt H u l a1 n1 a2 n2 a3 n3 p := by
  obtain ⟨h1, h2, h3, h4, h5, _, _, _, s⟩ := h
  refine ⟨h1, h2, ⟨h3.cells, ?_, by omega⟩, ⟨h4.cells, ?_, by omega⟩, ⟨h5.cells, ?_, by omega⟩⟩
  · have := h3.len; simpa using this.symm
  · have := h4.len; simpa using this.symm
  · have := h5.len; simpa using this.symm
theorem Own.mono {H H' : Hp} (hp : H <+: H') {b : Nat} {t : TypeId} {a : Pl} {n : Nat} {cs : List GV} (h : Own H b t a n cs) : Own H' b t a n cs := h.keep fun l e => pre_at hp (h.lt' e)
theorem PgOwn.mono {H H' : Hp} (hp : H <+: H') {b : Nat} {u l : Bool} {a1 : Pl} {n1 : Nat} {a2 : Pl} {n2 : Nat} {a3 : Pl} {n3 : Nat} {p : Pg} (h : PgOwn H b u l a1 n1 a2 n2 a3 n3 p) : PgOwn H' b u l a1 n1 a2 n2 a3 n3 p :=
  ⟨h.used, h.leaf, h.keys.mono hp, h.vals.mono hp, h.kids.mono hp, h.d12, h.d13, h.d23, h.small⟩

def noPg : Pg := ⟨false, false, [], [], []⟩
theorem law0_Num_spec {n : Int} {H : Hp} {Q : Post} (hQ : Q (.g (.int .i64 n)) H) : law0_Num [.g (.int .i64 n)] H Q := ⟨1, by rw [law0_Num_eq]; exact hQ⟩

theorem list_eq_of {α : Type} {xs ys : List α} (h : xs.length = ys.length) (hk : ∀ i, (h1 : i < xs.length) → (h2 : i < ys.length) → xs[i] = ys[i]) : xs = ys := List.ext_getElem h fun i h1 h2 => hk i h1 h2

section
variable {H : Hp} {Q : Post} {a1 a2 : Pl} {n1 n2 : Nat}
theorem law0_SameTexts_spec {xs ys : List ByteArray} (h1 : Ss H a1 n1 xs) (h2 : Ss H a2 n2 ys) (hQ : ∀ b, (b = true ↔ xs = ys) → Q (.g (.bool b)) H) : law0_SameTexts [.g (.sl a1 n1 1), .g (.sl a2 n2 1)] H Q := by
  have e1 := h1.len
  have e2 := h2.len
  have l1 := h1.lim
  by_cases hl : xs.length = ys.length
  · have loop : ∀ f k : Nat, xs.length - k < f → k ≤ xs.length → (∀ i, (h1 : i < xs.length) → (h2 : i < ys.length) → i < k → xs[i] = ys[i]) → law0_SameTexts.l4 f a1 n1 a2 n2 (k : Int) H Q := by
      intro f
      induction f with
      | zero => intro k hf; omega
      | succ f ih =>
        intro k hf hk he
        rw [law0_SameTexts.l4_eq]
        by_cases hkn : k < xs.length
        · rw [bite_t (by simp; omega), chk_true, h1.rd k rfl hkn, chk_true]
          have hc : (ltI (k : Int) (nI n1)) = (ltI (k : Int) (nI n2)) := by rw [e1, e2, hl]
          rw [h2.rd k rfl (by omega)]
          by_cases hs : xs[k] = ys[k]
          · rw [bite_f (by simpa using hs), wrap_succ (by omega)]
            exact ih (k + 1) (by omega) (by omega) fun i q1 q2 hik => by
              by_cases e : i = k
              · subst e; exact hs
              · exact he i q1 q2 (by omega)
          · rw [bite_t (by simpa using hs)]
            exact hQ _ ⟨fun q => (by cases q), fun q => (hs (by simp [q])).elim⟩
        · rw [bite_f (by simp; omega)]
          exact hQ _ ⟨fun _ => list_eq_of hl fun i q1 q2 => he i q1 q2 (by omega), fun _ => rfl⟩
    refine ⟨xs.length + 2, ?_⟩
    rw [law0_SameTexts_eq, bite_f (by simp; omega)]
    exact loop _ 0 (by omega) (Nat.zero_le _) (fun i _ _ h => by omega)
  · refine ⟨1, ?_⟩
    rw [law0_SameTexts_eq, bite_t (by simp; omega)]
    exact hQ _ ⟨fun q => (by cases q), fun q => (hl (by rw [q])).elim⟩
theorem law0_SameInts_spec {xs ys : List Int} (h1 : Is H a1 n1 xs) (h2 : Is H a2 n2 ys) (hQ : ∀ b, (b = true ↔ xs = ys) → Q (.g (.bool b)) H) : law0_SameInts [.g (.sl a1 n1 1), .g (.sl a2 n2 1)] H Q := by
  have e1 := h1.len
  have e2 := h2.len
  have l1 := h1.lim
  by_cases hl : xs.length = ys.length
  · have loop : ∀ f k : Nat, xs.length - k < f → k ≤ xs.length → (∀ i, (h1 : i < xs.length) → (h2 : i < ys.length) → i < k → xs[i] = ys[i]) → law0_SameInts.l4 f a1 n1 a2 n2 (k : Int) H Q := by
      intro f
      induction f with
      | zero => intro k hf; omega
      | succ f ih =>
        intro k hf hk he
        rw [law0_SameInts.l4_eq]
        by_cases hkn : k < xs.length
        · rw [bite_t (by simp; omega), chk_true, h1.rd k rfl hkn, chk_true]
          rw [h2.rd k rfl (by omega)]
          by_cases hs : xs[k] = ys[k]
          · rw [bite_f (by simpa using hs), wrap_succ (by omega)]
            exact ih (k + 1) (by omega) (by omega) fun i q1 q2 hik => by
              by_cases e : i = k
              · subst e; exact hs
              · exact he i q1 q2 (by omega)
          · rw [bite_t (by simpa using hs)]
            exact hQ _ ⟨fun q => (by cases q), fun q => (hs (by simp [q])).elim⟩
        · rw [bite_f (by simp; omega)]
          exact hQ _ ⟨fun _ => list_eq_of hl fun i q1 q2 => he i q1 q2 (by omega), fun _ => rfl⟩
    refine ⟨xs.length + 2, ?_⟩
    rw [law0_SameInts_eq, bite_f (by simp; omega)]
    exact loop _ 0 (by omega) (Nat.zero_le _) (fun i _ _ h => by omega)
  · refine ⟨1, ?_⟩
    rw [law0_SameInts_eq, bite_t (by simp; omega)]
    exact hQ _ ⟨fun q => (by cases q), fun q => (hl (by rw [q])).elim⟩
end

section
variable {H : Hp} {Q : Post} {u l : Bool} {a1 : Pl} {n1 : Nat} {a2 : Pl} {n2 : Nat} {a3 : Pl} {n3 : Nat} {p : Pg} {u' l' : Bool} {a1' : Pl} {n1' : Nat} {a2' : Pl} {n2' : Nat} {a3' : Pl} {n3' : Nat} {q : Pg}
theorem law0_SamePage_spec (h1 : PgAt H u l a1 n1 a2 n2 a3 n3 p) (h2 : PgAt H u' l' a1' n1' a2' n2' a3' n3' q) (hQ : ∀ b, (b = true ↔ p = q) → Q (.g (.bool b)) H) :
    law0_SamePage [.agg [.bool u, .bool l, .sl a1 n1 1, .sl a2 n2 1, .sl a3 n3 1], .agg [.bool u', .bool l', .sl a1' n1' 1, .sl a2' n2' 1, .sl a3' n3' 1]] H Q := by
  refine ⟨1, ?_⟩
  rw [law0_SamePage_eq]
  refine bite_of (fun e1 => ?_) (fun e1 => hQ _ ⟨fun q => (by cases q), fun e => ?_⟩)
  rotate_left
  · rw [← h1.used, ← h2.used, e] at e1; simp at e1
  refine bite_of (fun e2 => ?_) (fun e2 => hQ _ ⟨fun q => (by cases q), fun e => ?_⟩)
  rotate_left
  · rw [← h1.leaf, ← h2.leaf, e] at e2; simp at e2
  refine law0_SameTexts_spec h1.keys h2.keys fun b3 hb3 => ?_
  simp only [rG_g, dB_bool]
  refine bite_of (fun e3 => ?_) (fun e3 => hQ _ ⟨fun q => (by cases q), fun e => ?_⟩)
  rotate_left
  · rw [hb3.2 (by rw [e])] at e3; cases e3
  refine law0_SameTexts_spec h1.vals h2.vals fun b4 hb4 => ?_
  simp only [rG_g, dB_bool]
  refine bite_of (fun e4 => ?_) (fun e4 => hQ _ ⟨fun q => (by cases q), fun e => ?_⟩)
  rotate_left
  · rw [hb4.2 (by rw [e])] at e4; cases e4
  refine law0_SameInts_spec h1.kids h2.kids fun b5 hb5 => ?_
  simp only [rG_g, dB_bool]
  refine hQ _ (hb5.trans ⟨fun e => ?_, fun e => by rw [e]⟩)
  have q1 := hb3.1 e3
  have q2 := hb4.1 e4
  have q3 := h1.used
  have q4 := h1.leaf
  have q5 := h2.used
  have q6 := h2.leaf
  simp at e1 e2
  cases p; cases q; simp_all

end

/-! written over -/
theorem Own.wr {H0 H : Hp} {t : TypeId} {a : Pl} {n : Nat} {cs : List GV} {v : GV} {K : Hp → Prop} (h0 : H0 <+: H) (h : Own H H0.length t a n cs) (k : Nat) {i : Int} (hi : i = k) (hk : k < n)
    (hK : ∀ H', Own H' H0.length t a n (cs.set k v) → Ex H0 a H H' → K H') : chk (leI 0 i && ltI i (nI n)) (pS a fun n5 n6 => Am.wr H n5 (n6 + tN i * 1) v K) := by
  subst hi
  refine chk_of (by simp; omega) ?_
  rcases h with ⟨_, rfl, _⟩ | ⟨l, rfl, hb, hl, hn⟩
  · omega
  · simp only [pS_some, tN_def, Int.toNat_natCast, Nat.mul_one, Nat.zero_add]
    rw [wr_of hl (by omega)]
    refine hK _ (.inr ⟨l, rfl, hb, List.getElem?_set_self (List.getElem?_eq_some_iff.1 hl).1, by simpa using hn⟩) ⟨pre_set h0 hb _, by simp, fun l' _ hne => ?_⟩
    rw [List.getElem?_set_ne]
    intro e; subst e; exact hne rfl
theorem Ex.trans {H0 H H1 H2 : Hp} {a : Pl} (h : Ex H0 a H H1) (h' : Ex H0 a H1 H2) : Ex H0 a H H2 :=
  ⟨h'.pre, Nat.le_trans h.len h'.len, fun l hl hne => (h'.row l (Nat.lt_of_lt_of_le hl h.len) hne).trans (h.row l hl hne)⟩
theorem Ex.refl {H0 H : Hp} {a : Pl} (h : H0 <+: H) : Ex H0 a H H := ⟨h, Nat.le_refl _, fun _ _ _ => rfl⟩

section
variable {H0 H : Hp} {u l : Bool} {a1 : Pl} {n1 : Nat} {a2 : Pl} {n2 : Nat} {a3 : Pl} {n3 : Nat} {p : Pg}

theorem PgOwn.addKeys (h : PgOwn H H0.length u l a1 n1 a2 n2 a3 n3 p) (h0 : H0 <+: H) (xs : List ByteArray) {cs : List GV} {m : Nat} (hc : cs = xs.map GV.str) (hm : m = xs.length) (hn : n1 + m ≤ 1000) {K : Pl → Nat → Hp → Prop}
    (hK : ∀ a' H', H0 <+: H' → PgOwn H' H0.length u l a' (n1 + m) a2 n2 a3 n3 { p with keys := p.keys ++ xs } → K a' (n1 + m) H') : ap H tS 1 16 a1 n1 cs m K := by
  subst hc; subst hm
  refine ap_own h0 h.keys (by simp) (by unfold Lim; omega) fun a' H' o x f => hK a' H' x.pre ?_
  have := h.small
  exact ⟨h.used, h.leaf, by rw [List.map_append]; exact o, h.vals.after h.d12 x, h.kids.after h.d13 x, Dj.fresh h.vals f, Dj.fresh h.kids f, h.d23, by omega⟩
theorem PgOwn.addVals (h : PgOwn H H0.length u l a1 n1 a2 n2 a3 n3 p) (h0 : H0 <+: H) (xs : List ByteArray) {cs : List GV} {m : Nat} (hc : cs = xs.map GV.str) (hm : m = xs.length) (hn : n2 + m ≤ 1000) {K : Pl → Nat → Hp → Prop}
    (hK : ∀ a' H', H0 <+: H' → PgOwn H' H0.length u l a1 n1 a' (n2 + m) a3 n3 { p with vals := p.vals ++ xs } → K a' (n2 + m) H') : ap H tS 1 16 a2 n2 cs m K := by
  subst hc; subst hm
  refine ap_own h0 h.vals (by simp) (by unfold Lim; omega) fun a' H' o x f => hK a' H' x.pre ?_
  have := h.small
  exact ⟨h.used, h.leaf, h.keys.after h.d12.symm x, by rw [List.map_append]; exact o, h.kids.after h.d23 x, (Dj.fresh h.keys f).symm, h.d13, Dj.fresh h.kids f, by omega⟩
theorem PgOwn.addKids (h : PgOwn H H0.length u l a1 n1 a2 n2 a3 n3 p) (h0 : H0 <+: H) (xs : List Int) {cs : List GV} {m : Nat} (hc : cs = xs.map (GV.int .i64)) (hm : m = xs.length) (hn : n3 + m ≤ 1000) {K : Pl → Nat → Hp → Prop}
    (hK : ∀ a' H', H0 <+: H' → PgOwn H' H0.length u l a1 n1 a2 n2 a' (n3 + m) { p with kids := p.kids ++ xs } → K a' (n3 + m) H') : ap H tI 1 8 a3 n3 cs m K := by
  subst hc; subst hm
  refine ap_own h0 h.kids (by simp) (by unfold Lim; omega) fun a' H' o x f => hK a' H' x.pre ?_
  have := h.small
  exact ⟨h.used, h.leaf, h.keys.after h.d13.symm x, h.vals.after h.d23.symm x, by rw [List.map_append]; exact o, h.d12, (Dj.fresh h.keys f).symm, (Dj.fresh h.vals f).symm, by omega⟩
end

end Go.Am
namespace Go.Am

/-! rows of one's own, in part -/
/-- a slice in a row of one's own, whose number lies from lo on and below hi -/
def Mine (H : Hp) (lo hi : Nat) (t : TypeId) (a : Pl) (n : Nat) (cs : List GV) : Prop :=
  (a = none ∧ n = 0 ∧ cs = []) ∨ ∃ l o ds, a = some (l, o) ∧ lo ≤ l ∧ l < hi ∧ H[l]? = some (.row true t ds) ∧ o + n ≤ ds.length ∧ (ds.drop o).take n = cs
def Dr (a b : Pl) : Prop := ∀ l o o', a = some (l, o) → b ≠ some (l, o')
/-- the heap goes on: of what was there the rows from lo on and below hi alone have turned -/
structure Ch (lo hi : Nat) (H H' : Hp) : Prop where
  len : H.length ≤ H'.length
  row : ∀ l, l < H.length → ¬ (lo ≤ l ∧ l < hi) → H'[l]? = H[l]?
theorem Ch.trans {lo hi : Nat} {H H1 H2 : Hp} (h : Ch lo hi H H1) (h' : Ch lo hi H1 H2) : Ch lo hi H H2 :=
  ⟨Nat.le_trans h.len h'.len, fun l hl hn => (h'.row l (Nat.lt_of_lt_of_le hl h.len) hn).trans (h.row l hl hn)⟩
theorem Ch.refl (lo hi : Nat) (H : Hp) : Ch lo hi H H := ⟨Nat.le_refl _, fun _ _ _ => rfl⟩
theorem Ch.pre {lo hi : Nat} {H0 H H' : Hp} (h : Ch lo hi H H') (h0 : H0 <+: H) (hl : H0.length ≤ lo) : H0 <+: H' := by
  rw [List.prefix_iff_eq_take]
  apply List.ext_getElem?
  intro i
  rw [List.getElem?_take]
  split
  · rename_i hi
    rw [h.row i (Nat.lt_of_lt_of_le hi h0.length_le) (by omega), pre_at h0 hi]
  · rename_i hi
    exact List.getElem?_eq_none (by omega)

section
variable {H H' : Hp} {lo hi : Nat} {t : TypeId} {a : Pl} {n : Nat} {cs : List GV}
theorem Mine.keep (h : Mine H lo hi t a n cs) (hk : ∀ l o, a = some (l, o) → H'[l]? = H[l]?) : Mine H' lo hi t a n cs := by
  rcases h with h | ⟨l, o, ds, rfl, h1, h2, h3, h4, h5⟩
  · exact .inl h
  · exact .inr ⟨l, o, ds, rfl, h1, h2, by rw [hk l o rfl]; exact h3, h4, h5⟩
theorem Mine.lt (h : Mine H lo hi t a n cs) {l o : Nat} (e : a = some (l, o)) : l < H.length ∧ lo ≤ l ∧ l < hi := by
  rcases h with ⟨h, _⟩ | ⟨l', o', ds, e', h1, h2, h3, _⟩
  · rw [h] at e; cases e
  · rw [e'] at e; cases e; exact ⟨(List.getElem?_eq_some_iff.1 h3).1, h1, h2⟩
theorem Mine.mono (h : Mine H lo hi t a n cs) (hp : H <+: H') : Mine H' lo hi t a n cs := h.keep fun l o e => pre_at hp (h.lt e).1
theorem Mine.cells (h : Mine H lo hi t a n cs) : cells? H a n = some cs := by
  rcases h with ⟨rfl, rfl, rfl⟩ | ⟨l, o, ds, rfl, h1, h2, h3, h4, h5⟩
  · rfl
  · simp only [cells?, h3]; rw [if_pos h4, h5]
theorem Mine.len (h : Mine H lo hi t a n cs) : cs.length = n := cells_len h.cells
/-- a part of it -/
theorem Mine.part (h : Mine H lo hi t a n cs) (k m : Nat) (hm : k + m ≤ n) : Mine H lo hi t (shf a k) m ((cs.drop k).take m) := by
  rcases h with ⟨rfl, rfl, rfl⟩ | ⟨l, o, ds, rfl, q1, q2, q3, q4, q5⟩
  · exact .inl ⟨rfl, by omega, by simp⟩
  · refine .inr ⟨l, o + k, ds, rfl, q1, q2, q3, by omega, ?_⟩
    rw [← q5, List.drop_take, List.take_take, List.drop_drop, Nat.min_eq_left (by omega)]
theorem Dr.shf {b : Pl} (h : Dr a b) (k m : Nat) : Dr (shf a k) (shf b m) := by
  intro l o o' h1 h2
  cases a with
  | none => cases h1
  | some p =>
    cases b with
    | none => cases h2
    | some q =>
      obtain ⟨p1, p2⟩ := p
      obtain ⟨q1, q2⟩ := q
      simp at h1 h2
      exact h l p2 q2 (by rw [h1.1]) (by rw [h2.1])
theorem Mine.wr (h : Mine H lo hi t a n cs) (k : Nat) {i : Int} (hi' : i = k) (hk : k < n) {v : GV} {K : Hp → Prop}
    (hK : ∀ H', Mine H' lo hi t a n (cs.set k v) → Ch lo hi H H' → (∀ l, l < H.length → (∀ o, a ≠ some (l, o)) → H'[l]? = H[l]?) → K H') : chk (leI 0 i && ltI i (nI n)) (pS a fun n5 n6 => Am.wr H n5 (n6 + tN i * 1) v K) := by
  subst hi'
  refine chk_of (by simp; omega) ?_
  rcases h with ⟨_, rfl, _⟩ | ⟨l, o, ds, rfl, q1, q2, q3, q4, q5⟩
  · omega
  · simp only [pS_some, tN_def, Int.toNat_natCast, Nat.mul_one]
    rw [wr_of q3 (by omega)]
    have hl := (List.getElem?_eq_some_iff.1 q3).1
    refine hK _ (.inr ⟨l, o, _, rfl, q1, q2, List.getElem?_set_self hl, by simpa using q4, ?_⟩) ⟨by simp, fun l' _ hne => ?_⟩ (fun l' _ hne => ?_)
    · rw [← q5, List.drop_set, if_neg (by omega), List.take_set, show o + k - o = k by omega]
    · rw [List.getElem?_set_ne]; intro e; subst e; exact hne ⟨q1, q2⟩
    · rw [List.getElem?_set_ne]; intro e; subst e; exact hne o rfl
end

/-- a page in rows of one's own -/
structure PgM (H : Hp) (lo hi : Nat) (u l : Bool) (a1 : Pl) (n1 : Nat) (a2 : Pl) (n2 : Nat) (a3 : Pl) (n3 : Nat) (p : Pg) : Prop where
  used : p.used = u
  leaf : p.leaf = l
  keys : Mine H lo hi tS a1 n1 (p.keys.map GV.str)
  vals : Mine H lo hi tS a2 n2 (p.vals.map GV.str)
  kids : Mine H lo hi tI a3 n3 (p.kids.map (GV.int .i64))
  d12 : Dr a1 a2
  d13 : Dr a1 a3
  d23 : Dr a2 a3
  small : n1 ≤ 1000 ∧ n2 ≤ 1000 ∧ n3 ≤ 1000
section
variable {H H' : Hp} {lo hi : Nat} {u l : Bool} {a1 : Pl} {n1 : Nat} {a2 : Pl} {n2 : Nat} {a3 : Pl} {n3 : Nat} {p : Pg}
theorem PgM.at (h : PgM H lo hi u l a1 n1 a2 n2 a3 n3 p) : PgAt H u l a1 n1 a2 n2 a3 n3 p := by
  obtain ⟨h1, h2, h3, h4, h5, _, _, _, s⟩ := h
  refine ⟨h1, h2, ⟨h3.cells, ?_, by omega⟩, ⟨h4.cells, ?_, by omega⟩, ⟨h5.cells, ?_, by omega⟩⟩
  · have := h3.len; simpa using this.symm
  · have := h4.len; simpa using this.symm
  · have := h5.len; simpa using this.symm
theorem PgM.mono (h : PgM H lo hi u l a1 n1 a2 n2 a3 n3 p) (hp : H <+: H') : PgM H' lo hi u l a1 n1 a2 n2 a3 n3 p :=
  ⟨h.used, h.leaf, h.keys.mono hp, h.vals.mono hp, h.kids.mono hp, h.d12, h.d13, h.d23, h.small⟩
theorem Own.dr {b : Nat} {t t' : TypeId} {a a' : Pl} {n n' : Nat} {cs cs' : List GV} (h : Own H b t a n cs) (h' : Own H b t' a' n' cs') (hd : Dj a a') : Dr a a' := by
  intro l o o' e e'
  rcases h with ⟨q, _⟩ | ⟨m, q, _⟩
  · rw [q] at e; cases e
  · rcases h' with ⟨q', _⟩ | ⟨m', q', _⟩
    · rw [q'] at e'; cases e'
    · rw [q] at e; rw [q'] at e'
      cases e; cases e'
      exact hd l q q'
end


end Go.Am
namespace Go.Am
/-! trees -/
/-- a page's cells -/
structure PC where
  u : Bool
  l : Bool
  a1 : Pl
  n1 : Nat
  a2 : Pl
  n2 : Nat
  a3 : Pl
  n3 : Nat
def PC.cells (c : PC) : List GV := [.bool c.u, .bool c.l, .sl c.a1 c.n1 1, .sl c.a2 c.n2 1, .sl c.a3 c.n3 1]
@[simp] theorem PC.cells_length (c : PC) : c.cells.length = 5 := rfl
def PC.at (H : Hp) (c : PC) (p : Pg) : Prop := PgAt H c.u c.l c.a1 c.n1 c.a2 c.n2 c.a3 c.n3 p
theorem PC.at.mono {H H' : Hp} (hp : H <+: H') {c : PC} {p : Pg} (h : c.at H p) : c.at H' p := PgAt.mono hp h
def pcells (cs : List PC) : List GV := cs.flatMap PC.cells
theorem pcells_length (cs : List PC) : (pcells cs).length = cs.length * 5 := by
  unfold pcells
  induction cs with
  | nil => rfl
  | cons c cs ih => simp [ih]; omega
theorem pcells_append (cs ds : List PC) : pcells (cs ++ ds) = pcells cs ++ pcells ds := by simp [pcells]
/-- the cell j of the page i -/
theorem pcells_get {cs : List PC} {i j : Nat} (hi : i < cs.length) (hj : j < 5) : (pcells cs)[i * 5 + j]? = (cs[i].cells)[j]? := by
  unfold pcells
  induction cs generalizing i with
  | nil => simp at hi
  | cons c cs ih =>
    simp only [List.flatMap_cons]
    cases i with
    | zero => rw [List.getElem?_append_left (by simp; omega)]; simp
    | succ i =>
      rw [List.getElem?_append_right (by simp; omega)]
      have e : (i + 1) * 5 + j - c.cells.length = i * 5 + j := by simp; omega
      rw [e, ih (by simpa using hi)]
      simp
/-- a slice of pages -/
structure Tr (H : Hp) (a : Pl) (n : Nat) (cs : List PC) (T : List Pg) : Prop where
  cells : cells? H a (n * 5) = some (pcells cs)
  len : cs.length = n
  lenT : T.length = n
  all : ∀ i (h : i < cs.length) (h' : i < T.length), (cs[i]).at H T[i]
theorem Tr.mono {H H' : Hp} (hp : H <+: H') {a : Pl} {n : Nat} {cs : List PC} {T : List Pg} (h : Tr H a n cs T) : Tr H' a n cs T := ⟨cells_mono hp h.cells, h.len, h.lenT, fun i h1 h2 => (h.all i h1 h2).mono hp⟩

/-- a page of it -/
theorem Tr.get {H : Hp} {a : Pl} {n : Nat} {cs : List PC} {T : List Pg} (h : Tr H a n cs T) {i : Nat} (hi : i < n) : ∃ l o c p, a = some (l, o) ∧ cs[i]? = some c ∧ T[i]? = some p ∧ c.at H p ∧
    gt H l (o + i * 5) = some (.bool c.u) ∧ gt H l (o + i * 5 + 1) = some (.bool c.l) ∧ gt H l (o + i * 5 + 2) = some (.sl c.a1 c.n1 1) ∧ gt H l (o + i * 5 + 3) = some (.sl c.a2 c.n2 1) ∧ gt H l (o + i * 5 + 4) = some (.sl c.a3 c.n3 1) := by
  have h1 := h.len
  have h2 := h.lenT
  have hc := h.cells
  cases a with
  | none => simp [cells?] at hc; omega
  | some q =>
    obtain ⟨l, o⟩ := q
    have hk : ∀ j, j < 5 → gt H l (o + i * 5 + j) = ((cs[i]'(by omega)).cells)[j]? := by
      intro j hj
      have := cells_get hc (j := i * 5 + j) (by omega)
      rw [← Nat.add_assoc] at this
      rw [this, pcells_get (by omega) hj]
    exact ⟨l, o, cs[i]'(by omega), T[i]'(by omega), rfl, by simp, by simp, h.all i (by omega) (by omega), hk 0 (by omega), hk 1 (by omega), hk 2 (by omega), hk 3 (by omega), hk 4 (by omega)⟩
end Go.Am
namespace Go.Am
open Go.RowKit Go.ChangeShapes Go.WideShapes Go.Proofs

theorem zc_agg {P : Program} {W : World} {r : Reach} {b : Nat} {t : TypeId} {fs : Array Field} {v : Value} (ht : P.underlying t = some (.struct fs)) (h : Value.okWide P W r b t v) : ∃ us : Array Value, v = .agg us ∧ ∀ x ∈ us.toList, Zc W x := by
  unfold Value.okWide at h
  rw [ht] at h
  obtain ⟨us, rfl, _, ts, _, _, hc⟩ := h
  refine ⟨us, rfl, fun x hx => ?_⟩
  obtain ⟨i, hi, rfl⟩ := List.getElem_of_mem hx
  obtain ⟨u, _, hu⟩ := hc i us[i] (by simp)
  simp only [Array.getElem_toList]
  exact zc_of_ok hu

section
variable {Hh : Type} {enc : TypeId × Value → Hh} {W : World} {held : Bool}
set_option maxRecDepth 100000 in
theorem open_pg {fuel : Nat} {cs : List Value} {x : DataW Hh × List MemPlace} (h : DataW.trod enc Try.prog W 0 (fun _ => true) held fuel 41 cs = some x) (hz : ∀ v ∈ cs, Zc W v) (hw : (DataW.weights Try.prog 41 x.1).all (· ≤ reachBytes) = true)
    {φ : List LI} {H : Hp} (hr : RepH φ H W) (hn : NoOwn H) :
    ∃ φ' H' u l a1 n1 a2 n2 a3 n3 p, φ <+: φ' ∧ H <+: H' ∧ RepH φ' H' W ∧ NoOwn H' ∧ Is2 φ' [.bool u, .bool l, .sl a1 n1 1, .sl a2 n2 1, .sl a3 n3 1] cs ∧ PgAt H' u l a1 n1 a2 n2 a3 n3 p := by
  obtain ⟨xs, n, rfl, rfl, hlen, hxs, hf⟩ := DataW.trod_struct Try.underlying41 h
  have h5 : Try.prog.cellsOf 41 = 5 := by kernel_rfl
  have cB : Try.prog.cellsOf 4 = 1 := by kernel_rfl
  have c22 : Try.prog.cellsOf 25 = 1 := by kernel_rfl
  have c23 : Try.prog.cellsOf 22 = 1 := by kernel_rfl
  rw [h5] at hlen
  match cs, hlen with
  | [v0, v1, v2, v3, v4], _ =>
    have f0 : DataW.trod enc Try.prog W 0 (fun _ => true) held n 4 (([v0, v1, v2, v3, v4].drop 0).take (Try.prog.cellsOf 4)) = xs[0]? := hf 0 _ rfl
    have f1 : DataW.trod enc Try.prog W 0 (fun _ => true) held n 4 (([v0, v1, v2, v3, v4].drop 1).take (Try.prog.cellsOf 4)) = xs[1]? := hf 1 _ rfl
    have f2 : DataW.trod enc Try.prog W 0 (fun _ => true) held n 25 (([v0, v1, v2, v3, v4].drop 2).take (Try.prog.cellsOf 25)) = xs[2]? := hf 2 _ rfl
    have f3 : DataW.trod enc Try.prog W 0 (fun _ => true) held n 25 (([v0, v1, v2, v3, v4].drop 3).take (Try.prog.cellsOf 25)) = xs[3]? := hf 3 _ rfl
    have f4 : DataW.trod enc Try.prog W 0 (fun _ => true) held n 22 (([v0, v1, v2, v3, v4].drop 4).take (Try.prog.cellsOf 22)) = xs[4]? := hf 4 _ rfl
    simp only [cB, c22, c23, List.drop_zero, List.drop_succ_cons, List.take_succ_cons, List.take_zero] at f0 f1 f2 f3 f4
    match xs, hxs with
    | [x0, x1, x2, x3, x4], _ =>
      simp only [List.getElem?_cons_zero, List.getElem?_cons_succ] at f0 f1 f2 f3 f4
      simp only [List.map_cons, List.map_nil, DataW.weights, Try.underlying41] at hw
      obtain ⟨u, e0, _⟩ := DataW.trod_bool Try.underlying4 f0
      obtain ⟨l, e1, _⟩ := DataW.trod_bool Try.underlying4 f1
      simp only [List.cons.injEq, and_true] at e0 e1
      subst e0; subst e1
      obtain ⟨φ1, H1, a1, n1, ks, w2, e2, p1, q1, r1, o1, i1, s1⟩ := open_texts Try.underlying25 Try.underlying9 (by kernel_rfl) (by kernel_rfl) f2 (fun v hv => hz v (by simp at hv; simp [hv])) (all_each hw (j := 2) rfl rfl) hr hn
      obtain ⟨φ2, H2, a2, n2, vs, w3, e3, p2, q2, r2, o2, i2, s2⟩ := open_texts Try.underlying25 Try.underlying9 (by kernel_rfl) (by kernel_rfl) f3 (fun v hv => hz v (by simp at hv; simp [hv])) (all_each hw (j := 3) rfl rfl) r1 o1
      obtain ⟨φ3, H3, a3, n3, is, w4, e4, p3, q3, r3, o3, i3, s3⟩ := open_nums Try.underlying22 Try.underlying3 (by kernel_rfl) (by kernel_rfl) f4 (fun v hv => hz v (by simp at hv; simp [hv])) (all_each hw (j := 4) rfl rfl) r2 o2
      simp only [List.cons.injEq, and_true] at e2 e3 e4
      subst e2; subst e3; subst e4
      exact ⟨φ3, H3, u, l, a1, n1, a2, n2, a3, n3, ⟨u, l, ks, vs, is⟩, p1.trans (p2.trans p3), q1.trans (q2.trans q3), r3, o3,
        .cons rfl (.cons rfl (.cons (GV.is.mono (p2.trans p3) i1) (.cons (GV.is.mono p3 i2) (.cons i3 .nil)))), ⟨rfl, rfl, s1.mono (q2.trans q3), s2.mono q3, s3⟩⟩

theorem weights_all {P : Program} {e : TypeId} : ∀ {ds : List (DataW Hh)}, (DataW.weightsAll P e ds).all (· ≤ reachBytes) = true → ∀ {i : Nat} {d : DataW Hh}, ds[i]? = some d → (DataW.weights P e d).all (· ≤ reachBytes) = true
  | [], _, i, d, h => by simp at h
  | d0 :: r, hw, 0, d, h => by
    simp only [DataW.weightsAll, List.all_append, Bool.and_eq_true] at hw
    simp at h; subst h; exact hw.1
  | d0 :: r, hw, i + 1, d, h => by
    simp only [DataW.weightsAll, List.all_append, Bool.and_eq_true] at hw
    simp at h; exact weights_all hw.2 h
theorem Is2.get {φ : List LI} {cs : List GV} {vs : List Value} (h : Is2 φ cs vs) {j : Nat} {v : GV} (hj : cs[j]? = some v) : ∃ x, vs[j]? = some x ∧ v.is φ x := All2.get h hj
set_option maxRecDepth 100000 in
/-- a slice of pages -/
theorem open_pages {fuel : Nat} {cs : List Value} {x : DataW Hh × List MemPlace} (h : DataW.trod enc Try.prog W 0 (fun _ => true) held fuel 32 cs = some x) (hz : ∀ v ∈ cs, Zc W v) (hw : (DataW.weights Try.prog 32 x.1).all (· ≤ reachBytes) = true)
    {φ : List LI} {H : Hp} (hr : RepH φ H W) (hn : NoOwn H) :
    ∃ φ' H' a n ps T v, cs = [v] ∧ φ <+: φ' ∧ H <+: H' ∧ RepH φ' H' W ∧ NoOwn H' ∧ GV.is φ' (.sl a n 5) v ∧ Tr H' a n ps T ∧ n * 80 ≤ 140737488351232 := by
  have h5 : Try.prog.cellsOf 41 = 5 := by kernel_rfl
  rcases DataW.trod_slice Try.underlying32 h with ⟨rfl, rfl⟩ | ⟨a, len, cap, elems, rest, n, rfl, rfl, rfl, _, hl, hcap, hel, hi, hrest, _⟩
  · exact ⟨φ, H, none, 0, [], [], _, rfl, List.prefix_refl _, List.prefix_refl _, hr, hn, ⟨rfl, rfl⟩, ⟨rfl, rfl, rfl, fun i h1 => (by simp at h1)⟩, by omega⟩
  rw [h5] at hi hrest
  obtain ⟨hrl, hrj⟩ := hrest rfl
  simp only [DataW.weights, Try.underlying32] at hw
  rw [List.all_cons, List.all_append, Bool.and_eq_true, Bool.and_eq_true] at hw
  obtain ⟨hw0, hw1, _⟩ := hw
  have hpos : 0 < W.heap.size := hz (.slice (some a) len cap) (List.mem_singleton.2 rfl) _ _ _ rfl
  -- the first cell
  have hsp : 0 < cap → a.spot = none ∧ a.block < W.heap.size := by
    intro h0
    have hb : ∃ cs0, W.cells? 0 (a.add 0) 5 = some cs0 := by
      rcases Nat.eq_zero_or_pos len with e | e
      · have := hrj 0 (by omega)
        rw [e] at this
        simp only [Nat.zero_add, Nat.zero_mul] at this
        rw [List.getElem?_eq_getElem (by omega)] at this
        cases hc : W.cells? 0 (a.add 0) 5 with
        | none => rw [hc] at this; cases this
        | some c => exact ⟨c, rfl⟩
      · have := hi 0 e
        simp only [Nat.zero_mul] at this
        rw [List.getElem?_eq_getElem (by omega)] at this
        cases hc : W.cells? 0 (a.add 0) 5 with
        | none => rw [hc] at this; cases this
        | some c => exact ⟨c, rfl⟩
    obtain ⟨c0, hc0⟩ := hb
    obtain ⟨_, hlen, hget⟩ := World.cells?_some hc0
    have := hget 0 (by omega)
    rw [List.getElem?_eq_getElem (by omega)] at this
    have := cell_lt this
    simpa [Addr.add] using this
  -- one page behind the other
  have key : ∀ k, k ≤ len → ∃ (φ' : List LI) (H' : Hp) (ps : List PC) (T : List Pg), φ <+: φ' ∧ H <+: H' ∧ RepH φ' H' W ∧ NoOwn H' ∧ ps.length = k ∧ T.length = k ∧ (∀ i (h : i < ps.length) (h' : i < T.length), (ps[i]).at H' T[i]) ∧
      ∀ j v, (pcells ps)[j]? = some v → ∃ x, W.cell? (a.add j) = some x ∧ v.is φ' x := by
    intro k
    induction k with
    | zero => intro _; exact ⟨φ, H, [], [], List.prefix_refl _, List.prefix_refl _, hr, hn, rfl, rfl, fun i h1 => (by simp at h1), fun j v hj => (by simp [pcells] at hj)⟩
    | succ k ih =>
      intro hk
      obtain ⟨φ1, H1, ps, T, e1, g1, r1, n1, l1, l2, at1, c1⟩ := ih (by omega)
      have hik := hi k (by omega)
      have hel' : k < elems.length := by omega
      rw [List.getElem?_eq_getElem hel'] at hik
      cases hc : W.cells? 0 (a.add (k * 5)) 5 with
      | none => rw [hc] at hik; cases hik
      | some ck =>
        rw [hc] at hik
        obtain ⟨_, hlen, hget⟩ := World.cells?_some hc
        obtain ⟨φ2, H2, u, l, a1, n1', a2, n2, a3, n3, p, e2, g2, r2, n2', is2, at2⟩ := open_pg (x := elems[k]) hik (fun v hv => by intro _ _ _ _; exact hpos) (weights_all hw1 (i := k) (by rw [List.getElem?_map, List.getElem?_eq_getElem hel']; rfl)) r1 n1
        obtain ⟨hs, hb⟩ := hsp (by omega)
        refine ⟨φ2, H2, ps ++ [⟨u, l, a1, n1', a2, n2, a3, n3⟩], T ++ [p], e1.trans e2, g1.trans g2, r2, n2', by simp [l1], by simp [l2], ?_, ?_⟩
        · intro i h1 h2
          rw [List.getElem_append, List.getElem_append]
          by_cases e : i < k
          · rw [dif_pos (by omega), dif_pos (by omega)]
            exact (at1 i (by omega) (by omega)).mono g2
          · rw [dif_neg (by omega), dif_neg (by omega)]
            simpa [PC.at] using at2
        · intro j v hj
          rw [pcells_append] at hj
          rcases Nat.lt_or_ge j (k * 5) with q | q
          · rw [List.getElem?_append_left (by rw [pcells_length]; omega)] at hj
            obtain ⟨x, x1, x2⟩ := c1 j v hj
            exact ⟨x, x1, GV.is.mono e2 x2⟩
          · rw [List.getElem?_append_right (by rw [pcells_length]; omega), pcells_length, l1] at hj
            have hj5 : j - k * 5 < 5 := by have := (List.getElem?_eq_some_iff.1 hj).1; simpa [pcells] using this
            obtain ⟨x, hx, hvx⟩ := Is2.get is2 (j := j - k * 5) (v := v) (by simpa [pcells, PC.cells] using hj)
            refine ⟨x, ?_, hvx⟩
            have := hget (j - k * 5) hj5
            rw [hx] at this
            rw [← this, add_none hs, add_none hs]
            rw [add_none rfl]
            congr 2
            show a.off + j = a.off + k * 5 + (j - k * 5)
            omega
  obtain ⟨φ1, H1, ps, T, e1, g1, r1, n1, l1, l2, at1, c1⟩ := key len (Nat.le_refl _)
  obtain ⟨φ2, H2, p, e2, g2, r2, n2, i2, s2⟩ := open_row (z := 5) r1 n1 hl hpos hsp (pcells ps) (by rw [pcells_length, l1]) c1
  refine ⟨φ2, H2, p, len, ps, T, _, rfl, e1.trans e2, g1.trans g2, r2, n2, i2, ⟨s2, l1, l2, fun i h1 h2 => (at1 i h1 h2).mono g2⟩, ?_⟩
  have hb : Try.prog.bytesOf 41 = 80 := by kernel_rfl
  simp only [decide_eq_true_eq, List.length_map, hb, hel] at hw0
  unfold reachBytes at hw0
  omega
set_option maxRecDepth 100000 in
/-- a tree -/
theorem open_tree {fuel : Nat} {cs : List Value} {x : DataW Hh × List MemPlace} (h : DataW.trod enc Try.prog W 0 (fun _ => true) held fuel 34 cs = some x) (hz : ∀ v ∈ cs, Zc W v) (hw : (DataW.weights Try.prog 34 x.1).all (· ≤ reachBytes) = true)
    {φ : List LI} {H : Hp} (hr : RepH φ H W) (hn : NoOwn H) :
    ∃ φ' H' a n ps T, φ <+: φ' ∧ H <+: H' ∧ RepH φ' H' W ∧ NoOwn H' ∧ Is2 φ' [.sl a n 5] cs ∧ Tr H' a n ps T ∧ n * 80 ≤ 140737488351232 := by
  obtain ⟨xs, n, rfl, rfl, hlen, hxs, hf⟩ := DataW.trod_struct Try.underlying34 h
  have h1 : Try.prog.cellsOf 34 = 1 := by kernel_rfl
  have c1 : Try.prog.cellsOf 32 = 1 := by kernel_rfl
  rw [h1] at hlen
  match cs, hlen with
  | [v0], _ =>
    have f0 : DataW.trod enc Try.prog W 0 (fun _ => true) held n 32 (([v0].drop 0).take (Try.prog.cellsOf 32)) = xs[0]? := hf 0 _ rfl
    simp only [c1, List.drop_zero, List.take_succ_cons, List.take_zero] at f0
    match xs, hxs with
    | [x0], _ =>
      simp only [List.getElem?_cons_zero] at f0
      simp only [List.map_cons, List.map_nil, DataW.weights, Try.underlying34] at hw
      obtain ⟨φ1, H1, a, m, ps, T, v, e, p1, q1, r1, o1, i1, s1, b1⟩ := open_pages f0 (fun v hv => hz v hv) (all_each hw (j := 0) rfl rfl) hr hn
      simp only [List.cons.injEq, and_true] at e
      subst e
      exact ⟨φ1, H1, a, m, ps, T, p1, q1, r1, o1, .cons i1 .nil, s1, b1⟩
end
end Go.Am
namespace Go.Am

def blt (a b : ByteArray) : Bool := Op.bytesLess (bs a) (bs b)
theorem blt_eq (a b : ByteArray) : strLt a b = blt a b := strLt_bs a b

/-! a page's form, by a computation -/
def risB : List ByteArray → Bool
  | [] => true
  | [_] => true
  | a :: b :: r => Op.bytesLess (bs a) (bs b) && risB (b :: r)
theorem risB_iff : ∀ xs : List ByteArray, risB xs = true ↔ Rising xs
  | [] => ⟨fun _ i h => absurd h (by simp), fun _ => rfl⟩
  | [_] => ⟨fun _ i h => absurd h (by simp), fun _ => rfl⟩
  | a :: b :: r => by
    have ih := risB_iff (b :: r)
    simp only [risB, Bool.and_eq_true, ih, ← strLt_bs]
    constructor
    · rintro ⟨h1, h2⟩ i hi
      cases i with
      | zero => exact h1
      | succ i => exact h2 i (by simp at hi ⊢; omega)
    · intro h
      refine ⟨h 0 (by simp), fun i hi => ?_⟩
      exact h (i + 1) (by simp at hi ⊢; omega)
def nodB : List Int → Bool
  | [] => true
  | a :: r => !(r.contains a) && nodB r
theorem nodB_iff : ∀ xs : List Int, nodB xs = true ↔ xs.Nodup
  | [] => by simp [nodB]
  | a :: r => by simp [nodB, nodB_iff r]
def fitsB (p : Pg) : Bool := p.used && (risB p.keys && (p.keys.all (fun k => decide (1 ≤ k.size) && decide (k.size ≤ 6)) &&
  (match p.leaf with
   | true => decide (p.vals.length = p.keys.length) && (p.kids.isEmpty && p.vals.all (fun v => decide (v.size ≤ 10)))
   | false => decide (1 ≤ p.keys.length) && (p.vals.isEmpty && (decide (p.kids.length = p.keys.length + 1) && (p.kids.all (fun k => decide (1 ≤ k) && decide (k < 48)) && nodB p.kids))))))
theorem fitsB_iff (p : Pg) : fitsB p = true ↔ FitsP p := by
  obtain ⟨u, l, ks, vs, is⟩ := p
  cases l with
  | true =>
    simp only [fitsB, Bool.and_eq_true, risB_iff, List.all_eq_true, decide_eq_true_eq, List.isEmpty_iff]
    exact ⟨fun h => ⟨h.1, h.2.1, h.2.2.1, fun _ => h.2.2.2, fun q => (by cases q)⟩, fun h => ⟨h.used, h.rising, h.keys, h.leaf rfl⟩⟩
  | false =>
    simp only [fitsB, Bool.and_eq_true, risB_iff, nodB_iff, List.all_eq_true, decide_eq_true_eq, List.isEmpty_iff]
    exact ⟨fun h => ⟨h.1, h.2.1, h.2.2.1, fun q => (by cases q), fun _ => h.2.2.2⟩, fun h => ⟨h.used, h.rising, h.keys, h.inner rfl⟩⟩
def mayB_ (p : Pg) : Bool := decide (p.keys.length ≤ 4) && fitsB p
theorem mayB_iff (p : Pg) : mayB_ p = true ↔ MayP p := by simp [mayB_, MayP, fitsB_iff]

/-! a walk over a tree -/
structure WS where
  met : List Bool
  deep : Nat
  count : Nat
def holdB (lo hi : ByteArray) (ks : List ByteArray) : Bool := ks.all fun k => !(blt k lo) && (decide (hi.size = 0) || blt k hi)
def loK (p : Pg) (lo : ByteArray) (i : Nat) : ByteArray := match decide (0 < i) with | true => p.keys[i - 1]?.getD lo | false => lo
def hiK (p : Pg) (hi : ByteArray) (i : Nat) : ByteArray := p.keys[i]?.getD hi
def kidsD (rec : Int → Nat → WS → Option WS) : List Int → Nat → WS → Option WS
  | [], _, st => some st
  | k :: ks, i, st => match rec k i st with
    | none => none
    | some st' => kidsD rec ks (i + 1) st'
/-- may the walk go on at a page? -/
def okD (p : Pg) (at_ : Nat) (lo hi : ByteArray) (st : WS) : Bool := !(st.met[at_]?.getD true) && (mayB_ p && (!(decide (0 < at_) && decide (p.keys.length < 2)) && holdB lo hi p.keys))
def leafD (p : Pg) (deep : Nat) (st : WS) : Option WS := match decide (st.deep = 0) with
  | true => some ⟨st.met, deep, st.count + p.keys.length⟩
  | false => match decide (st.deep = deep) with
    | true => some ⟨st.met, deep, st.count + p.keys.length⟩
    | false => none
def walkD (T : List Pg) : Nat → Nat → Nat → ByteArray → ByteArray → WS → Option WS
  | 0, _, _, _, _, _ => none
  | f + 1, at_, deep, lo, hi, st => match T[at_]? with
    | none => none
    | some p => match okD p at_ lo hi st with
      | false => none
      | true => match p.leaf with
        | true => leafD p deep ⟨st.met.set at_ true, st.deep, st.count⟩
        | false => kidsD (fun k i s => walkD T f k.toNat (deep + 1) (loK p lo i) (hiK p hi i) s) p.kids 0 ⟨st.met.set at_ true, st.deep, st.count⟩
def nothingB (p : Pg) : Bool := !p.used && (!p.leaf && (p.keys.isEmpty && (p.vals.isEmpty && p.kids.isEmpty)))
def restD (T : List Pg) (met : List Bool) : Bool := (List.range T.length).all fun i => met[i]?.getD true || nothingB (T[i]?.getD noPg)
def ws0 : WS := ⟨List.replicate 48 false, 0, 0⟩
/-- how high a tree is; 0: it is not sound -/
def heightD (T : List Pg) : Nat := match decide (T.length = 48) with
  | false => 0
  | true => match walkD T 49 0 1 (mkS []) (mkS []) ws0 with
    | none => 0
    | some st => match restD T st.met && decide (st.count ≤ 60) with
      | true => st.deep
      | false => 0

/-- pages not met -/
def unmet (met : List Bool) : Nat := (met.filter (! ·)).length
theorem unmet_set : ∀ {met : List Bool} {i : Nat}, met[i]? = some false → unmet (met.set i true) + 1 = unmet met
  | [], i, h => by simp at h
  | b :: met, 0, h => by simp at h; subst h; simp [unmet]
  | b :: met, i + 1, h => by
    have := unmet_set (met := met) (i := i) (by simpa using h)
    unfold unmet at this ⊢
    cases b <;> simp <;> simpa using this
theorem walkD_unmet (T : List Pg) : ∀ f at_ deep lo hi st st', walkD T f at_ deep lo hi st = some st' → unmet st'.met ≤ unmet st.met ∧ st'.met.length = st.met.length ∧ (1 ≤ deep → st'.deep ≠ 0) ∧ st'.count + 4 * unmet st'.met ≤ st.count + 4 * unmet st.met := by
  intro f
  induction f with
  | zero => intro _ _ _ _ _ _ h; cases h
  | succ f ih =>
    intro at_ deep lo hi st st' h
    unfold walkD at h
    cases hp : T[at_]? with
    | none => rw [hp] at h; cases h
    | some p =>
      rw [hp] at h
      dsimp only at h
      cases hok : okD p at_ lo hi st with
      | false => rw [hok] at h; cases h
      | true =>
        rw [hok] at h
        dsimp only at h
        have hm : st.met[at_]? = some false := by
          unfold okD at hok
          rw [Bool.and_eq_true] at hok
          have := hok.1
          cases hq : st.met[at_]? with
          | none => rw [hq] at this; simp at this
          | some b => rw [hq] at this; simp at this; rw [this]
        have hu := unmet_set hm
        have h4 : p.keys.length ≤ 4 := by
          unfold okD at hok
          simp only [Bool.and_eq_true] at hok
          exact ((mayB_iff p).1 hok.2.1).1
        cases hl : p.leaf with
        | true =>
          rw [hl] at h
          dsimp only [leafD] at h
          split at h
          · cases h; exact ⟨by dsimp only; omega, by simp, fun hd => by dsimp only; omega, by dsimp only; omega⟩
          · split at h
            · cases h; exact ⟨by dsimp only; omega, by simp, fun hd => by dsimp only; omega, by dsimp only; omega⟩
            · cases h
        | false =>
          rw [hl] at h
          dsimp only at h
          have hk : p.kids ≠ [] := by
            intro e
            unfold okD at hok
            simp only [Bool.and_eq_true] at hok
            have := ((mayB_iff p).1 hok.2.1).2.inner hl
            rw [e] at this
            simp at this
          have key : ∀ (ks : List Int) (i : Nat) (s s' : WS), kidsD (fun k i s => walkD T f k.toNat (deep + 1) (loK p lo i) (hiK p hi i) s) ks i s = some s' → unmet s'.met ≤ unmet s.met ∧ s'.met.length = s.met.length ∧ (ks ≠ [] ∨ s.deep ≠ 0 → s'.deep ≠ 0) ∧ s'.count + 4 * unmet s'.met ≤ s.count + 4 * unmet s.met := by
            intro ks
            induction ks with
            | nil => intro i s s' h; cases h; exact ⟨Nat.le_refl _, rfl, fun q => by rcases q with q | q; exact (q rfl).elim; exact q, Nat.le_refl _⟩
            | cons k ks ihk =>
              intro i s s' h
              unfold kidsD at h
              cases hw : walkD T f k.toNat (deep + 1) (loK p lo i) (hiK p hi i) s with
              | none => rw [hw] at h; cases h
              | some s1 =>
                rw [hw] at h
                obtain ⟨u1, u2, u3, u4⟩ := ih _ _ _ _ _ _ hw
                obtain ⟨v1, v2, v3, v4⟩ := ihk _ _ _ h
                exact ⟨by omega, by omega, fun _ => v3 (.inr (u3 (by omega))), by omega⟩
          obtain ⟨u1, u2, u3, u4⟩ := key _ _ _ _ h
          dsimp only at u1 u2 u4
          exact ⟨by omega, by rw [u2]; simp, fun _ => u3 (.inl hk), by omega⟩

theorem walkD_eq (T : List Pg) (f at_ deep : Nat) (lo hi : ByteArray) (st : WS) {p : Pg} (hp : T[at_]? = some p) : walkD T (f + 1) at_ deep lo hi st = (match okD p at_ lo hi st with
      | false => none
      | true => match p.leaf with
        | true => leafD p deep ⟨st.met.set at_ true, st.deep, st.count⟩
        | false => kidsD (fun k i s => walkD T f k.toNat (deep + 1) (loK p lo i) (hiK p hi i) s) p.kids 0 ⟨st.met.set at_ true, st.deep, st.count⟩) := by
  rw [walkD, hp]
end Go.Am
namespace Go.Am
/-! 21: cryostat/node.Slot -/
def node_Slot.cx : Cx := ⟨tys, [], [(3, [0, 1, 6, 9, 10, 11])], [], [], noDyn, [.tmp 4, .tmp 5]⟩
def node_Slot : Sm := fun xs H Q => ∃ k, callK (node_Slot.cx) Go.Proofs.Try.f21 k xs H Q
def node_Slot.l3 (k : Nat) (xx0 : Pl) (nx1 : Nat) (sx2 : ByteArray) (ix3 : Int) (xx4 : Pl) (nx5 : Nat) (ix6 : Int) (ix7 : Int) (H : Hp) (Q : Post) : Prop := loopK (node_Slot.cx) Go.Proofs.Try.f21 3 k ((.g (.sl xx0 nx1 1)) :: (.g (.str sx2)) :: B 4 ((.g (.int .i64 ix3)) :: .bad :: .bad :: (.g (.sl xx4 nx5 1)) :: (.g (.int .i64 ix6)) :: (.g (.int .i64 ix7)) :: B 22 ([]))) H Q
theorem node_Slot_eq (k : Nat) (z0 : Pl) (z0n : Nat) (z1 : ByteArray) (H : Hp) (Q : Post) : callK (node_Slot.cx) Go.Proofs.Try.f21 (k + 1) [.g (.sl z0 z0n 1), .g (.str z1)] H Q = (
 node_Slot.l3 k z0 z0n z1 0 z0 z0n (nI z0n) 0 H Q) := by kernel_rfl
theorem node_Slot.l3_eq (k : Nat) (xx0 : Pl) (nx1 : Nat) (sx2 : ByteArray) (ix3 : Int) (xx4 : Pl) (nx5 : Nat) (ix6 : Int) (ix7 : Int) (H : Hp) (Q : Post) : node_Slot.l3 (k + 1) xx0 nx1 sx2 ix3 xx4 nx5 ix6 ix7 H Q = (
 bite (ltI ix7 ix6)
 (chk true (chk ((leI 0 ix7) && (ltI ix7 (nI nx5))) (pS xx4 fun n0 n1 =>
  rd H n0 (n1 + ((tN ix7) * 1)) fun v2 =>
  dS v2 fun s3 =>
  bite (strLt s3 sx2)
  (node_Slot.l3 k xx0 nx1 sx2 (wrapI .i64 (ix3 + 1)) xx4 nx5 ix6 (wrapI .i64 (ix7 + 1)) H Q)
  (node_Slot.l3 k xx0 nx1 sx2 ix3 xx4 nx5 ix6 (wrapI .i64 (ix7 + 1)) H Q))))
 (bite (ltI ix3 (nI nx1))
  (chk true (chk ((leI 0 ix3) && (ltI ix3 (nI nx1))) (pS xx0 fun n4 n5 =>
   rd H n4 (n5 + ((tN ix3) * 1)) fun v6 =>
   dS v6 fun s7 =>
   Q (.tup [(.s (.int .i64 ix3)), (.s (.bool (strEq s7 sx2)))]) H)))
  (Q (.tup [(.s (.int .i64 ix3)), (.s (.bool false))]) H))) := by kernel_rfl
theorem node_Slot_ok : Sound Go.Proofs.Try.prog 21 (node_Slot) := prog_ok.sound (cx := node_Slot.cx) rfl (EnvOK.nil _) (noDyn_ok _) Go.Proofs.Try.func21 rfl

/-! 117: slices.Clone[[]string,string] -/
def slices_Clone__string_string.cx : Cx := ⟨tys, [], [], [], [], noDyn, [.tmp 2]⟩
def slices_Clone__string_string : Sm := fun xs H Q => ∃ k, callK (slices_Clone__string_string.cx) Go.Proofs.Try.f117 k xs H Q
theorem slices_Clone__string_string_eq (k : Nat) (z0 : Pl) (z0n : Nat) (H : Hp) (Q : Post) : callK (slices_Clone__string_string.cx) Go.Proofs.Try.f117 (k + 1) [.g (.sl z0 z0n 1)] H Q = (
 bite (isNone z0)
 (Q (.g (.sl none 0 1)) H)
 (chk true (rdN H z0 (z0n * 1) fun c0 =>
  ap0 H 9 1 16 c0 z0n fun H1 =>
  Q (.g (.sl (some ((ln H), 0)) z0n 1)) H1))) := by kernel_rfl
theorem slices_Clone__string_string_ok : Sound Go.Proofs.Try.prog 117 (slices_Clone__string_string) := prog_ok.sound (cx := slices_Clone__string_string.cx) rfl (EnvOK.nil _) (noDyn_ok _) Go.Proofs.Try.func117 rfl

/-! 118: slices.Clone[[]int,int] -/
def slices_Clone__int_int.cx : Cx := ⟨tys, [], [], [], [], noDyn, [.tmp 2]⟩
def slices_Clone__int_int : Sm := fun xs H Q => ∃ k, callK (slices_Clone__int_int.cx) Go.Proofs.Try.f118 k xs H Q
theorem slices_Clone__int_int_eq (k : Nat) (z0 : Pl) (z0n : Nat) (H : Hp) (Q : Post) : callK (slices_Clone__int_int.cx) Go.Proofs.Try.f118 (k + 1) [.g (.sl z0 z0n 1)] H Q = (
 bite (isNone z0)
 (Q (.g (.sl none 0 1)) H)
 (chk true (rdN H z0 (z0n * 1) fun c0 =>
  ap0 H 3 1 8 c0 z0n fun H1 =>
  Q (.g (.sl (some ((ln H), 0)) z0n 1)) H1))) := by kernel_rfl
theorem slices_Clone__int_int_ok : Sound Go.Proofs.Try.prog 118 (slices_Clone__int_int) := prog_ok.sound (cx := slices_Clone__int_int.cx) rfl (EnvOK.nil _) (noDyn_ok _) Go.Proofs.Try.func118 rfl

/-! 100: cryostat/page.Copy -/
def page_Copy.cx : Cx := ⟨tys, [], [], [], [(117, slices_Clone__string_string), (118, slices_Clone__int_int)], noDyn, [.cell 2 41]⟩
def page_Copy : Sm := fun xs H Q => ∃ k, callK (page_Copy.cx) Go.Proofs.Try.f100 k xs H Q
theorem page_Copy_eq (k : Nat) (z0 : Bool) (z1 : Bool) (z2 : Pl) (z2n : Nat) (z3 : Pl) (z3n : Nat) (z4 : Pl) (z4n : Nat) (H : Hp) (Q : Post) : callK (page_Copy.cx) Go.Proofs.Try.f100 (k + 1) [.agg [.bool z0, .bool z1, .sl z2 z2n 1, .sl z3 z3n 1, .sl z4 z4n 1]] H Q = (
 cl slices_Clone__string_string [(.g (.sl z2 z2n 1))] H fun r0 H1 =>
 rG r0 fun v2 =>
 dL 1 v2 fun x3 n4 =>
 cl slices_Clone__string_string [(.g (.sl z3 z3n 1))] H1 fun r5 H6 =>
 rG r5 fun v7 =>
 dL 1 v7 fun x8 n9 =>
 cl slices_Clone__int_int [(.g (.sl z4 z4n 1))] H6 fun r10 H11 =>
 rG r10 fun v12 =>
 dL 1 v12 fun x13 n14 =>
 Q (.agg [(.bool z0), (.bool z1), (.sl x3 n4 1), (.sl x8 n9 1), (.sl x13 n14 1)]) H11) := by kernel_rfl
theorem page_Copy_ok : Sound Go.Proofs.Try.prog 100 (page_Copy) := prog_ok.sound (cx := page_Copy.cx) rfl (EnvOK.cons ((slices_Clone__string_string_ok).c ⟨_, Go.Proofs.Try.func117, by kernel_rfl, by kernel_rfl⟩) (EnvOK.cons ((slices_Clone__int_int_ok).c ⟨_, Go.Proofs.Try.func118, by kernel_rfl, by kernel_rfl⟩) (EnvOK.nil _))) (noDyn_ok _) Go.Proofs.Try.func100 rfl

/-! 79: cryostat/node.Cut -/
def node_Cut.cx : Cx := ⟨tys, [], [], [], [(100, page_Copy)], noDyn, [.cell 4 41, .tmp 5, .cell 6 41]⟩
def node_Cut : Sm := fun xs H Q => ∃ k, callK (node_Cut.cx) Go.Proofs.Try.f79 k xs H Q
theorem node_Cut_eq (k : Nat) (z0 : Bool) (z1 : Bool) (z2 : Pl) (z2n : Nat) (z3 : Pl) (z3n : Nat) (z4 : Pl) (z4n : Nat) (z5 : Int) (H : Hp) (Q : Post) : callK (node_Cut.cx) Go.Proofs.Try.f79 (k + 1) [.agg [.bool z0, .bool z1, .sl z2 z2n 1, .sl z3 z3n 1, .sl z4 z4n 1], .g (.int .i64 z5)] H Q = (
 chk true (chk ((leI 0 z5) && (ltI z5 (nI z2n))) (pS z2 fun n0 n1 =>
 rd H n0 (n1 + ((tN z5) * 1)) fun v2 =>
 dS v2 fun s3 =>
 cl page_Copy [(.agg [(.bool z0), (.bool z1), (.sl z2 z2n 1), (.sl z3 z3n 1), (.sl z4 z4n 1)])] H fun r4 H5 =>
 rA r4 fun c6 =>
 uC c6 fun v7 c8 =>
 dB v7 fun b9 =>
 uC c8 fun v10 c11 =>
 dB v10 fun b12 =>
 uC c11 fun v13 c14 =>
 dL 1 v13 fun x15 n16 =>
 uC c14 fun v17 c18 =>
 dL 1 v17 fun x19 n20 =>
 uC c18 fun v21 c22 =>
 dL 1 v21 fun x23 n24 =>
 uN c22 (rd H5 n0 (n1 + ((tN z5) * 1)) fun v25 =>
 dS v25 fun s26 =>
 eqv (.g (.str s3)) (.g (.str s26)) (cl page_Copy [(.agg [(.bool z0), (.bool z1), (.sl z2 z2n 1), (.sl z3 z3n 1), (.sl z4 z4n 1)])] H5 fun r27 H28 =>
 rA r27 fun c29 =>
 uC c29 fun v30 c31 =>
 dB v30 fun b32 =>
 uC c31 fun v33 c34 =>
 dB v33 fun b35 =>
 uC c34 fun v36 c37 =>
 dL 1 v36 fun x38 n39 =>
 uC c37 fun v40 c41 =>
 dL 1 v40 fun x42 n43 =>
 uC c41 fun v44 c45 =>
 dL 1 v44 fun x46 n47 =>
 uN c45 (rd H28 n0 (n1 + ((tN z5) * 1)) fun v48 =>
 dS v48 fun s49 =>
 eqv (.g (.str s3)) (.g (.str s49)) (chk true (chk (leI 0 z5) (chk ((leN 0 (tN z5)) && ((leN (tN z5) n16) || (room H28 x15 ((tN z5) * 1)))) (bite z1
 (chk true (chk (leI 0 z5) (chk ((leN 0 (tN z5)) && ((leN (tN z5) n20) || (room H28 x19 ((tN z5) * 1)))) (chk true (chk (leI 0 z5) (chk (leN (tN z5) n39) (chk true (chk (leI 0 z5) (chk (leN (tN z5) n43) (Q (.tup [(.a [(.bool b9), (.bool b12), (.sl (shf x15 0) ((tN z5) - 0) 1), (.sl (shf x19 0) ((tN z5) - 0) 1), (.sl x23 n24 1)]), (.s (.str s3)), (.a [(.bool b32), (.bool b35), (.sl (shf x38 ((tN z5) * 1)) (n39 - (tN z5)) 1), (.sl (shf x42 ((tN z5) * 1)) (n43 - (tN z5)) 1), (.sl x46 n47 1)])]) H28))))))))))
 (chk true (chk (leI 0 (wrapI .i64 (z5 + 1))) (chk ((leN 0 (tN (wrapI .i64 (z5 + 1)))) && ((leN (tN (wrapI .i64 (z5 + 1))) n24) || (room H28 x23 ((tN (wrapI .i64 (z5 + 1))) * 1)))) (chk true (chk (leI 0 (wrapI .i64 (z5 + 1))) (chk (leN (tN (wrapI .i64 (z5 + 1))) n39) (chk true (chk (leI 0 (wrapI .i64 (z5 + 1))) (chk (leN (tN (wrapI .i64 (z5 + 1))) n47) (Q (.tup [(.a [(.bool b9), (.bool b12), (.sl (shf x15 0) ((tN z5) - 0) 1), (.sl x19 n20 1), (.sl (shf x23 0) ((tN (wrapI .i64 (z5 + 1))) - 0) 1)]), (.s (.str s3)), (.a [(.bool b32), (.bool b35), (.sl (shf x38 ((tN (wrapI .i64 (z5 + 1))) * 1)) (n39 - (tN (wrapI .i64 (z5 + 1)))) 1), (.sl x42 n43 1), (.sl (shf x46 ((tN (wrapI .i64 (z5 + 1))) * 1)) (n47 - (tN (wrapI .i64 (z5 + 1)))) 1)])]) H28)))))))))))))))))))) := by kernel_rfl
theorem node_Cut_ok : Sound Go.Proofs.Try.prog 79 (node_Cut) := prog_ok.sound (cx := node_Cut.cx) rfl (EnvOK.cons ((page_Copy_ok).c ⟨_, Go.Proofs.Try.func100, by kernel_rfl, by kernel_rfl⟩) (EnvOK.nil _)) (noDyn_ok _) Go.Proofs.Try.func79 rfl

/-! 54: cryostat/node.Split -/
def node_Split.cx : Cx := ⟨tys, [], [], [(6, [1, 2, 4, 6])], [(78, page_Fits), (79, node_Cut)], noDyn, [.cell 2 41, .tmp 3, .cell 4 41, .tmp 5]⟩
def node_Split : Sm := fun xs H Q => ∃ k, callK (node_Split.cx) Go.Proofs.Try.f54 k xs H Q
def node_Split.l6 (k : Nat) (bx0 : Bool) (bx1 : Bool) (xx2 : Pl) (nx3 : Nat) (xx4 : Pl) (nx5 : Nat) (xx6 : Pl) (nx7 : Nat) (bx8 : Bool) (bx9 : Bool) (ax10 : Pl) (nx11 : Nat) (ax12 : Pl) (nx13 : Nat) (ax14 : Pl) (nx15 : Nat) (bx16 : Bool) (bx17 : Bool) (ax18 : Pl) (nx19 : Nat) (ax20 : Pl) (nx21 : Nat) (ax22 : Pl) (nx23 : Nat) (ix24 : Int) (H : Hp) (Q : Post) : Prop := loopK (node_Split.cx) Go.Proofs.Try.f54 6 k (.bad :: (.bx [(.bool bx0), (.bool bx1), (.sl xx2 nx3 1), (.sl xx4 nx5 1), (.sl xx6 nx7 1)]) :: (.bx [(.bool bx8), (.bool bx9), (.sl ax10 nx11 1), (.sl ax12 nx13 1), (.sl ax14 nx15 1)]) :: .bad :: (.bx [(.bool bx16), (.bool bx17), (.sl ax18 nx19 1), (.sl ax20 nx21 1), (.sl ax22 nx23 1)]) :: .bad :: (.g (.int .i64 ix24)) :: B 26 ([])) H Q
theorem node_Split_eq (k : Nat) (z0 : Bool) (z1 : Bool) (z2 : Pl) (z2n : Nat) (z3 : Pl) (z3n : Nat) (z4 : Pl) (z4n : Nat) (H : Hp) (Q : Post) : callK (node_Split.cx) Go.Proofs.Try.f54 (k + 1) [.agg [.bool z0, .bool z1, .sl z2 z2n 1, .sl z3 z3n 1, .sl z4 z4n 1]] H Q = (
 bite (!(eqI (nI z2n) 5))
 (Q (.tup [(.a [(.bool false), (.bool false), (.sl none 0 1), (.sl none 0 1), (.sl none 0 1)]), (.s (.str (mkS []))), (.a [(.bool false), (.bool false), (.sl none 0 1), (.sl none 0 1), (.sl none 0 1)]), (.s (.int .i64 900))]) H)
 (cl page_Fits [(.agg [(.bool z0), (.bool z1), (.sl z2 z2n 1), (.sl z3 z3n 1), (.sl z4 z4n 1)])] H fun r0 H1 =>
  rG r0 fun v2 =>
  dB v2 fun b3 =>
  bite (!b3)
  (Q (.tup [(.a [(.bool false), (.bool false), (.sl none 0 1), (.sl none 0 1), (.sl none 0 1)]), (.s (.str (mkS []))), (.a [(.bool false), (.bool false), (.sl none 0 1), (.sl none 0 1), (.sl none 0 1)]), (.s (.int .i64 900))]) H1)
  (bite z1
   (node_Split.l6 k z0 z1 z2 z2n z3 z3n z4 z4n false false none 0 none 0 none 0 false false none 0 none 0 none 0 3 H1 Q)
   (node_Split.l6 k z0 z1 z2 z2n z3 z3n z4 z4n false false none 0 none 0 none 0 false false none 0 none 0 none 0 2 H1 Q)))) := by kernel_rfl
theorem node_Split.l6_eq (k : Nat) (bx0 : Bool) (bx1 : Bool) (xx2 : Pl) (nx3 : Nat) (xx4 : Pl) (nx5 : Nat) (xx6 : Pl) (nx7 : Nat) (bx8 : Bool) (bx9 : Bool) (ax10 : Pl) (nx11 : Nat) (ax12 : Pl) (nx13 : Nat) (ax14 : Pl) (nx15 : Nat) (bx16 : Bool) (bx17 : Bool) (ax18 : Pl) (nx19 : Nat) (ax20 : Pl) (nx21 : Nat) (ax22 : Pl) (nx23 : Nat) (ix24 : Int) (H : Hp) (Q : Post) : node_Split.l6 (k + 1) bx0 bx1 xx2 nx3 xx4 nx5 xx6 nx7 bx8 bx9 ax10 nx11 ax12 nx13 ax14 nx15 bx16 bx17 ax18 nx19 ax20 nx21 ax22 nx23 ix24 H Q = (
 cl node_Cut [(.agg [(.bool bx0), (.bool bx1), (.sl xx2 nx3 1), (.sl xx4 nx5 1), (.sl xx6 nx7 1)]), (.g (.int .i64 ix24))] H fun r0 H1 =>
 rT r0 fun c2 =>
 uR c2 fun q3 c4 =>
 rC q3 fun c5 =>
 uC c5 fun v6 c7 =>
 dB v6 fun b8 =>
 uC c7 fun v9 c10 =>
 dB v9 fun b11 =>
 uC c10 fun v12 c13 =>
 dL 1 v12 fun x14 n15 =>
 uC c13 fun v16 c17 =>
 dL 1 v16 fun x18 n19 =>
 uC c17 fun v20 c21 =>
 dL 1 v20 fun x22 n23 =>
 uN c21 (uR c4 fun q24 c25 =>
 rS q24 fun v26 =>
 dS v26 fun s27 =>
 uR c25 fun q28 c29 =>
 rC q28 fun c30 =>
 uC c30 fun v31 c32 =>
 dB v31 fun b33 =>
 uC c32 fun v34 c35 =>
 dB v34 fun b36 =>
 uC c35 fun v37 c38 =>
 dL 1 v37 fun x39 n40 =>
 uC c38 fun v41 c42 =>
 dL 1 v41 fun x43 n44 =>
 uC c42 fun v45 c46 =>
 dL 1 v45 fun x47 n48 =>
 uN c46 (uE c29 (Q (.tup [(.a [(.bool b8), (.bool b11), (.sl x14 n15 1), (.sl x18 n19 1), (.sl x22 n23 1)]), (.s (.str s27)), (.a [(.bool b33), (.bool b36), (.sl x39 n40 1), (.sl x43 n44 1), (.sl x47 n48 1)]), (.s (.int .i64 0))]) H1)))) := by kernel_rfl
theorem node_Split_ok : Sound Go.Proofs.Try.prog 54 (node_Split) := prog_ok.sound (cx := node_Split.cx) rfl (EnvOK.cons ((page_Fits_ok).c ⟨_, Go.Proofs.Try.func78, by kernel_rfl, by kernel_rfl⟩) (EnvOK.cons ((node_Cut_ok).c ⟨_, Go.Proofs.Try.func79, by kernel_rfl, by kernel_rfl⟩) (EnvOK.nil _))) (noDyn_ok _) Go.Proofs.Try.func54 rfl

/-! 81: cryostat/node.Both -/
def node_Both.cx : Cx := ⟨tys, [], [], [(4, [5, 6, 7])], [(100, page_Copy)], noDyn, [.cell 6 41]⟩
def node_Both : Sm := fun xs H Q => ∃ k, callK (node_Both.cx) Go.Proofs.Try.f81 k xs H Q
def node_Both.l4 (k : Nat) (bx0 : Bool) (bx1 : Bool) (xx2 : Pl) (nx3 : Nat) (xx4 : Pl) (nx5 : Nat) (xx6 : Pl) (nx7 : Nat) (bx8 : Bool) (bx9 : Bool) (ax10 : Pl) (nx11 : Nat) (ax12 : Pl) (nx13 : Nat) (ax14 : Pl) (nx15 : Nat) (bx16 : Bool) (bx17 : Bool) (xx18 : Pl) (nx19 : Nat) (xx20 : Pl) (nx21 : Nat) (xx22 : Pl) (nx23 : Nat) (H : Hp) (Q : Post) : Prop := loopK (node_Both.cx) Go.Proofs.Try.f81 4 k (B 5 ((.bx [(.bool bx0), (.bool bx1), (.sl xx2 nx3 1), (.sl xx4 nx5 1), (.sl xx6 nx7 1)]) :: (.bx [(.bool bx8), (.bool bx9), (.sl ax10 nx11 1), (.sl ax12 nx13 1), (.sl ax14 nx15 1)]) :: (.bx [(.bool bx16), (.bool bx17), (.sl xx18 nx19 1), (.sl xx20 nx21 1), (.sl xx22 nx23 1)]) :: B 30 ([]))) H Q
theorem node_Both_eq (k : Nat) (z0 : Bool) (z1 : Bool) (z2 : Pl) (z2n : Nat) (z3 : Pl) (z3n : Nat) (z4 : Pl) (z4n : Nat) (z5 : ByteArray) (z6 : Bool) (z7 : Bool) (z8 : Pl) (z8n : Nat) (z9 : Pl) (z9n : Nat) (z10 : Pl) (z10n : Nat) (H : Hp) (Q : Post) : callK (node_Both.cx) Go.Proofs.Try.f81 (k + 1) [.agg [.bool z0, .bool z1, .sl z2 z2n 1, .sl z3 z3n 1, .sl z4 z4n 1], .g (.str z5), .agg [.bool z6, .bool z7, .sl z8 z8n 1, .sl z9 z9n 1, .sl z10 z10n 1]] H Q = (
 cl page_Copy [(.agg [(.bool z0), (.bool z1), (.sl z2 z2n 1), (.sl z3 z3n 1), (.sl z4 z4n 1)])] H fun r0 H1 =>
 rA r0 fun c2 =>
 uC c2 fun v3 c4 =>
 dB v3 fun b5 =>
 uC c4 fun v6 c7 =>
 dB v6 fun b8 =>
 uC c7 fun v9 c10 =>
 dL 1 v9 fun x11 n12 =>
 uC c10 fun v13 c14 =>
 dL 1 v13 fun x15 n16 =>
 uC c14 fun v17 c18 =>
 dL 1 v17 fun x19 n20 =>
 uN c18 (bite (!z1)
 (chk true (ap H1 9 1 16 x11 n12 [(.str z5)] 1 fun x21 n22 H23 =>
  node_Both.l4 k z6 z7 z8 z8n z9 z9n z10 z10n false false none 0 none 0 none 0 b5 b8 x21 n22 x15 n16 x19 n20 H23 Q))
 (node_Both.l4 k z6 z7 z8 z8n z9 z9n z10 z10n false false none 0 none 0 none 0 b5 b8 x11 n12 x15 n16 x19 n20 H1 Q))) := by kernel_rfl
theorem node_Both.l4_eq (k : Nat) (bx0 : Bool) (bx1 : Bool) (xx2 : Pl) (nx3 : Nat) (xx4 : Pl) (nx5 : Nat) (xx6 : Pl) (nx7 : Nat) (bx8 : Bool) (bx9 : Bool) (ax10 : Pl) (nx11 : Nat) (ax12 : Pl) (nx13 : Nat) (ax14 : Pl) (nx15 : Nat) (bx16 : Bool) (bx17 : Bool) (xx18 : Pl) (nx19 : Nat) (xx20 : Pl) (nx21 : Nat) (xx22 : Pl) (nx23 : Nat) (H : Hp) (Q : Post) : node_Both.l4 (k + 1) bx0 bx1 xx2 nx3 xx4 nx5 xx6 nx7 bx8 bx9 ax10 nx11 ax12 nx13 ax14 nx15 bx16 bx17 xx18 nx19 xx20 nx21 xx22 nx23 H Q = (
 chk true (rdN H xx2 (nx3 * 1) fun c0 =>
 chk true (ap H 9 1 16 xx18 nx19 c0 nx3 fun x1 n2 H3 =>
 chk true (rdN H3 xx4 (nx5 * 1) fun c4 =>
 chk true (ap H3 9 1 16 xx20 nx21 c4 nx5 fun x5 n6 H7 =>
 chk true (rdN H7 xx6 (nx7 * 1) fun c8 =>
 chk true (ap H7 3 1 8 xx22 nx23 c8 nx7 fun x9 n10 H11 =>
 Q (.agg [(.bool bx16), (.bool bx17), (.sl x1 n2 1), (.sl x5 n6 1), (.sl x9 n10 1)]) H11))))))) := by kernel_rfl
theorem node_Both_ok : Sound Go.Proofs.Try.prog 81 (node_Both) := prog_ok.sound (cx := node_Both.cx) rfl (EnvOK.cons ((page_Copy_ok).c ⟨_, Go.Proofs.Try.func100, by kernel_rfl, by kernel_rfl⟩) (EnvOK.nil _)) (noDyn_ok _) Go.Proofs.Try.func81 rfl

/-! 82: slices.Clip[[]string,string] -/
def slices_Clip__string_string.cx : Cx := ⟨tys, [], [], [], [], noDyn, [.tmp 2]⟩
def slices_Clip__string_string : Sm := fun xs H Q => ∃ k, callK (slices_Clip__string_string.cx) Go.Proofs.Try.f82 k xs H Q
theorem slices_Clip__string_string_eq (k : Nat) (z0 : Pl) (z0n : Nat) (H : Hp) (Q : Post) : callK (slices_Clip__string_string.cx) Go.Proofs.Try.f82 (k + 1) [.g (.sl z0 z0n 1)] H Q = (
 chk true (chk (leI 0 (nI z0n)) (chk (leI 0 (nI z0n)) (chk ((leN 0 (tN (nI z0n))) && ((leN (tN (nI z0n)) (tN (nI z0n))) && ((leN (tN (nI z0n)) z0n) && (ends H z0 ((tN (nI z0n)) * 1))))) (Q (.g (.sl (shf z0 0) ((tN (nI z0n)) - 0) 1)) H))))) := by kernel_rfl
theorem slices_Clip__string_string_ok : Sound Go.Proofs.Try.prog 82 (slices_Clip__string_string) := prog_ok.sound (cx := slices_Clip__string_string.cx) rfl (EnvOK.nil _) (noDyn_ok _) Go.Proofs.Try.func82 rfl

/-! 83: slices.Clip[[]int,int] -/
def slices_Clip__int_int.cx : Cx := ⟨tys, [], [], [], [], noDyn, [.tmp 2]⟩
def slices_Clip__int_int : Sm := fun xs H Q => ∃ k, callK (slices_Clip__int_int.cx) Go.Proofs.Try.f83 k xs H Q
theorem slices_Clip__int_int_eq (k : Nat) (z0 : Pl) (z0n : Nat) (H : Hp) (Q : Post) : callK (slices_Clip__int_int.cx) Go.Proofs.Try.f83 (k + 1) [.g (.sl z0 z0n 1)] H Q = (
 chk true (chk (leI 0 (nI z0n)) (chk (leI 0 (nI z0n)) (chk ((leN 0 (tN (nI z0n))) && ((leN (tN (nI z0n)) (tN (nI z0n))) && ((leN (tN (nI z0n)) z0n) && (ends H z0 ((tN (nI z0n)) * 1))))) (Q (.g (.sl (shf z0 0) ((tN (nI z0n)) - 0) 1)) H))))) := by kernel_rfl
theorem slices_Clip__int_int_ok : Sound Go.Proofs.Try.prog 83 (slices_Clip__int_int) := prog_ok.sound (cx := slices_Clip__int_int.cx) rfl (EnvOK.nil _) (noDyn_ok _) Go.Proofs.Try.func83 rfl

/-! 55: cryostat/node.Join -/
def node_Join.cx : Cx := ⟨tys, [], [], [], [(80, page_May), (81, node_Both), (82, slices_Clip__string_string), (83, slices_Clip__int_int)], noDyn, [.cell 6 41, .tmp 7]⟩
def node_Join : Sm := fun xs H Q => ∃ k, callK (node_Join.cx) Go.Proofs.Try.f55 k xs H Q
theorem node_Join_eq (k : Nat) (z0 : Bool) (z1 : Bool) (z2 : Pl) (z2n : Nat) (z3 : Pl) (z3n : Nat) (z4 : Pl) (z4n : Nat) (z5 : ByteArray) (z6 : Bool) (z7 : Bool) (z8 : Pl) (z8n : Nat) (z9 : Pl) (z9n : Nat) (z10 : Pl) (z10n : Nat) (H : Hp) (Q : Post) : callK (node_Join.cx) Go.Proofs.Try.f55 (k + 1) [.agg [.bool z0, .bool z1, .sl z2 z2n 1, .sl z3 z3n 1, .sl z4 z4n 1], .g (.str z5), .agg [.bool z6, .bool z7, .sl z8 z8n 1, .sl z9 z9n 1, .sl z10 z10n 1]] H Q = (
 cl page_May [(.agg [(.bool z0), (.bool z1), (.sl z2 z2n 1), (.sl z3 z3n 1), (.sl z4 z4n 1)])] H fun r0 H1 =>
 rG r0 fun v2 =>
 dB v2 fun b3 =>
 bite (!b3)
 (Q (.tup [(.a [(.bool false), (.bool false), (.sl none 0 1), (.sl none 0 1), (.sl none 0 1)]), (.s (.int .i64 900))]) H1)
 (cl page_May [(.agg [(.bool z6), (.bool z7), (.sl z8 z8n 1), (.sl z9 z9n 1), (.sl z10 z10n 1)])] H1 fun r4 H5 =>
  rG r4 fun v6 =>
  dB v6 fun b7 =>
  bite (!b7)
  (Q (.tup [(.a [(.bool false), (.bool false), (.sl none 0 1), (.sl none 0 1), (.sl none 0 1)]), (.s (.int .i64 900))]) H5)
  (bite (!(eqB z1 z7))
   (Q (.tup [(.a [(.bool false), (.bool false), (.sl none 0 1), (.sl none 0 1), (.sl none 0 1)]), (.s (.int .i64 900))]) H5)
   (cl node_Both [(.agg [(.bool z0), (.bool z1), (.sl z2 z2n 1), (.sl z3 z3n 1), (.sl z4 z4n 1)]), (.g (.str z5)), (.agg [(.bool z6), (.bool z7), (.sl z8 z8n 1), (.sl z9 z9n 1), (.sl z10 z10n 1)])] H5 fun r8 H9 =>
    rA r8 fun c10 =>
    uC c10 fun v11 c12 =>
    dB v11 fun b13 =>
    uC c12 fun v14 c15 =>
    dB v14 fun b16 =>
    uC c15 fun v17 c18 =>
    dL 1 v17 fun x19 n20 =>
    uC c18 fun v21 c22 =>
    dL 1 v21 fun x23 n24 =>
    uC c22 fun v25 c26 =>
    dL 1 v25 fun x27 n28 =>
    uN c26 (cl page_May [(.agg [(.bool b13), (.bool b16), (.sl x19 n20 1), (.sl x23 n24 1), (.sl x27 n28 1)])] H9 fun r29 H30 =>
    rG r29 fun v31 =>
    dB v31 fun b32 =>
    bite (!b32)
    (Q (.tup [(.a [(.bool false), (.bool false), (.sl none 0 1), (.sl none 0 1), (.sl none 0 1)]), (.s (.int .i64 900))]) H30)
    (cl slices_Clip__string_string [(.g (.sl x19 n20 1))] H30 fun r33 H34 =>
     rG r33 fun v35 =>
     dL 1 v35 fun x36 n37 =>
     cl slices_Clip__string_string [(.g (.sl x23 n24 1))] H34 fun r38 H39 =>
     rG r38 fun v40 =>
     dL 1 v40 fun x41 n42 =>
     cl slices_Clip__int_int [(.g (.sl x27 n28 1))] H39 fun r43 H44 =>
     rG r43 fun v45 =>
     dL 1 v45 fun x46 n47 =>
     Q (.tup [(.a [(.bool b13), (.bool b16), (.sl x36 n37 1), (.sl x41 n42 1), (.sl x46 n47 1)]), (.s (.int .i64 0))]) H44)))))) := by kernel_rfl
theorem node_Join_ok : Sound Go.Proofs.Try.prog 55 (node_Join) := prog_ok.sound (cx := node_Join.cx) rfl (EnvOK.cons ((page_May_ok).c ⟨_, Go.Proofs.Try.func80, by kernel_rfl, by kernel_rfl⟩) (EnvOK.cons ((node_Both_ok).c ⟨_, Go.Proofs.Try.func81, by kernel_rfl, by kernel_rfl⟩) (EnvOK.cons ((slices_Clip__string_string_ok).c ⟨_, Go.Proofs.Try.func82, by kernel_rfl, by kernel_rfl⟩) (EnvOK.cons ((slices_Clip__int_int_ok).c ⟨_, Go.Proofs.Try.func83, by kernel_rfl, by kernel_rfl⟩) (EnvOK.nil _))))) (noDyn_ok _) Go.Proofs.Try.func55 rfl

/-! 20: cryostat/cryostatlaw9.awake -/
def law9_awake.cx : Cx := ⟨tys, [28, 29], [], [], [(21, node_Slot), (54, node_Split), (55, node_Join), (23, law0_Num), (56, law0_SamePage)], noDyn, [.tmp 0]⟩
def law9_awake : Sm := fun xs H Q => ∃ k, callK (law9_awake.cx) Go.Proofs.Try.f20 k xs H Q
theorem law9_awake_eq (k : Nat)  (H : Hp) (Q : Post) : callK (law9_awake.cx) Go.Proofs.Try.f20 (k + 1) [] H Q = (
 cl node_Slot [(.g (.sl (some ((ln H), 0)) 2 1)), (.g (.str (mkS [98])))] (pu H (.row false 1000003 [(.str (mkS [97])), (.str (mkS [99]))])) fun r0 H1 =>
 rT r0 fun c2 =>
 uR c2 fun q3 c4 =>
 rS q3 fun v5 =>
 dI .i64 v5 fun i6 =>
 uR c4 fun q7 c8 =>
 rS q7 fun v9 =>
 dB v9 fun b10 =>
 uE c8 (cl node_Slot [(.g (.sl (some ((ln H1), 0)) 2 1)), (.g (.str (mkS [99])))] (pu H1 (.row false 1000003 [(.str (mkS [97])), (.str (mkS [99]))])) fun r11 H12 =>
 rT r11 fun c13 =>
 uR c13 fun q14 c15 =>
 rS q14 fun v16 =>
 dI .i64 v16 fun i17 =>
 uR c15 fun q18 c19 =>
 rS q18 fun v20 =>
 dB v20 fun b21 =>
 uE c19 (cl node_Split [(.agg [(.bool true), (.bool true), (.sl (some ((ln H12), 0)) 5 1), (.sl (some ((ln (pu H12 (.row true 9 [(.str (mkS [97])), (.str (mkS [98])), (.str (mkS [99])), (.str (mkS [100])), (.str (mkS [101]))]))), 0)) 5 1), (.sl none 0 1)])] (pu (pu H12 (.row true 9 [(.str (mkS [97])), (.str (mkS [98])), (.str (mkS [99])), (.str (mkS [100])), (.str (mkS [101]))])) (.row true 9 [(.str (mkS [49])), (.str (mkS [50])), (.str (mkS [51])), (.str (mkS [52])), (.str (mkS [53]))])) fun r22 H23 =>
 rT r22 fun c24 =>
 uR c24 fun q25 c26 =>
 rC q25 fun c27 =>
 uC c27 fun v28 c29 =>
 dB v28 fun b30 =>
 uC c29 fun v31 c32 =>
 dB v31 fun b33 =>
 uC c32 fun v34 c35 =>
 dL 1 v34 fun x36 n37 =>
 uC c35 fun v38 c39 =>
 dL 1 v38 fun x40 n41 =>
 uC c39 fun v42 c43 =>
 dL 1 v42 fun x44 n45 =>
 uN c43 (uR c26 fun q46 c47 =>
 rS q46 fun v48 =>
 dS v48 fun s49 =>
 uR c47 fun q50 c51 =>
 rC q50 fun c52 =>
 uC c52 fun v53 c54 =>
 dB v53 fun b55 =>
 uC c54 fun v56 c57 =>
 dB v56 fun b58 =>
 uC c57 fun v59 c60 =>
 dL 1 v59 fun x61 n62 =>
 uC c60 fun v63 c64 =>
 dL 1 v63 fun x65 n66 =>
 uC c64 fun v67 c68 =>
 dL 1 v67 fun x69 n70 =>
 uN c68 (uR c51 fun q71 c72 =>
 rS q71 fun v73 =>
 dI .i64 v73 fun i74 =>
 uE c72 (cl node_Join [(.agg [(.bool true), (.bool true), (.sl none 0 1), (.sl none 0 1), (.sl none 0 1)]), (.g (.str (mkS []))), (.agg [(.bool b55), (.bool b58), (.sl x61 n62 1), (.sl x65 n66 1), (.sl x69 n70 1)])] H23 fun r75 H76 =>
 rT r75 fun c77 =>
 uR c77 fun q78 c79 =>
 rC q78 fun c80 =>
 uC c80 fun v81 c82 =>
 dB v81 fun b83 =>
 uC c82 fun v84 c85 =>
 dB v84 fun b86 =>
 uC c85 fun v87 c88 =>
 dL 1 v87 fun x89 n90 =>
 uC c88 fun v91 c92 =>
 dL 1 v91 fun x93 n94 =>
 uC c92 fun v95 c96 =>
 dL 1 v95 fun x97 n98 =>
 uN c96 (uR c79 fun q99 c100 =>
 rS q99 fun v101 =>
 dI .i64 v101 fun i102 =>
 uE c100 (cl node_Split [(.agg [(.bool b30), (.bool b33), (.sl x36 n37 1), (.sl x40 n41 1), (.sl x44 n45 1)])] H76 fun r103 H104 =>
 rT r103 fun c105 =>
 uR c105 fun q106 c107 =>
 rC q106 fun c108 =>
 uC c108 fun v109 c110 =>
 dB v109 fun b111 =>
 uC c110 fun v112 c113 =>
 dB v112 fun b114 =>
 uC c113 fun v115 c116 =>
 dL 1 v115 fun x117 n118 =>
 uC c116 fun v119 c120 =>
 dL 1 v119 fun x121 n122 =>
 uC c120 fun v123 c124 =>
 dL 1 v123 fun x125 n126 =>
 uN c124 (uR c107 fun q127 c128 =>
 rS q127 fun v129 =>
 dS v129 fun s130 =>
 uR c128 fun q131 c132 =>
 rC q131 fun c133 =>
 uC c133 fun v134 c135 =>
 dB v134 fun b136 =>
 uC c135 fun v137 c138 =>
 dB v137 fun b139 =>
 uC c138 fun v140 c141 =>
 dL 1 v140 fun x142 n143 =>
 uC c141 fun v144 c145 =>
 dL 1 v144 fun x146 n147 =>
 uC c145 fun v148 c149 =>
 dL 1 v148 fun x150 n151 =>
 uN c149 (uR c132 fun q152 c153 =>
 rS q152 fun v154 =>
 dI .i64 v154 fun i155 =>
 uE c153 (cl node_Join [(.agg [(.bool b30), (.bool b33), (.sl x36 n37 1), (.sl x40 n41 1), (.sl x44 n45 1)]), (.g (.str (mkS []))), (.agg [(.bool b55), (.bool b58), (.sl x61 n62 1), (.sl x65 n66 1), (.sl x69 n70 1)])] H104 fun r156 H157 =>
 rT r156 fun c158 =>
 uR c158 fun q159 c160 =>
 rC q159 fun c161 =>
 uC c161 fun v162 c163 =>
 dB v162 fun b164 =>
 uC c163 fun v165 c166 =>
 dB v165 fun b167 =>
 uC c166 fun v168 c169 =>
 dL 1 v168 fun x170 n171 =>
 uC c169 fun v172 c173 =>
 dL 1 v172 fun x174 n175 =>
 uC c173 fun v176 c177 =>
 dL 1 v176 fun x178 n179 =>
 uN c177 (uR c160 fun q180 c181 =>
 rS q180 fun v182 =>
 dI .i64 v182 fun i183 =>
 uE c181 (bite (eqI i6 1)
 (bite (!b10)
  (bite (eqI i17 1)
   (bite b21
    (bite (eqI (nI n37) 3)
     (bite (strEq s49 (mkS [100]))
      (bite (eqI (nI n62) 2)
       (cl law0_Num [(.g (.int .i64 i74))] H157 fun r184 H185 =>
        rG r184 fun v186 =>
        dI .i64 v186 fun i187 =>
        bite (eqI i187 0)
        (cl law0_SamePage [(.agg [(.bool b83), (.bool b86), (.sl x89 n90 1), (.sl x93 n94 1), (.sl x97 n98 1)]), (.agg [(.bool b55), (.bool b58), (.sl x61 n62 1), (.sl x65 n66 1), (.sl x69 n70 1)])] H185 fun r188 H189 =>
         rG r188 fun v190 =>
         dB v190 fun b191 =>
         bite b191
         (cl law0_Num [(.g (.int .i64 i102))] H189 fun r192 H193 =>
          rG r192 fun v194 =>
          dI .i64 v194 fun i195 =>
          bite (eqI i195 0)
          (cl law0_Num [(.g (.int .i64 i155))] H193 fun r196 H197 =>
           rG r196 fun v198 =>
           dI .i64 v198 fun i199 =>
           bite (eqI i199 900)
           (cl law0_Num [(.g (.int .i64 i183))] H197 fun r200 H201 =>
            rG r200 fun v202 =>
            dI .i64 v202 fun i203 =>
            Q (.g (.bool (eqI i203 900))) H201)
           (Q (.g (.bool false)) H197))
          (Q (.g (.bool false)) H193))
         (Q (.g (.bool false)) H189))
        (Q (.g (.bool false)) H185))
       (Q (.g (.bool false)) H157))
      (Q (.g (.bool false)) H157))
     (Q (.g (.bool false)) H157))
    (Q (.g (.bool false)) H157))
   (Q (.g (.bool false)) H157))
  (Q (.g (.bool false)) H157))
 (Q (.g (.bool false)) H157)))))))))))))) := by kernel_rfl
theorem law9_awake_ok : Sound Go.Proofs.Try.prog 20 (law9_awake) := prog_ok.sound (cx := law9_awake.cx) rfl (EnvOK.cons ((node_Slot_ok).c ⟨_, Go.Proofs.Try.func21, by kernel_rfl, by kernel_rfl⟩) (EnvOK.cons ((node_Split_ok).c ⟨_, Go.Proofs.Try.func54, by kernel_rfl, by kernel_rfl⟩) (EnvOK.cons ((node_Join_ok).c ⟨_, Go.Proofs.Try.func55, by kernel_rfl, by kernel_rfl⟩) (EnvOK.cons ((law0_Num_ok).c ⟨_, Go.Proofs.Try.func23, by kernel_rfl, by kernel_rfl⟩) (EnvOK.cons ((law0_SamePage_ok).c ⟨_, Go.Proofs.Try.func56, by kernel_rfl, by kernel_rfl⟩) (EnvOK.nil _)))))) (noDyn_ok _) Go.Proofs.Try.func20 rfl

/-! 22: cryostat/cryostatref9.Slot -/
def ref9_Slot.cx : Cx := ⟨tys, [], [(3, [0, 1, 6, 7])], [], [], noDyn, [.tmp 4, .tmp 5]⟩
def ref9_Slot : Sm := fun xs H Q => ∃ k, callK (ref9_Slot.cx) Go.Proofs.Try.f22 k xs H Q
def ref9_Slot.l3 (k : Nat) (xx0 : Pl) (nx1 : Nat) (sx2 : ByteArray) (ix3 : Int) (ix4 : Int) (H : Hp) (Q : Post) : Prop := loopK (ref9_Slot.cx) Go.Proofs.Try.f22 3 k ((.g (.sl xx0 nx1 1)) :: (.g (.str sx2)) :: B 4 ((.g (.int .i64 ix3)) :: (.g (.int .i64 ix4)) :: B 27 ([]))) H Q
theorem ref9_Slot_eq (k : Nat) (z0 : Pl) (z0n : Nat) (z1 : ByteArray) (H : Hp) (Q : Post) : callK (ref9_Slot.cx) Go.Proofs.Try.f22 (k + 1) [.g (.sl z0 z0n 1), .g (.str z1)] H Q = (
 ref9_Slot.l3 k z0 z0n z1 0 0 H Q) := by kernel_rfl
theorem ref9_Slot.l3_eq (k : Nat) (xx0 : Pl) (nx1 : Nat) (sx2 : ByteArray) (ix3 : Int) (ix4 : Int) (H : Hp) (Q : Post) : ref9_Slot.l3 (k + 1) xx0 nx1 sx2 ix3 ix4 H Q = (
 bite (ltI ix4 (nI nx1))
 (chk true (chk ((leI 0 ix4) && (ltI ix4 (nI nx1))) (pS xx0 fun n0 n1 =>
  rd H n0 (n1 + ((tN ix4) * 1)) fun v2 =>
  dS v2 fun s3 =>
  bite (strLt s3 sx2)
  (ref9_Slot.l3 k xx0 nx1 sx2 (wrapI .i64 (ix3 + 1)) (wrapI .i64 (ix4 + 1)) H Q)
  (ref9_Slot.l3 k xx0 nx1 sx2 ix3 (wrapI .i64 (ix4 + 1)) H Q))))
 (bite (ltI ix3 (nI nx1))
  (chk true (chk ((leI 0 ix3) && (ltI ix3 (nI nx1))) (pS xx0 fun n4 n5 =>
   rd H n4 (n5 + ((tN ix3) * 1)) fun v6 =>
   dS v6 fun s7 =>
   Q (.tup [(.s (.int .i64 ix3)), (.s (.bool (strEq s7 sx2)))]) H)))
  (Q (.tup [(.s (.int .i64 ix3)), (.s (.bool false))]) H))) := by kernel_rfl
theorem ref9_Slot_ok : Sound Go.Proofs.Try.prog 22 (ref9_Slot) := prog_ok.sound (cx := ref9_Slot.cx) rfl (EnvOK.nil _) (noDyn_ok _) Go.Proofs.Try.func22 rfl

/-! 3: cryostat/cryostatlaw9.NodeSlots -/
def law9_NodeSlots.cx : Cx := ⟨tys, [5, 47, 60], [(5, [0, 1, 5, 6]), (12, [5, 7, 8, 9, 10])], [], [(20, law9_awake), (21, node_Slot), (22, ref9_Slot), (23, law0_Num)], noDyn, [.tmp 4]⟩
def law9_NodeSlots : Sm := fun xs H Q => ∃ k, callK (law9_NodeSlots.cx) Go.Proofs.Try.f3 k xs H Q
def law9_NodeSlots.l5 (k : Nat) (xx0 : Pl) (nx1 : Nat) (ix2 : Int) (nx3 : Nat) (nx4 : Nat) (ix5 : Int) (H : Hp) (Q : Post) : Prop := loopK (law9_NodeSlots.cx) Go.Proofs.Try.f3 5 k ((.g (.sl xx0 nx1 1)) :: (.g (.int .i64 ix2)) :: B 3 ((.g (.ptr (some (nx3, nx4)))) :: (.g (.int .i64 ix5)) :: B 96 ([]))) H Q
def law9_NodeSlots.l12 (k : Nat) (nx0 : Nat) (nx1 : Nat) (ax2 : Pl) (nx3 : Nat) (ix4 : Int) (ix5 : Int) (ix6 : Int) (H : Hp) (Q : Post) : Prop := loopK (law9_NodeSlots.cx) Go.Proofs.Try.f3 12 k (B 5 ((.g (.ptr (some (nx0, nx1)))) :: .bad :: (.g (.sl ax2 nx3 1)) :: (.g (.int .i64 ix4)) :: (.g (.int .i64 ix5)) :: (.g (.int .i64 ix6)) :: B 92 ([]))) H Q
theorem law9_NodeSlots_eq (k : Nat) (z0 : Pl) (z0n : Nat) (z1 : Int) (H : Hp) (Q : Post) : callK (law9_NodeSlots.cx) Go.Proofs.Try.f3 (k + 1) [.g (.sl z0 z0n 1), .g (.int .i64 z1)] H Q = (
 cl law9_awake [] H fun r0 H1 =>
 rG r0 fun v2 =>
 dB v2 fun b3 =>
 bite (!b3)
 (Q (.g (.bool false)) H1)
 (law9_NodeSlots.l5 k z0 z0n z1 (ln H1) 0 0 (pu H1 (.row true 24 [(.bool false), (.bool false), (.bool false), (.bool false), (.bool false), (.bool false), (.bool false), (.bool false), (.bool false), (.bool false), (.bool false), (.bool false), (.bool false), (.bool false), (.bool false), (.bool false), (.bool false), (.bool false), (.bool false), (.bool false), (.bool false), (.bool false), (.bool false), (.bool false), (.bool false), (.bool false), (.bool false), (.bool false), (.bool false), (.bool false), (.bool false), (.bool false), (.bool false), (.bool false), (.bool false), (.bool false), (.bool false), (.bool false), (.bool false), (.bool false), (.bool false), (.bool false), (.bool false), (.bool false), (.bool false), (.bool false), (.bool false), (.bool false), (.bool false), (.bool false), (.bool false), (.bool false), (.bool false), (.bool false), (.bool false), (.bool false), (.bool false), (.bool false), (.bool false), (.bool false), (.bool false), (.bool false), (.bool false), (.bool false), (.bool false), (.bool false), (.bool false), (.bool false), (.bool false), (.bool false), (.bool false), (.bool false), (.bool false), (.bool false), (.bool false), (.bool false), (.bool false), (.bool false), (.bool false), (.bool false), (.bool false), (.bool false), (.bool false), (.bool false), (.bool false), (.bool false), (.bool false), (.bool false), (.bool false), (.bool false), (.bool false), (.bool false), (.bool false), (.bool false), (.bool false), (.bool false), (.bool false), (.bool false), (.bool false), (.bool false), (.bool false), (.bool false), (.bool false), (.bool false), (.bool false), (.bool false), (.bool false), (.bool false), (.bool false), (.bool false), (.bool false), (.bool false), (.bool false), (.bool false), (.bool false), (.bool false), (.bool false), (.bool false), (.bool false), (.bool false), (.bool false), (.bool false), (.bool false), (.bool false), (.bool false), (.bool false), (.bool false), (.bool false), (.bool false), (.bool false), (.bool false), (.bool false), (.bool false), (.bool false), (.bool false), (.bool false), (.bool false), (.bool false), (.bool false), (.bool false), (.bool false), (.bool false), (.bool false), (.bool false), (.bool false), (.bool false), (.bool false), (.bool false), (.bool false), (.bool false), (.bool false), (.bool false), (.bool false), (.bool false), (.bool false), (.bool false), (.bool false), (.bool false), (.bool false), (.bool false), (.bool false), (.bool false), (.bool false), (.bool false), (.bool false), (.bool false), (.bool false), (.bool false), (.bool false), (.bool false), (.bool false), (.bool false), (.bool false), (.bool false), (.bool false), (.bool false), (.bool false), (.bool false), (.bool false), (.bool false), (.bool false), (.bool false), (.bool false), (.bool false), (.bool false), (.bool false), (.bool false), (.bool false), (.bool false), (.bool false), (.bool false), (.bool false), (.bool false), (.bool false), (.bool false), (.bool false), (.bool false), (.bool false), (.bool false), (.bool false), (.bool false), (.bool false), (.bool false), (.bool false), (.bool false), (.bool false), (.bool false), (.bool false), (.bool false), (.bool false), (.bool false), (.bool false), (.bool false), (.bool false), (.bool false), (.bool false), (.bool false), (.bool false), (.bool false), (.bool false), (.bool false), (.bool false), (.bool false), (.bool false), (.bool false), (.bool false), (.bool false), (.bool false), (.bool false), (.bool false), (.bool false), (.bool false), (.bool false), (.bool false), (.bool false), (.bool false), (.bool false), (.bool false), (.bool false), (.bool false), (.bool false), (.bool false), (.bool false), (.bool false), (.bool false), (.bool false), (.bool false), (.bool false), (.bool false), (.bool false), (.bool false), (.bool false), (.bool false), (.bool false), (.bool false), (.bool false)])) Q)) := by kernel_rfl
theorem law9_NodeSlots.l5_eq (k : Nat) (xx0 : Pl) (nx1 : Nat) (ix2 : Int) (nx3 : Nat) (nx4 : Nat) (ix5 : Int) (H : Hp) (Q : Post) : law9_NodeSlots.l5 (k + 1) xx0 nx1 ix2 nx3 nx4 ix5 H Q = (
 bite (ltI ix5 (nI nx1))
 (bite (ltI ix5 30)
  (chk true (chk ((leI 0 ix5) && (ltI ix5 (nI nx1))) (pS xx0 fun n0 n1 =>
   rd H n0 (n1 + ((tN ix5) * 1)) fun v2 =>
   dI .i64 v2 fun i3 =>
   chk ((leI 0 (bitsI .and .i64 i3 255)) && (ltI (bitsI .and .i64 i3 255) (nI 256))) (wr H nx3 (nx4 + ((tN (bitsI .and .i64 i3 255)) * 1)) (.bool true) fun H4 =>
   law9_NodeSlots.l5 k xx0 nx1 ix2 nx3 nx4 (wrapI .i64 (ix5 + 1)) H4 Q))))
  (law9_NodeSlots.l12 k nx3 nx4 none 0 0 (bitsI .and .i64 ix2 255) 0 H Q))
 (law9_NodeSlots.l12 k nx3 nx4 none 0 0 (bitsI .and .i64 ix2 255) 0 H Q)) := by kernel_rfl
theorem law9_NodeSlots.l12_eq (k : Nat) (nx0 : Nat) (nx1 : Nat) (ax2 : Pl) (nx3 : Nat) (ix4 : Int) (ix5 : Int) (ix6 : Int) (H : Hp) (Q : Post) : law9_NodeSlots.l12 (k + 1) nx0 nx1 ax2 nx3 ix4 ix5 ix6 H Q = (
 bite (ltI ix6 256)
 (chk ((leI 0 ix6) && (ltI ix6 (nI 256))) (rd H nx0 (nx1 + ((tN ix6) * 1)) fun v0 =>
  dB v0 fun b1 =>
  bite b1
  (rdN (pu H (.row true 5 [(.int .u8 (wrapI .u8 ix6))])) (some ((ln H), 0)) 1 fun c2 =>
   txt c2 fun s3 =>
   chk true (ap (pu H (.row true 5 [(.int .u8 (wrapI .u8 ix6))])) 9 1 16 ax2 nx3 [(.str s3)] 1 fun x4 n5 H6 =>
   bite (ltI ix6 ix5)
   (law9_NodeSlots.l12 k nx0 nx1 x4 n5 (wrapI .i64 (ix4 + 1)) ix5 (wrapI .i64 (ix6 + 1)) H6 Q)
   (law9_NodeSlots.l12 k nx0 nx1 x4 n5 ix4 ix5 (wrapI .i64 (ix6 + 1)) H6 Q)))
  (law9_NodeSlots.l12 k nx0 nx1 ax2 nx3 ix4 ix5 (wrapI .i64 (ix6 + 1)) H Q)))
 (rdN (pu H (.row true 5 [(.int .u8 (wrapI .u8 ix5))])) (some ((ln H), 0)) 1 fun c7 =>
  txt c7 fun s8 =>
  cl node_Slot [(.g (.sl ax2 nx3 1)), (.g (.str s8))] (pu H (.row true 5 [(.int .u8 (wrapI .u8 ix5))])) fun r9 H10 =>
  rT r9 fun c11 =>
  uR c11 fun q12 c13 =>
  rS q12 fun v14 =>
  dI .i64 v14 fun i15 =>
  uR c13 fun q16 c17 =>
  rS q16 fun v18 =>
  dB v18 fun b19 =>
  uE c17 (cl ref9_Slot [(.g (.sl ax2 nx3 1)), (.g (.str (mkS [])))] H10 fun r20 H21 =>
  rT r20 fun c22 =>
  uR c22 fun q23 c24 =>
  rS q23 fun v25 =>
  dI .i64 v25 fun i26 =>
  uR c24 fun q27 c28 =>
  rS q27 fun v29 =>
  dB v29 fun b30 =>
  uE c28 (cl node_Slot [(.g (.sl ax2 nx3 1)), (.g (.str (mkS [])))] H21 fun r31 H32 =>
  rT r31 fun c33 =>
  uR c33 fun q34 c35 =>
  rS q34 fun v36 =>
  dI .i64 v36 fun i37 =>
  uR c35 fun q38 c39 =>
  rS q38 fun v40 =>
  dB v40 fun b41 =>
  uE c39 (cl law0_Num [(.g (.int .i64 0))] H32 fun r42 H43 =>
  rG r42 fun v44 =>
  dI .i64 v44 fun i45 =>
  bite (eqI i45 0)
  (bite (eqI i15 ix4)
   (chk ((leI 0 ix5) && (ltI ix5 (nI 256))) (rd H43 nx0 (nx1 + ((tN ix5) * 1)) fun v46 =>
    dB v46 fun b47 =>
    bite (eqB b19 b47)
    (bite (eqI i26 i37)
     (bite (eqB b30 b41)
      (Q (.g (.bool (!b41))) H43)
      (Q (.g (.bool false)) H43))
     (Q (.g (.bool false)) H43))
    (Q (.g (.bool false)) H43)))
   (Q (.g (.bool false)) H43))
  (Q (.g (.bool false)) H43)))))) := by kernel_rfl
theorem law9_NodeSlots_ok : Sound Go.Proofs.Try.prog 3 (law9_NodeSlots) := prog_ok.sound (cx := law9_NodeSlots.cx) rfl (EnvOK.cons ((law9_awake_ok).c ⟨_, Go.Proofs.Try.func20, by kernel_rfl, by kernel_rfl⟩) (EnvOK.cons ((node_Slot_ok).c ⟨_, Go.Proofs.Try.func21, by kernel_rfl, by kernel_rfl⟩) (EnvOK.cons ((ref9_Slot_ok).c ⟨_, Go.Proofs.Try.func22, by kernel_rfl, by kernel_rfl⟩) (EnvOK.cons ((law0_Num_ok).c ⟨_, Go.Proofs.Try.func23, by kernel_rfl, by kernel_rfl⟩) (EnvOK.nil _))))) (noDyn_ok _) Go.Proofs.Try.func3 rfl


end Go.Am
namespace Go.Am

section
variable {H : Hp} {Q : Post} {a : Pl} {n : Nat} {ks : List ByteArray} {lo hi : ByteArray}
end

def pd (d : Nat) : Int := match d with | 0 => -1 | d + 1 => (d + 1 : Nat)
/-- the walk's state -/
structure WOK (H : Hp) (t t' : TypeId) (lw lm : Nat) (a : Pl) (st : WS) : Prop where
  row : H[lw]? = some (.row true t [.sl a 48 5, .sl (some (lm, 0)) 48 1, .int .i64 (pd st.deep), .int .i64 st.count])
  met : H[lm]? = some (.row true t' (st.met.map GV.bool))
  len : st.met.length = 48
  ne : lw ≠ lm
section
variable {H H' : Hp} {t t' : TypeId} {lw lm : Nat} {a : Pl} {st : WS} {lo hi : Nat}
theorem WOK.mono (h : WOK H t t' lw lm a st) (hp : H <+: H') : WOK H' t t' lw lm a st :=
  ⟨by rw [pre_at hp (List.getElem?_eq_some_iff.1 h.row).1]; exact h.row, by rw [pre_at hp (List.getElem?_eq_some_iff.1 h.met).1]; exact h.met, h.len, h.ne⟩
theorem Ch.set {l : Nat} (x : Obj) (h1 : lo ≤ l) (h2 : l < hi) : Ch lo hi H (H.set l x) :=
  ⟨by simp, fun l' _ hn => by rw [List.getElem?_set_ne]; intro e; subst e; exact hn ⟨h1, h2⟩⟩
/-- a cell written -/
theorem wr_row {l j : Nat} {own : TypeId} {cs : List GV} {v : GV} {K : Hp → Prop} (h : H[l]? = some (.row true own cs)) (hj : j < cs.length) (hK : K (H.set l (.row true own (cs.set j v)))) : wr H l j v K := by
  rw [wr_of h hj]; exact hK
end
end Go.Am
namespace Go.Am

theorem gt_pre {H H' : Hp} (hp : H <+: H') {l o : Nat} {v : GV} (h : gt H l o = some v) : gt H' l o = some v := by
  have hl : l < H.length := by
    unfold gt at h
    cases e : H[l]? with
    | none => rw [e] at h; cases h
    | some x => exact (List.getElem?_eq_some_iff.1 e).1
  unfold gt at h ⊢
  rw [pre_at hp hl]; exact h
theorem kidsD_cons (rec : Int → Nat → WS → Option WS) (k : Int) (ks : List Int) (i : Nat) (st : WS) : kidsD rec (k :: ks) i st = (match rec k i st with | none => none | some st' => kidsD rec ks (i + 1) st') := rfl
section
variable {T : List Pg} {a : Pl} {cs : List PC} {H0 : Hp} {lo hi lw lm : Nat} {t t' : TypeId}
end
end Go.Am
namespace Go.Am

section
variable {H : Hp} {Q : Post} {c : PC} {p : Pg}
end

section
variable {T : List Pg} {a : Pl} {cs : List PC} {H0 H : Hp} {Q : Post} {lw lm : Nat} {t t' : TypeId} {st : WS}
end
end Go.Am
namespace Go.Am

theorem less_trans : ∀ x y z : List UInt8, Op.bytesLess x y = true → Op.bytesLess y z = true → Op.bytesLess x z = true
  | _, _, [], _, h => by rename_i y _; cases y <;> simp [Op.bytesLess] at h
  | _, [], _ :: _, h, _ => by rename_i x _ _ _; cases x <;> simp [Op.bytesLess] at h
  | [], _ :: _, _ :: _, _, _ => rfl
  | a :: x, b :: y, c :: z, h1, h2 => by
    simp only [Op.bytesLess, Bool.or_eq_true, Bool.and_eq_true, decide_eq_true_eq, beq_iff_eq] at h1 h2 ⊢
    rcases h1 with h1 | ⟨rfl, h1⟩
    · rcases h2 with h2 | ⟨rfl, h2⟩
      · exact .inl (UInt8.lt_trans h1 h2)
      · exact .inl h1
    · rcases h2 with h2 | ⟨rfl, h2⟩
      · exact .inl h2
      · exact .inr ⟨rfl, less_trans x y z h1 h2⟩
theorem blt_trans {a b c : ByteArray} (h1 : blt a b = true) (h2 : blt b c = true) : blt a c = true := less_trans _ _ _ h1 h2
theorem rising_lt {ks : List ByteArray} (h : Rising ks) : ∀ (i d : Nat) (hd : i + d + 1 < ks.length), blt (ks[i]'(by omega)) ks[i + d + 1] = true := by
  intro i d
  induction d with
  | zero => intro hd; have := h i hd; rw [blt_eq] at this; exact this
  | succ d ih =>
    intro hd
    have h1 := ih (by omega)
    have h2 := h (i + d + 1) (by omega)
    rw [blt_eq] at h2
    exact blt_trans h1 h2
/-- the document's walk: its state; a wrong one -/
structure BOK (H : Hp) (t t' : TypeId) (lb lm : Nat) (st : WS) : Prop where
  row : H[lb]? = some (.row true t [.sl (some (lm, 0)) 48 1, .int .i64 st.deep, .int .i64 st.count, .bool false])
  met : H[lm]? = some (.row true t' (st.met.map GV.bool))
  len : st.met.length = 48
  ne : lb ≠ lm
def BW (H : Hp) (t : TypeId) (lb lm : Nat) (t' : TypeId) : Prop := (∃ d m, H[lb]? = some (.row true t [.sl (some (lm, 0)) 48 1, .int .i64 d, .int .i64 m, .bool true])) ∧ (∃ met : List Bool, met.length = 48 ∧ H[lm]? = some (.row true t' (met.map GV.bool)))
section
variable {H H' : Hp} {t t' : TypeId} {lb lm : Nat} {st : WS} {lo hi : Nat}
theorem BOK.mono (h : BOK H t t' lb lm st) (hp : H <+: H') : BOK H' t t' lb lm st :=
  ⟨by rw [pre_at hp (List.getElem?_eq_some_iff.1 h.row).1]; exact h.row, by rw [pre_at hp (List.getElem?_eq_some_iff.1 h.met).1]; exact h.met, h.len, h.ne⟩
theorem BW.mono (h : BW H t lb lm t') (hp : H <+: H') : BW H' t lb lm t' := by
  obtain ⟨⟨d, m, h1⟩, met, h2, h3⟩ := h
  exact ⟨⟨d, m, by rw [pre_at hp (List.getElem?_eq_some_iff.1 h1).1]; exact h1⟩, met, h2, by rw [pre_at hp (List.getElem?_eq_some_iff.1 h3).1]; exact h3⟩
theorem BOK.wrong {K : Hp → Prop} (h : BOK H t t' lb lm st) (h1 : lo ≤ lb) (h2 : lb < hi) (hK : ∀ H', Ch lo hi H H' → BW H' t lb lm t' → K H') : pS (some (lb, 0)) fun n m => wr H n (m + 3) (.bool true) K := by
  rw [pS_some]
  refine wr_row h.row (by simp) (hK _ (Ch.set _ h1 h2) ⟨⟨st.deep, st.count, ?_⟩, st.met, h.len, ?_⟩)
  · rw [List.getElem?_set_self (List.getElem?_eq_some_iff.1 h.row).1]; rfl
  · rw [List.getElem?_set_ne h.ne]; exact h.met
end
end Go.Am
namespace Go.Am

section
variable {T : List Pg} {a : Pl} {cs : List PC} {H0 : Hp} {lo hi lb lm : Nat} {t t' : TypeId}
end
end Go.Am
namespace Go.Am

section
variable {T : List Pg} {a : Pl} {cs : List PC} {H0 H : Hp} {Q : Post} {lb lm : Nat} {t t' : TypeId} {lo hi : Nat}
end
end Go.Am
namespace Go.Am

/-! rows of pages -/
/-- does a page stand on a row? -/
def PC.on (c : PC) (l : Nat) : Prop := ∃ o, c.a1 = some (l, o) ∨ c.a2 = some (l, o) ∨ c.a3 = some (l, o)
theorem PC.at.lt {H : Hp} {c : PC} {p : Pg} (h : c.at H p) {l : Nat} (hl : c.on l) : l < H.length := by
  obtain ⟨o, h1 | h1 | h1⟩ := hl
  · have := h.keys.cells; rw [h1] at this; exact cells_lt this
  · have := h.vals.cells; rw [h1] at this; exact cells_lt this
  · have := h.kids.cells; rw [h1] at this; exact cells_lt this
theorem PC.at.keep {H H' : Hp} {c : PC} {p : Pg} (h : c.at H p) (hk : ∀ l, c.on l → H'[l]? = H[l]?) : c.at H' p := by
  obtain ⟨h1, h2, h3, h4, h5⟩ := h
  refine ⟨h1, h2, ⟨?_, h3.len, h3.lim⟩, ⟨?_, h4.len, h4.lim⟩, ⟨?_, h5.len, h5.lim⟩⟩
  · rw [← h3.cells]; exact cells_at fun l o e => hk l ⟨o, .inl e⟩
  · rw [← h4.cells]; exact cells_at fun l o e => hk l ⟨o, .inr (.inl e)⟩
  · rw [← h5.cells]; exact cells_at fun l o e => hk l ⟨o, .inr (.inr e)⟩
/-- append, elements of more cells -/
theorem ap_z {H0 H : Hp} {t z by_ : Nat} {a : Pl} {n m : Nat} {cs ds : List GV} {K : Pl → Nat → Hp → Prop} (hz : 1 ≤ z) (h0 : H0 <+: H) (h : Own H H0.length t a (n * z) cs) (hm : ds.length = m * z) (hl : (n + m) * by_ ≤ Lim)
    (hK : ∀ a' H', Own H' H0.length t a' ((n + m) * z) (cs ++ ds) → Ex H0 a H H' → (∀ l o, a' = some (l, o) → H.length ≤ l ∧ o = 0) → K a' (n + m) H') : ap H t z by_ a n ds m K := by
  unfold ap app?
  rw [if_pos ⟨hl, hm⟩]
  rcases h with ⟨rfl, hn, rfl⟩ | ⟨l, rfl, hb, hrow, hlen⟩
  · have hn0 : n = 0 := by rcases Nat.eq_zero_or_pos n with e | e; exact e; have := Nat.mul_le_mul e hz; omega
    subst hn0
    simp only [Nat.zero_add] at hK ⊢
    by_cases hm0 : m = 0
    · subst hm0
      rw [Nat.zero_mul] at hm
      obtain rfl : ds = [] := List.eq_nil_of_length_eq_zero hm
      simp only [if_pos]
      exact hK none H (.inl ⟨rfl, by omega, rfl⟩) ⟨h0, Nat.le_refl _, fun _ _ _ => rfl⟩ (fun _ _ e => by cases e)
    · simp only [if_pos, if_neg hm0]
      refine hK _ _ (.inr ⟨H.length, rfl, pre_len h0, by simp, by simpa using hm⟩) ⟨h0.trans (List.prefix_append _ _), by simp, fun l hl _ => by rw [List.getElem?_append_left hl]⟩ (fun _ _ e => by cases e; exact ⟨Nat.le_refl _, rfl⟩)
  · simp only [hrow]
    rw [if_pos ⟨trivial, trivial, hlen⟩]
    have hlt := (List.getElem?_eq_some_iff.1 hrow).1
    refine hK _ _ (.inr ⟨H.length, rfl, pre_len h0, by simp, by rw [List.length_append, hlen, hm, Nat.add_mul]⟩) ⟨(pre_set h0 hb .dead).trans (List.prefix_append _ _), by simp, fun l' hl' hne => ?_⟩ (fun _ _ e => by cases e; exact ⟨Nat.le_refl _, rfl⟩)
    have hll : l ≠ l' := fun e => hne (by rw [e])
    rw [List.getElem?_append_left (by simpa using hl'), List.getElem?_set_ne hll]

/-- pages in a row of one's own -/
structure OT (H : Hp) (b : Nat) (t : TypeId) (a : Pl) (n : Nat) (cs : List PC) (T : List Pg) : Prop where
  own : Own H b t a (n * 5) (pcells cs)
  len : cs.length = n
  lenT : T.length = n
  all : ∀ i (h : i < cs.length) (h' : i < T.length), (cs[i]).at H T[i]
  off : ∀ c ∈ cs, ∀ l, c.on l → a ≠ some (l, 0)
section
variable {H0 H H' : Hp} {b : Nat} {t : TypeId} {a : Pl} {n : Nat} {cs : List PC} {T : List Pg} {c : PC} {p : Pg}
theorem OT.nil (H : Hp) (b : Nat) (t : TypeId) : OT H b t none 0 [] [] := ⟨.inl ⟨rfl, rfl, rfl⟩, rfl, rfl, fun i h => (by simp at h), fun c h => (by simp at h)⟩
theorem OT.keep (h : OT H b t a n cs T) (ha : ∀ l, a = some (l, 0) → H'[l]? = H[l]?) (hp : ∀ c ∈ cs, ∀ l, c.on l → H'[l]? = H[l]?) : OT H' b t a n cs T :=
  ⟨h.own.keep ha, h.len, h.lenT, fun i h1 h2 => (h.all i h1 h2).keep (hp _ (List.getElem_mem h1)), h.off⟩
theorem OT.onlt (h : OT H b t a n cs T) {c : PC} (hc : c ∈ cs) {l : Nat} (hl : c.on l) : l < H.length := by
  obtain ⟨i, hi, rfl⟩ := List.getElem_of_mem hc
  exact (h.all i hi (by have := h.len; have := h.lenT; omega)).lt hl
theorem OT.mono (h : OT H b t a n cs T) (hp : H <+: H') : OT H' b t a n cs T := h.keep (fun l e => pre_at hp (h.own.lt' e)) (fun c hc l hl => pre_at hp (h.onlt hc hl))
/-- another row turned -/
theorem OT.ex (h : OT H b t a n cs T) {x : Pl} (hx : Ex H0 x H H') (hd : Dj x a) (ho : ∀ c ∈ cs, ∀ l, c.on l → x ≠ some (l, 0)) : OT H' b t a n cs T :=
  h.keep (fun l e => hx.row l (h.own.lt' e) fun e0 => hd l e0 e) (fun c hc l hl => hx.row l (h.onlt hc hl) (ho c hc l hl))
theorem OT.add (h : OT H H0.length t a n cs T) (h0 : H0 <+: H) (hc : c.at H p) (hoff : ∀ l, c.on l → a ≠ some (l, 0)) (hl : (n + 1) * 80 ≤ Lim) {K : Pl → Nat → Hp → Prop}
    (hK : ∀ a' H', OT H' H0.length t a' (n + 1) (cs ++ [c]) (T ++ [p]) → Ex H0 a H H' → (∀ l o, a' = some (l, o) → H.length ≤ l ∧ o = 0) → K a' (n + 1) H') : ap H t 5 80 a n [.bool c.u, .bool c.l, .sl c.a1 c.n1 1, .sl c.a2 c.n2 1, .sl c.a3 c.n3 1] 1 K := by
  refine ap_z (by omega) h0 h.own rfl hl fun a' H' o x f => hK a' H' ?_ x f
  refine ⟨by rw [pcells_append]; simpa [pcells, PC.cells] using o, by simp [h.len], by simp [h.lenT], fun i h1 h2 => ?_, fun d hd l hl e => ?_⟩
  · rw [List.getElem_append, List.getElem_append]
    have q1 := h.len
    have q2 := h.lenT
    by_cases e : i < n
    · rw [dif_pos (by omega), dif_pos (by omega)]
      exact (h.all i (by omega) (by omega)).keep fun l hl => x.row l (h.onlt (List.getElem_mem _) hl) (h.off _ (List.getElem_mem _) l hl)
    · rw [dif_neg (by omega), dif_neg (by omega)]
      simp only [List.getElem_singleton]
      exact hc.keep fun l hl => x.row l (hc.lt hl) (hoff l hl)
  · have := (f l 0 e).1
    rcases List.mem_append.1 hd with q | q
    · have := h.onlt q hl; omega
    · rw [List.mem_singleton.1 q] at hl
      have := hc.lt hl; omega
end

/-- a page in rows of one's own -/
structure PC.own (c : PC) (H : Hp) (b : Nat) (p : Pg) : Prop where
  used : p.used = c.u
  leaf : p.leaf = c.l
  keys : Own H b tS c.a1 c.n1 (p.keys.map GV.str)
  vals : Own H b tS c.a2 c.n2 (p.vals.map GV.str)
  kids : Own H b tI c.a3 c.n3 (p.kids.map (GV.int .i64))
  d12 : Dr c.a1 c.a2
  d13 : Dr c.a1 c.a3
  d23 : Dr c.a2 c.a3
theorem PC.own.keep {H H' : Hp} {b : Nat} {c : PC} {p : Pg} (h : c.own H b p) (hk : ∀ l, c.on l → H'[l]? = H[l]?) : c.own H' b p :=
  ⟨h.used, h.leaf, h.keys.keep fun l e => hk l ⟨0, .inl e⟩, h.vals.keep fun l e => hk l ⟨0, .inr (.inl e)⟩, h.kids.keep fun l e => hk l ⟨0, .inr (.inr e)⟩, h.d12, h.d13, h.d23⟩
section
variable {H : Hp} {Q : Post} {c : PC} {p : Pg}
end

section
variable {H : Hp} {Q : Post} {a : Pl} {n : Nat} {cs : List PC} {T : List Pg}
end
end Go.Am
namespace Go.Am

/-! a tree built -/
def cutN (n k i : Nat) : Nat := n * i / k
def kOf (n most : Nat) : Nat := max 1 ((n + most - 1) / most)
abbrev Lvl := List (Pg × ByteArray)
def leafAt (ps : List (ByteArray × ByteArray)) (k i : Nat) : Pg × ByteArray :=
  (⟨true, true, ((ps.drop (cutN ps.length k i)).take (cutN ps.length k (i + 1) - cutN ps.length k i)).map (·.1), ((ps.drop (cutN ps.length k i)).take (cutN ps.length k (i + 1) - cutN ps.length k i)).map (·.2), []⟩,
   match decide (0 < cutN ps.length k (i + 1) - cutN ps.length k i) with | true => (ps[cutN ps.length k i]?.map (·.1)).getD (mkS []) | false => mkS [])
def leavesD (ps : List (ByteArray × ByteArray)) : Lvl := (List.range (kOf ps.length 4)).map (leafAt ps (kOf ps.length 4))
def upAt (xs : Lvl) (next k i : Nat) : Pg × ByteArray :=
  (⟨true, false, ((xs.drop (cutN xs.length k i + 1)).take (cutN xs.length k (i + 1) - (cutN xs.length k i + 1))).map (·.2), [], (List.range (cutN xs.length k (i + 1) - cutN xs.length k i)).map fun j => ((next + (cutN xs.length k i + j) : Nat) : Int)⟩,
   (xs[cutN xs.length k i]?.map (·.2)).getD (mkS []))
def upD (xs : Lvl) (next : Nat) : Lvl := (List.range (kOf xs.length 5)).map (upAt xs next (kOf xs.length 5))
def placeD (T : List Pg) (xs : Lvl) (next : Nat) : Nat → List Pg
  | 0 => T
  | j + 1 => (placeD T xs next j).set (next + j) ((xs[j]?.map (·.1)).getD noPg)
def newT : List Pg := ⟨true, true, [], [], []⟩ :: List.replicate 47 noPg
def buildGo : Nat → List Pg → Nat → Lvl → List Pg
  | 0, T, _, _ => T
  | f + 1, T, next, xs => match decide (1 < xs.length) with
    | true => buildGo f (placeD T xs next xs.length) (next + xs.length) (upD xs next)
    | false => T.set 0 ((xs[0]?.map (·.1)).getD noPg)
def buildD (ps : List (ByteArray × ByteArray)) : List Pg := buildGo 64 newT 1 (leavesD ps)

section
variable {H : Hp} {Q : Post}
end
end Go.Am
namespace Go.Am

/-- pairs of texts -/
abbrev KV := List (ByteArray × ByteArray)
def kvCells (ps : KV) : List GV := ps.flatMap fun x => [.str x.1, .str x.2]
theorem kvCells_get {ps : KV} {i : Nat} (hi : i < ps.length) : (kvCells ps)[i * 2]? = some (.str ps[i].1) ∧ (kvCells ps)[i * 2 + 1]? = some (.str ps[i].2) := by
  unfold kvCells
  induction ps generalizing i with
  | nil => simp at hi
  | cons c cs ih =>
    simp only [List.flatMap_cons]
    cases i with
    | zero => simp
    | succ i =>
      have := ih (i := i) (by simpa using hi)
      rw [List.getElem?_append_right (by simp; omega), List.getElem?_append_right (by simp; omega)]
      have e1 : (i + 1) * 2 - [GV.str c.1, GV.str c.2].length = i * 2 := by simp; omega
      have e2 : (i + 1) * 2 + 1 - [GV.str c.1, GV.str c.2].length = i * 2 + 1 := by simp; omega
      rw [e1, e2]
      simpa using this
structure Kv (H : Hp) (a : Pl) (n : Nat) (ps : KV) : Prop where
  cells : cells? H a (n * 2) = some (kvCells ps)
  len : ps.length = n
theorem Kv.mono {H H' : Hp} (hp : H <+: H') {a : Pl} {n : Nat} {ps : KV} (h : Kv H a n ps) : Kv H' a n ps := ⟨cells_mono hp h.cells, h.len⟩
theorem Kv.get {H : Hp} {a : Pl} {n : Nat} {ps : KV} (h : Kv H a n ps) {i : Nat} (hi : i < ps.length) : ∃ l o, a = some (l, o) ∧ gt H l (o + i * 2) = some (.str ps[i].1) ∧ gt H l (o + i * 2 + 1) = some (.str ps[i].2) := by
  have hc := h.cells
  have hl := h.len
  cases a with
  | none => simp [cells?] at hc; omega
  | some q =>
    obtain ⟨l, o⟩ := q
    obtain ⟨k1, k2⟩ := kvCells_get hi
    refine ⟨l, o, rfl, ?_, ?_⟩
    · rw [cells_get hc (by omega), k1]
    · rw [Nat.add_assoc, cells_get hc (by omega), k2]

/-- leaves being built: pages, their least keys; a page's keys, values -/
structure LJ (B H : Hp) (x : Pl) (m : Nat) (cs : List PC) (T : List Pg) (y : Pl) (ls : List ByteArray) (k : Pl) (ks : List ByteArray) (v : Pl) (vs : List ByteArray) : Prop where
  pre : B <+: H
  X : OT H B.length tPg x m cs T
  Y : Own H B.length tS y m (ls.map GV.str)
  K : Own H B.length tS k ks.length (ks.map GV.str)
  V : Own H B.length tS v vs.length (vs.map GV.str)
  xy : Dj x y
  xk : Dj x k
  xv : Dj x v
  yk : Dj y k
  yv : Dj y v
  kv : Dj k v
  yo : ∀ c ∈ cs, ∀ l, c.on l → y ≠ some (l, 0)
  ko : ∀ c ∈ cs, ∀ l, c.on l → k ≠ some (l, 0)
  vo : ∀ c ∈ cs, ∀ l, c.on l → v ≠ some (l, 0)
  lo : ∀ c ∈ cs, ∀ l, c.on l → B.length ≤ l
section
variable {B H : Hp} {x : Pl} {m : Nat} {cs : List PC} {T : List Pg} {y : Pl} {ls : List ByteArray} {k : Pl} {ks : List ByteArray} {v : Pl} {vs : List ByteArray}
theorem OT.offNew {H : Hp} {b : Nat} {t : TypeId} {a a' : Pl} {n : Nat} {cs : List PC} {T : List Pg} (h : OT H b t a n cs T) (f : ∀ l o, a' = some (l, o) → H.length ≤ l) : ∀ c ∈ cs, ∀ l, c.on l → a' ≠ some (l, 0) := fun c hc l hl e => by
  have := f l 0 e; have := h.onlt hc hl; omega
theorem LJ.key (g : LJ B H x m cs T y ls k ks v vs) (s : ByteArray) (hn : ks.length ≤ 1000) {K : Pl → Nat → Hp → Prop} (hK : ∀ k' H', LJ B H' x m cs T y ls k' (ks ++ [s]) v vs → K k' (ks.length + 1) H') : ap H tS 1 16 k ks.length [.str s] 1 K :=
  ap_own g.pre g.K rfl (by unfold Lim; omega) fun k' H' o e f => hK k' H' ⟨e.pre, g.X.ex e g.xk.symm g.ko, g.Y.after g.yk.symm e, by rw [List.map_append, List.length_append]; exact o, g.V.after g.kv e,
    g.xy, (Dj.fresh g.X.own f).symm, g.xv, (Dj.fresh g.Y f).symm, g.yv, Dj.fresh g.V f, g.yo, g.X.offNew f, g.vo, g.lo⟩
theorem LJ.val (g : LJ B H x m cs T y ls k ks v vs) (s : ByteArray) (hn : vs.length ≤ 1000) {K : Pl → Nat → Hp → Prop} (hK : ∀ v' H', LJ B H' x m cs T y ls k ks v' (vs ++ [s]) → K v' (vs.length + 1) H') : ap H tS 1 16 v vs.length [.str s] 1 K :=
  ap_own g.pre g.V rfl (by unfold Lim; omega) fun v' H' o e f => hK v' H' ⟨e.pre, g.X.ex e g.xv.symm g.vo, g.Y.after g.yv.symm e, g.K.after g.kv.symm e, by rw [List.map_append, List.length_append]; exact o,
    g.xy, g.xk, (Dj.fresh g.X.own f).symm, g.yk, (Dj.fresh g.Y f).symm, (Dj.fresh g.K f).symm, g.yo, g.ko, g.X.offNew f, g.lo⟩
/-- a page done -/
theorem LJ.page (g : LJ B H x m cs T y ls k ks v vs) (hks : ks.length ≤ 1000) (hvs : vs.length ≤ 1000) (hm : m ≤ 1000) (s : ByteArray) {K : Pl → Nat → Hp → Pl → Nat → Hp → Prop}
    (hK : ∀ x' H1 y' H2 c, LJ B H2 x' (m + 1) (cs ++ [c]) (T ++ [⟨true, true, ks, vs, []⟩]) y' (ls ++ [s]) none [] none [] → K x' (m + 1) H1 y' (m + 1) H2) :
    ap H tPg 5 80 x m [.bool true, .bool true, .sl k ks.length 1, .sl v vs.length 1, .sl none 0 1] 1 fun x' n' H1 => ap H1 tS 1 16 y m [.str s] 1 fun y' n2 H2 => K x' n' H1 y' n2 H2 := by
  have hon : ∀ l, (⟨true, true, k, ks.length, v, vs.length, none, 0⟩ : PC).on l → k = some (l, 0) ∨ v = some (l, 0) := by
    rintro l ⟨o, q | q | q⟩
    · left; rcases g.K with ⟨e, _⟩ | ⟨l', e, _⟩
      · simp at q; rw [e] at q; cases q
      · simp at q; rw [e] at q; cases q; exact e
    · right; rcases g.V with ⟨e, _⟩ | ⟨l', e, _⟩
      · simp at q; rw [e] at q; cases q
      · simp at q; rw [e] at q; cases q; exact e
    · cases q
  have hat : (⟨true, true, k, ks.length, v, vs.length, none, 0⟩ : PC).at H ⟨true, true, ks, vs, []⟩ :=
    ⟨rfl, rfl, ⟨g.K.cells, rfl, by show ks.length * 16 ≤ _; omega⟩, ⟨g.V.cells, rfl, by show vs.length * 16 ≤ _; omega⟩, .nil _⟩
  refine g.X.add (c := ⟨true, true, k, ks.length, v, vs.length, none, 0⟩) g.pre hat (fun l hl e => by rcases hon l hl with q | q; exact g.xk l e q; exact g.xv l e q) (by unfold Lim; omega) fun x' H1 o1 e1 f1 => ?_
  have yo1 : ∀ c ∈ cs ++ [(⟨true, true, k, ks.length, v, vs.length, none, 0⟩ : PC)], ∀ l, c.on l → y ≠ some (l, 0) := by
    intro c hc l hl e
    rcases List.mem_append.1 hc with q | q
    · exact g.yo c q l hl e
    · rw [List.mem_singleton.1 q] at hl
      rcases hon l hl with q | q
      · exact g.yk l e q
      · exact g.yv l e q
  have f1' : ∀ l o, x' = some (l, o) → H.length ≤ l := fun l o e => (f1 l o e).1
  refine ap_own e1.pre (g.Y.after g.xy e1) rfl (by unfold Lim; omega) fun y' H2 o2 e2 f2 => hK x' H1 y' H2 _ ⟨e2.pre, o1.ex e2 (Dj.fresh g.Y f1').symm yo1, by rw [List.map_append]; exact o2, .inl ⟨rfl, rfl, rfl⟩, .inl ⟨rfl, rfl, rfl⟩,
    (Dj.fresh o1.own f2).symm, fun _ _ e => (by cases e), fun _ _ e => (by cases e), fun _ _ e => (by cases e), fun _ _ e => (by cases e), fun _ e => (by cases e), o1.offNew f2, fun c hc l hl e => (by cases e), fun c hc l hl e => (by cases e), fun c hc l hl => by
      rcases List.mem_append.1 hc with q | q
      · exact g.lo c q l hl
      · rw [List.mem_singleton.1 q] at hl
        rcases hon l hl with q | q
        · rcases g.K with ⟨e, _⟩ | ⟨l', e, hb, _⟩
          · rw [q] at e; cases e
          · rw [q] at e; cases e; exact hb
        · rcases g.V with ⟨e, _⟩ | ⟨l', e, hb, _⟩
          · rw [q] at e; cases e
          · rw [q] at e; cases e; exact hb⟩
end

section
variable {H0 : Hp} {Q : Post} {a : Pl} {n : Nat} {ps : KV}
end
end Go.Am
