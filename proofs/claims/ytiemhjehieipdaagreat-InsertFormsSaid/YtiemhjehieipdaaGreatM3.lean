import Derived.Test.YtiemhjehieipdaaGreatM2
import Derived.Test.YtiemhjehieipdaaGreatProg
import Derived.KernelRfl
import Derived.RangeFuncBox
import Derived.RangeFuncLeaves
import Derived.Shelf.Abstract
import Derived.WalkKit
import Derived.OwnWalkIn
import Derived.TacticsInMore
import Derived.LoopNIn
import Derived.LoopIn
import Derived.Maps.AppendAt
import Derived.Shelf.SortM.Plain
import Derived.Shelf.SortM.SortNone
import Derived.Lib.SlKeysI
import Derived.OpenShut
import Derived.ShutString
import Derived.ChangeOld
import Derived.ProofKit
set_option linter.unusedVariables false
set_option linter.unusedSimpArgs false
namespace Go.Am
def tys : List TI := [
⟨false, [], 0, [], 0, 4, [], 0⟩,
⟨false, [.fn], 0, [], 8, 0, [], 0⟩,
⟨false, [(.int .i64)], 0, [], 8, 0, [], 0⟩,
⟨false, [(.int .i64)], 0, [], 8, 0, [], 0⟩,
⟨false, [.bool], 0, [], 1, 0, [], 0⟩,
⟨false, [(.int .u8)], 0, [], 1, 0, [], 0⟩,
⟨false, [(.int .u8)], 0, [], 1, 0, [], 0⟩,
⟨true, [(.int .i64), (.int .i64), .bool, (.int .u8)], 1, [(0, 2), (1, 3), (2, 4), (3, 6)], 24, 0, [], 0⟩,
⟨true, [(.int .i64), (.int .i64), .bool, (.int .u8)], 1, [(0, 2), (1, 3), (2, 4), (3, 6)], 24, 0, [], 0⟩,
⟨false, [.str], 0, [], 16, 3, [], 0⟩,
⟨false, [.str], 0, [], 16, 3, [], 0⟩,
⟨false, [.str], 0, [], 16, 3, [], 0⟩,
⟨false, [(.int .u64)], 0, [], 8, 0, [], 0⟩,
⟨true, [.str, (.int .u64)], 0, [(0, 9), (1, 12)], 24, 0, [], 0⟩,
⟨true, [.str, (.int .u64)], 0, [(0, 9), (1, 12)], 24, 0, [], 0⟩,
⟨false, [.ptr], 208, [], 8, 2, [], 0⟩,
⟨false, [.ptr], 211, [], 8, 2, [], 0⟩,
⟨false, [.ptr], 219, [], 8, 2, [], 0⟩,
⟨true, [.ptr], 0, [(0, 17)], 8, 0, [], 0⟩,
⟨true, [.ptr], 0, [(0, 17)], 8, 0, [], 0⟩,
⟨false, [.iface], 0, [], 16, 0, [], 0⟩,
⟨false, [(.int .i32)], 0, [], 4, 0, [], 0⟩,
⟨false, [(.sl 5)], 75, [], 24, 1, [], 0⟩,
⟨true, [(.sl 5)], 0, [(0, 22)], 24, 0, [], 0⟩,
⟨true, [(.sl 5)], 0, [(0, 22)], 24, 0, [], 0⟩,
⟨true, [(.int .i64), (.int .i64)], 1, [(0, 3), (1, 3)], 16, 0, [], 0⟩,
⟨true, [(.int .i64), (.int .i64)], 1, [(0, 3), (1, 3)], 16, 0, [], 0⟩,
⟨false, [(.sl 1)], 9, [], 24, 1, [], 0⟩,
⟨true, [(.int .i64), (.int .i64), (.int .i64), (.int .i64), (.sl 1)], 0, [(0, 26), (2, 3), (3, 3), (4, 27)], 56, 0, [], 0⟩,
⟨true, [(.int .i64), (.int .i64), (.int .i64), (.int .i64), (.sl 1)], 0, [(0, 26), (2, 3), (3, 3), (4, 27)], 56, 0, [], 0⟩,
⟨false, [.fn], 0, [], 8, 0, [], 0⟩,
⟨false, [.fn], 0, [], 8, 0, [], 0⟩,
⟨false, [(.sl 2)], 80, [], 24, 1, [], 0⟩,
⟨false, [(.int .i64)], 0, [], 8, 0, [], 0⟩,
⟨false, [], 0, [(0, 32), (0, 33)], 0, 4, [], 0⟩,
⟨false, [.fn], 0, [], 8, 0, [], 0⟩,
⟨false, [], 0, [(0, 32), (0, 3)], 0, 4, [], 0⟩,
⟨false, [.fn], 0, [], 8, 0, [], 0⟩,
⟨false, [.fn], 0, [], 8, 0, [], 0⟩,
⟨false, [.fn], 0, [], 8, 0, [], 0⟩,
⟨false, [], 0, [(0, 24), (0, 33)], 0, 4, [], 0⟩,
⟨false, [.fn], 0, [], 8, 0, [], 0⟩,
⟨false, [], 0, [(0, 24), (0, 3)], 0, 4, [], 0⟩,
⟨false, [.fn], 0, [], 8, 0, [], 0⟩,
⟨false, [.fn], 0, [], 8, 0, [], 0⟩,
⟨false, [.fn], 0, [], 8, 0, [], 0⟩,
⟨false, [.fn], 0, [], 8, 0, [], 0⟩,
⟨false, [.fn], 0, [], 8, 0, [], 0⟩,
⟨false, [.fn], 0, [], 8, 0, [], 0⟩,
⟨false, [.fn], 0, [], 8, 0, [], 0⟩,
⟨false, [.fn], 0, [], 8, 0, [], 0⟩,
⟨false, [.fn], 0, [], 8, 0, [], 0⟩,
⟨false, [.fn], 0, [], 8, 0, [], 0⟩,
⟨false, [.fn], 0, [], 8, 0, [], 0⟩,
⟨false, [(.sl 2)], 60, [], 24, 1, [], 0⟩,
⟨false, [], 0, [(0, 54), (0, 3)], 0, 4, [], 0⟩,
⟨false, [.fn], 0, [], 8, 0, [], 0⟩,
⟨false, [.fn], 0, [], 8, 0, [], 0⟩,
⟨false, [.fn], 0, [], 8, 0, [], 0⟩,
⟨true, [.str, .str], 1, [(0, 9), (1, 9)], 32, 0, [], 0⟩,
⟨true, [.str, .str], 1, [(0, 9), (1, 9)], 32, 0, [], 0⟩,
⟨false, [(.int .u64)], 0, [], 8, 0, [], 0⟩,
⟨false, [.fn], 0, [], 8, 0, [], 0⟩,
⟨false, [.fn], 0, [], 8, 0, [], 0⟩,
⟨false, [(.sl 1)], 5, [], 24, 1, [], 0⟩,
⟨false, [.fn], 0, [], 8, 0, [], 0⟩,
⟨false, [.fn], 0, [], 8, 0, [], 0⟩,
⟨false, [.fn], 0, [], 8, 0, [], 0⟩,
⟨false, [.fn], 0, [], 8, 0, [], 0⟩,
⟨false, [], 0, [(0, 9), (0, 4), (0, 3)], 0, 4, [], 0⟩,
⟨false, [.fn], 0, [], 8, 0, [], 0⟩,
⟨false, [], 0, [(0, 24), (0, 4), (0, 33)], 0, 4, [], 0⟩,
⟨false, [.fn], 0, [], 8, 0, [], 0⟩,
⟨false, [(.sl 1)], 3, [], 24, 1, [], 0⟩,
⟨true, [.bool, .bool, (.sl 1), (.sl 1), (.sl 1)], 0, [(0, 4), (1, 4), (2, 27), (3, 27), (4, 73)], 80, 0, [], 0⟩,
⟨true, [.bool, .bool, (.sl 1), (.sl 1), (.sl 1)], 0, [(0, 4), (1, 4), (2, 27), (3, 27), (4, 73)], 80, 0, [], 0⟩,
⟨false, [.fn], 0, [], 8, 0, [], 0⟩,
⟨false, [], 0, [(0, 9), (0, 33)], 0, 4, [], 0⟩,
⟨false, [.fn], 0, [], 8, 0, [], 0⟩,
⟨true, [(.int .i64), .str], 1, [(0, 3), (1, 9)], 24, 0, [], 0⟩,
⟨true, [(.int .i64), .str], 1, [(0, 3), (1, 9)], 24, 0, [], 0⟩,
⟨false, [], 0, [(0, 9), (0, 3)], 0, 4, [], 0⟩,
⟨false, [.fn], 0, [], 8, 0, [], 0⟩,
⟨false, [.fn], 0, [], 8, 0, [], 0⟩,
⟨false, [], 0, [(0, 75), (0, 33)], 0, 4, [], 0⟩,
⟨false, [.fn], 0, [], 8, 0, [], 0⟩,
⟨false, [], 0, [(0, 75), (0, 3)], 0, 4, [], 0⟩,
⟨false, [.fn], 0, [], 8, 0, [], 0⟩,
⟨false, [.fn], 0, [], 8, 0, [], 0⟩,
⟨false, [.fn], 0, [], 8, 0, [], 0⟩,
⟨false, [.fn], 0, [], 8, 0, [], 0⟩,
⟨false, [.fn], 0, [], 8, 0, [], 0⟩,
⟨false, [.fn], 0, [], 8, 0, [], 0⟩,
⟨false, [], 0, [(0, 9), (0, 4), (0, 33)], 0, 4, [], 0⟩,
⟨false, [.fn], 0, [], 8, 0, [], 0⟩,
⟨false, [.fn], 0, [], 8, 0, [], 0⟩,
⟨false, [.ptr], 24, [], 8, 2, [], 0⟩,
⟨false, [.ptr], 100, [], 8, 2, [], 0⟩,
⟨false, [(.sl 1)], 3, [], 24, 1, [], 0⟩,
⟨true, [(.sl 5), (.sl 1)], 0, [(0, 22), (1, 98)], 48, 0, [], 0⟩,
⟨true, [(.sl 5), (.sl 1)], 0, [(0, 22), (1, 98)], 48, 0, [], 0⟩,
⟨false, [.fn], 0, [], 8, 0, [], 0⟩,
⟨false, [.ptr], 98, [], 8, 2, [("Len", 177, false), ("Less", 178, false), ("Pop", 180, true), ("Push", 181, true), ("Swap", 179, false)], 0⟩,
⟨false, [.ptr], 107, [], 8, 2, [], 0⟩,
⟨false, [.fn], 0, [], 8, 0, [], 0⟩,
⟨false, [.fn], 0, [], 8, 0, [], 0⟩,
⟨true, [.str, (.int .i64)], 1, [(0, 9), (1, 3)], 24, 0, [], 0⟩,
⟨true, [.str, (.int .i64)], 1, [(0, 9), (1, 3)], 24, 0, [], 0⟩,
⟨false, [], 0, [(0, 3), (0, 4)], 0, 4, [], 0⟩,
⟨false, [.fn], 0, [], 8, 0, [], 0⟩,
⟨false, [.fn], 0, [], 8, 0, [], 0⟩,
⟨true, [(.sl 5), (.sl 1)], 0, [(0, 22), (1, 27)], 48, 0, [], 0⟩,
⟨true, [(.sl 5), (.sl 1)], 0, [(0, 22), (1, 27)], 48, 0, [], 0⟩,
⟨false, [.fn], 0, [], 8, 0, [], 0⟩,
⟨false, [.fn], 0, [], 8, 0, [], 0⟩,
⟨false, [.ptr], 150, [], 8, 2, [], 0⟩,
⟨false, [], 0, [(0, 115), (0, 4)], 0, 4, [], 0⟩,
⟨false, [.fn], 0, [], 8, 0, [], 0⟩,
⟨false, [.ptr], 120, [], 8, 2, [], 0⟩,
⟨true, [(.sl 5)], 0, [(0, 22)], 24, 0, [], 0⟩,
⟨true, [(.sl 5)], 0, [(0, 22)], 24, 0, [], 0⟩,
⟨false, [.fn], 0, [], 8, 0, [], 0⟩,
⟨false, [.fn], 0, [], 8, 0, [], 0⟩,
⟨false, [.fn], 0, [], 8, 0, [], 0⟩,
⟨false, [.fn], 0, [], 8, 0, [], 0⟩,
⟨false, [.fn], 0, [], 8, 0, [], 0⟩,
⟨false, [.fn], 0, [], 8, 0, [], 0⟩,
⟨false, [.ptr], 129, [], 8, 2, [], 0⟩,
⟨true, [.str], 1, [(0, 9)], 16, 0, [], 0⟩,
⟨true, [.str], 1, [(0, 9)], 16, 0, [], 0⟩,
⟨false, [.fn], 0, [], 8, 0, [], 0⟩,
⟨false, [.fn], 0, [], 8, 0, [], 0⟩,
⟨false, [.fn], 0, [], 8, 0, [], 0⟩,
⟨false, [.fn], 0, [], 8, 0, [], 0⟩,
⟨false, [.fn], 0, [], 8, 0, [], 0⟩,
⟨false, [.fn], 0, [], 8, 0, [], 0⟩,
⟨false, [.ptr], 75, [], 8, 2, [], 0⟩,
⟨false, [.fn], 0, [], 8, 0, [], 0⟩,
⟨false, [.iface], 0, [], 16, 0, [], 0⟩,
⟨false, [.iface], 0, [], 16, 0, [], 0⟩,
⟨false, [.fn], 0, [], 8, 0, [], 0⟩,
⟨false, [.fn], 0, [], 8, 0, [], 0⟩,
⟨false, [.fn], 0, [], 8, 0, [], 0⟩,
⟨false, [.fn], 0, [], 8, 0, [], 0⟩,
⟨false, [.fn], 0, [], 8, 0, [], 0⟩,
⟨false, [.fn], 0, [], 8, 0, [], 0⟩,
⟨false, [.fn], 0, [], 8, 0, [], 0⟩,
⟨false, [.fn], 0, [], 8, 0, [], 0⟩,
⟨false, [(.sl 1)], 4, [], 24, 1, [], 0⟩,
⟨true, [(.sl 1), (.int .i64), (.int .i64), .bool], 0, [(0, 148), (1, 3), (2, 3), (3, 4)], 48, 0, [], 0⟩,
⟨true, [(.sl 1), (.int .i64), (.int .i64), .bool], 0, [(0, 148), (1, 3), (2, 3), (3, 4)], 48, 0, [], 0⟩,
⟨false, [.fn], 0, [], 8, 0, [], 0⟩,
⟨false, [.fn], 0, [], 8, 0, [], 0⟩,
⟨false, [.fn], 0, [], 8, 0, [], 0⟩,
⟨false, [.ptr], 156, [], 8, 2, [], 0⟩,
⟨true, [(.sl 5), (.sl 1), (.int .i64), (.int .i64)], 0, [(0, 22), (1, 148), (2, 3), (3, 3)], 64, 0, [], 0⟩,
⟨true, [(.sl 5), (.sl 1), (.int .i64), (.int .i64)], 0, [(0, 22), (1, 148), (2, 3), (3, 3)], 64, 0, [], 0⟩,
⟨false, [.fn], 0, [], 8, 0, [], 0⟩,
⟨true, [.str, .str, .bool], 1, [(0, 9), (1, 9), (2, 4)], 40, 0, [], 0⟩,
⟨true, [.str, .str, .bool], 1, [(0, 9), (1, 9), (2, 4)], 40, 0, [], 0⟩,
⟨false, [.fn], 0, [], 8, 0, [], 0⟩,
⟨false, [.fn], 0, [], 8, 0, [], 0⟩,
⟨false, [.fn], 0, [], 8, 0, [], 0⟩,
⟨false, [.fn], 0, [], 8, 0, [], 0⟩,
⟨false, [.fn], 0, [], 8, 0, [], 0⟩,
⟨false, [], 0, [(0, 75), (0, 9), (0, 75), (0, 33)], 0, 4, [], 0⟩,
⟨false, [.fn], 0, [], 8, 0, [], 0⟩,
⟨false, [.fn], 0, [], 8, 0, [], 0⟩,
⟨false, [.fn], 0, [], 8, 0, [], 0⟩,
⟨false, [.fn], 0, [], 8, 0, [], 0⟩,
⟨false, [.fn], 0, [], 8, 0, [], 0⟩,
⟨false, [.fn], 0, [], 8, 0, [], 0⟩,
⟨false, [], 0, [(0, 75), (0, 9), (0, 75)], 0, 4, [], 0⟩,
⟨false, [.fn], 0, [], 8, 0, [], 0⟩,
⟨false, [.fn], 0, [], 8, 0, [], 0⟩,
⟨false, [.fn], 0, [], 8, 0, [], 0⟩,
⟨false, [.fn], 0, [], 8, 0, [], 0⟩,
⟨false, [.fn], 0, [], 8, 0, [], 0⟩,
⟨false, [.fn], 0, [], 8, 0, [], 0⟩,
⟨false, [.fn], 0, [], 8, 0, [], 0⟩,
⟨false, [.fn], 0, [], 8, 0, [], 0⟩,
⟨false, [.fn], 0, [], 8, 0, [], 0⟩,
⟨false, [.fn], 0, [], 8, 0, [], 0⟩,
⟨false, [.fn], 0, [], 8, 0, [], 0⟩,
⟨false, [.fn], 0, [], 8, 0, [], 0⟩,
⟨false, [.fn], 0, [], 8, 0, [], 0⟩,
⟨false, [.fn], 0, [], 8, 0, [], 0⟩,
⟨false, [.fn], 0, [], 8, 0, [], 0⟩,
⟨false, [(.int .i64)], 0, [], 8, 0, [], 0⟩,
⟨false, [], 0, [(0, 3), (0, 188)], 0, 4, [], 0⟩,
⟨false, [.fn], 0, [], 8, 0, [], 0⟩,
⟨false, [.fn], 0, [], 8, 0, [], 0⟩,
⟨false, [.fn], 0, [], 8, 0, [], 0⟩,
⟨false, [.fn], 0, [], 8, 0, [], 0⟩,
⟨false, [.fn], 0, [], 8, 0, [], 0⟩,
⟨false, [(.int .u32)], 0, [], 4, 0, [], 0⟩,
⟨false, [.fn], 0, [], 8, 0, [], 0⟩,
⟨false, [(.int .u64)], 0, [], 8, 0, [], 0⟩,
⟨false, [(.int .u64)], 0, [], 8, 0, [], 0⟩,
⟨false, [.fn], 0, [], 8, 0, [], 0⟩,
⟨false, [.fn], 0, [], 8, 0, [], 0⟩,
⟨false, [.fn], 0, [], 8, 0, [], 0⟩,
⟨false, [.ptr], 3, [], 8, 2, [], 0⟩,
⟨false, [.fn], 0, [], 8, 0, [], 0⟩,
⟨false, [.ptr], 198, [], 8, 2, [], 0⟩,
⟨false, [], 0, [(0, 3), (0, 3)], 0, 4, [], 0⟩,
⟨false, [.fn], 0, [], 8, 0, [], 0⟩,
⟨true, [.ptr, .ptr, .ptr, .str], 0, [(0, 17), (1, 17), (2, 17), (3, 9)], 40, 0, [], 0⟩,
⟨true, [.ptr, .ptr, .ptr, .str], 0, [(0, 17), (1, 17), (2, 17), (3, 9)], 40, 0, [], 0⟩,
⟨true, [], 16, [], 0, 6, [], 0⟩,
⟨true, [], 0, [(0, 209)], 0, 0, [], 0⟩,
⟨true, [], 0, [(0, 209)], 0, 0, [], 0⟩,
⟨false, [(.int .u8)], 0, [], 1, 0, [], 0⟩,
⟨false, [(.int .u8)], 0, [], 1, 0, [], 0⟩,
⟨false, [.fn], 0, [], 8, 0, [], 0⟩,
⟨false, [.ptr], 5, [], 8, 2, [], 0⟩,
⟨false, [(.int .i32)], 0, [], 4, 0, [], 0⟩,
⟨false, [(.int .i32)], 0, [], 4, 0, [], 0⟩,
⟨true, [(.int .u64), (.int .u64), (.int .u32), (.int .u8), (.int .u8), (.int .u8), (.int .u8), .fn, .ptr, (.int .i32), (.int .i32)], 0, [(0, 12), (1, 12), (2, 195), (3, 212), (4, 5), (5, 5), (6, 213), (7, 214), (8, 215), (9, 216), (10, 217)], 48, 0, [], 0⟩,
⟨true, [(.int .u64), (.int .u64), (.int .u32), (.int .u8), (.int .u8), (.int .u8), (.int .u8), .fn, .ptr, (.int .i32), (.int .i32)], 0, [(0, 12), (1, 12), (2, 195), (3, 212), (4, 5), (5, 5), (6, 213), (7, 214), (8, 215), (9, 216), (10, 217)], 48, 0, [], 0⟩,
⟨false, [], 0, [], 8, 0, [], 0⟩]

set_option maxRecDepth 100000 in
theorem prog_ok : ProgOK Go.Proofs.Tryz.prog tys := ⟨tysOK (by kernel_rfl), by kernel_rfl⟩

end Go.Am
namespace Go.Proofs
open Go.RowKit Go.Shelf

attribute [local go_sem] Oper.semAt_some

/-- what has come behind k rounds -/
def Uq.upto (zs : List Int) (k : Nat) : List Int := (List.range k).map fun j => zs[j]?.getD 0
theorem Uq.upto_succ (zs : List Int) (k : Nat) : Uq.upto zs (k + 1) = Uq.upto zs k ++ [zs[k]?.getD 0] := by simp [Uq.upto, List.range_succ]
theorem Uq.upto_length (zs : List Int) (k : Nat) : (Uq.upto zs k).length = k := by simp [Uq.upto]
theorem Uq.upto_all (zs : List Int) : Uq.upto zs zs.length = zs := by
  apply List.ext_getElem
  · simp [Uq.upto]
  · intro i h1 h2
    simp [Uq.upto, h2]

set_option maxRecDepth 100000 in
set_option maxHeartbeats 2000000 in
/-- slices.Values's closure, for every body that keeps what lay below n₀ -/
theorem Uq.values1_in (F : Fence) (n : Nat) (h7 : F.fn 138) (hro : F.round = none) (hn : 1 ≤ n) (l Bs n₀ b off len cap : Nat) (zs : List Int) (hreach : len * 8 ≤ 140737488355328) (hb : b < n₀) (J Jx : List Int → World → Prop)
    (hY : ∀ pre x W, J pre W → pre.length < len → YieldAt F (n - 1) Tryz.prog l #[.int .i64 x] W fun e W' =>
      (e = .returned (.bool true) ∧ J (pre ++ [x]) W' ∧ Below n₀ W W') ∨ (e = .returned (.bool false) ∧ Jx (pre ++ [x]) W'))
    (W : World) (hBs : W.cell? ⟨Bs, 0, none⟩ = some (.slice (some ⟨b, off, none⟩) len cap)) (hc : ∀ j, j < len → W.cell? ⟨b, off + j, none⟩ = some (.int .i64 (zs[j]?.getD 0))) (h0 : J [] W) :
    CallsIn F n Tryz.prog 138 #[.func (.yield l) #[] #[], .pointer (some ⟨Bs, 0, none⟩)] W fun e W' => (∃ v, e = .returned v) ∧
      ((∃ ys, ys = Uq.upto zs len ∧ J ys W') ∨ (∃ pre, (∃ k, k ≤ len ∧ pre = Uq.upto zs k) ∧ Jx pre W')) := by
  refine callsIn_of_wp Tryz.func138 rfl h7 ?_ hro
  simp only [Tryz.ntmps138, List.size_toArray, List.length_cons, List.length_nil, Nat.reduceAdd, Nat.reduceSub, Array.replicate_succ, Array.replicate_zero, List.push_toArray, List.append_toArray, List.nil_append, List.cons_append]
  gi_wp2
  gi_loopw [7] (fun i wr => ∃ k : Nat, k ≤ len ∧ i = .int .i64 k ∧ J (Uq.upto zs k) wr ∧ Below n₀ W wr)
    (fun i _ => len - (intOf i).toNat)
  case atStart => exact ⟨0, Nat.zero_le _, rfl, h0, Below.refl _ _⟩
  case round =>
    obtain ⟨k, hk, rfl, hJs, hnx⟩ := hrel
    have hcx : k < len → wr.cell? ⟨b, off + k, none⟩ = some (.int .i64 (zs[k]?.getD 0)) := fun h => (hnx.cell (p := ⟨b, off + k, none⟩) hb).trans (hc k h)
    by_cases hlt : k < len
    · obtain ⟨fn, tmps, assign, body, hy, hR⟩ := hY _ (zs[k]?.getD 0) wr hJs (by rw [Uq.upto_length]; exact hlt)
      have hcx' := hcx hlt
      gi_wp2
      refine hR.mono ?_
      rintro e W3 (⟨rfl, hJ3, hk3⟩ | ⟨rfl, hJx3⟩)
      · gi_wp2
        go_roundw
        case rel => exact ⟨k + 1, by omega, by simp, by rw [Uq.upto_succ]; exact hJ3, hnx.trans hk3⟩
        case measure => simp [intOf]; omega
      · gi_wp2
        refine bodyPost_ret (results_none rfl _ _ _) rfl ?_
        exact ⟨⟨_, rfl⟩, .inr ⟨_, ⟨k + 1, by omega, (Uq.upto_succ _ _).symm⟩, hJx3⟩⟩
    · obtain rfl : k = len := by omega
      gi_wp2
      go_end0
      exact ⟨⟨_, rfl⟩, .inl ⟨_, rfl, hJs⟩⟩

set_option maxRecDepth 100000 in
set_option maxHeartbeats 1000000 in
theorem Uq.values1_nil_in (F : Fence) (n : Nat) (h7 : F.fn 138) (hro : F.round = none) (l Bs : Nat) (J : List Int → World → Prop) (W : World) (p : Option Addr) (cap : Nat) (hBs : W.cell? ⟨Bs, 0, none⟩ = some (.slice p 0 cap)) (h0 : J [] W) :
    CallsIn F n Tryz.prog 138 #[.func (.yield l) #[] #[], .pointer (some ⟨Bs, 0, none⟩)] W fun e W' => (∃ v, e = .returned v) ∧ J [] W' := by
  refine callsIn_of_wp Tryz.func138 rfl h7 ?_ hro
  simp only [Tryz.ntmps138, List.size_toArray, List.length_cons, List.length_nil, Nat.reduceAdd, Nat.reduceSub, Array.replicate_succ, Array.replicate_zero, List.push_toArray, List.append_toArray, List.nil_append, List.cons_append]
  gi_wp2
  gi_loopw [7] (fun i wr => i = .int .i64 0 ∧ J [] wr) (fun _ _ => 0)
  case atStart => exact ⟨rfl, h0⟩
  case round =>
    obtain ⟨rfl, hJs⟩ := hrel
    gi_wp2
    go_end0
    exact ⟨⟨_, rfl⟩, hJs⟩

/-- the slice value holds the ints zs, in a block below n₀ -/
def Uq.Ints (n₀ : Nat) (W : World) (sv : Value) (zs : List Int) : Prop :=
  (∃ p cap, sv = .slice p 0 cap ∧ zs = []) ∨ ∃ b off cap, sv = .slice (some ⟨b, off, none⟩) zs.length cap ∧ b < n₀ ∧ ∀ j, j < zs.length → W.cell? ⟨b, off + j, none⟩ = some (.int .i64 (zs[j]?.getD 0))
theorem Uq.Ints.below {n₀ : Nat} {A B : World} (h : Below n₀ A B) {sv : Value} {zs : List Int} : Uq.Ints n₀ A sv zs → Uq.Ints n₀ B sv zs
  | .inl e => .inl e
  | .inr ⟨b, off, cap, e, hb, hc⟩ => .inr ⟨b, off, cap, e, hb, fun j hj => (h.cell (p := ⟨b, off + j, none⟩) hb).trans (hc j hj)⟩

theorem Uq.values_stops (F : Fence) (n : Nat) (h7 : F.fn 138) (hro : F.round = none) (hn : 1 ≤ n) (Bs n₀ : Nat) (sv : Value) (zs : List Int) (hreach : zs.length * 8 ≤ 140737488355328) (w : World) (hBs : Bs < w.heap.size) (hn₀ : n₀ ≤ w.heap.size)
    (hc : w.cell? ⟨Bs, 0, none⟩ = some sv) (hI : Uq.Ints n₀ w sv zs) :
    SeqStopsK F n Tryz.prog 138 #[.pointer (some ⟨Bs, 0, none⟩)] (fun x : Int => #[Value.int .i64 x]) (Below n₀) (fun ys => ys = zs) (fun _ => True) zs.length w := fun l J Jx W hW _ _ hY h0 => by
  have hc' := (hW.cell (p := ⟨Bs, 0, none⟩) hBs).trans hc
  rcases hI.below (hW.mono hn₀) with ⟨p, cap, rfl, rfl⟩ | ⟨b, off, cap, rfl, hb, hcs⟩
  · exact (Uq.values1_nil_in F n h7 hro l Bs J W p cap hc' h0).mono fun e W' ⟨he, hj⟩ => ⟨he, .inl ⟨_, rfl, hj⟩⟩
  · refine (Uq.values1_in F n h7 hro hn l Bs n₀ b off zs.length cap zs hreach hb J Jx hY W hc' hcs h0).mono ?_
    rintro e W' ⟨he, ⟨ys, rfl, hj⟩ | ⟨pre, ⟨k, hk, rfl⟩, hj⟩⟩
    · exact ⟨he, .inl ⟨_, Uq.upto_all zs, hj⟩⟩
    · exact ⟨he, .inr ⟨_, trivial, hj⟩⟩

theorem Uq.info3 : (Tryz.prog.info? 3).map (fun i => (i.zero, i.size, i.bytes)) = some (some (.int .i64 0), 1, 8) := by kernel_rfl

set_option maxRecDepth 100000 in
set_option maxHeartbeats 2000000 in
/-- slices.AppendSeq(nil, slices.Values(zs)): a new row of the same numbers -/
theorem Uq.appendSeq_in (F : Fence) (n : Nat) (h3 : F.fn 139) (h7 : F.fn 138) (hro : F.round = none) (hn : 3 ≤ n) (Bs : Nat) (sv : Value) (zs : List Int) (hreach : zs.length * 8 ≤ 140737488355328) (w : World) (hBs : Bs < w.heap.size)
    (hc : w.cell? ⟨Bs, 0, none⟩ = some sv) (hI : Uq.Ints w.heap.size w sv zs) :
    CallsIn F n Tryz.prog 139 #[.slice none 0 0, .func (.func 138) #[] #[.pointer (some ⟨Bs, 0, none⟩)]] w fun e W' => ∃ v, e = .returned v ∧
      W'.ownsRow w.heap.size 3 1 v zs.length (zs.map (Value.int .i64)) ∧ (v = .slice none 0 0 ↔ zs = []) ∧ Below w.heap.size w W' := by
  have h1 : 1 ≤ n := by omega
  obtain ⟨i0, hi, hz0, hz1, hz2⟩ := info_parts Uq.info3
  refine callsIn_of_wp_marks Tryz.func139 rfl h3 ?_ hro
  simp only [Tryz.ntmps139, List.size_toArray, List.length_cons, List.length_nil, Nat.reduceAdd, Nat.reduceSub, Array.replicate_succ, Array.replicate_zero, List.push_toArray, List.append_toArray, List.nil_append, List.cons_append]
  gi_wp2
  have bS := Boxed.new w 73 (.slice none 0 0)
  have hB0 : Below w.heap.size w (w.alloc (.cells #[.slice none 0 0] 73)) := (Below.refl _ w).alloc (Nat.le_refl _) _
  refine wpIn_rangeFunc_ownG hro h1 (gf := 138) (lb := #[.pointer (some ⟨Bs, 0, none⟩)]) rfl h7 (enters_of Tryz.func138 (by kernel_rfl) rfl)
    (Uq.values_stops F (n - 1) h7 hro (by omega) Bs w.heap.size _ zs hreach _ (by simp; omega) (by simp) ((hB0.cell (p := ⟨Bs, 0, none⟩) hBs).trans hc) (hI.below hB0)) belowK_t (belowK_b (by simp)) (Below.refl _ _) (fun _ => rfl)
    (fun pre W => (∃ v, Boxed W w.heap.size 73 v ∧ W.ownsRow w.heap.size 3 1 v pre.length (pre.map (Value.int .i64)) ∧ (v = .slice none 0 0 ↔ pre = [])) ∧ Below w.heap.size w W)
    (fun _ _ _ => False)
    (OwnFrom.and (Own.from (holdsRow_own w.heap.size w.heap.size 73 3 1 (fun pre : List Int => pre.length) (fun pre => pre.map (Value.int .i64)) (fun pre v => (v = .slice none 0 0 ↔ pre = []))) _) (ownFrom_below (Nat.le_refl _) (by simp)))
    (fun _ _ _ _ _ hs _ _ => hs)
    ⟨⟨_, bS, World.ownsRow_nil _ _ _ _, by simp⟩, hB0⟩
    (fun x => { tmps := #[.slice none 0 0, .func (.func 138) #[] #[.pointer (some ⟨Bs, 0, none⟩)], .pointer (some ⟨w.heap.size, 0, none⟩), undef, .slice none 0 0, .int .i64 x, .func (.func 138) #[] #[.pointer (some ⟨Bs, 0, none⟩)], .int .i64 x, undef, undef, undef, undef, undef], defers := [] }) ?assign ?body ?done ?stop
  case assign =>
    intro l x W K hK
    gi_wp2
    exact hK
  case body =>
    rintro l pre x W ⟨⟨v, hv, hrow, hnil⟩, hB⟩ hlt
    have hvc := hv.cell
    have hle : w.heap.size ≤ w.heap.size := Nat.le_refl _
    have hm : (pre.length + 1) * 8 ≤ 140737488355328 := by omega
    have hm' : pre.length + 1 ≤ maxLen := by unfold maxLen; omega
    gi_wp2_with (gi_at_builtin; refine wpListIn_append_own _ rfl _ _ 73 rfl w.heap.size 3 i0 (.int .i64 0) 1 8 Tryz.underlying73 hi hz0 hz1 hz2 rfl (by decide) _ _ _ rfl (hrow.alloc _) ⟨W.heap.size, 0, none⟩ 1 1 [.int .i64 x] rfl rfl (cell_one_new _ _ _) (by simp [Value.oneCell']) (by omega) (by omega) (by have := hB.size; simp; omega) ?_; intro v' w1 hown' hgrow _; obtain ⟨g', cap', rfl⟩ := ownsRow_succ hown'; obtain ⟨hv1, hv2, hr2, hk2, hb2⟩ := hv.appended (by decide) hrow hB.size hle hown' hgrow; have hc1 := hv1.cell; have hf1 := hv1.frozen)
    exact ⟨hk2.from _, hb2, ⟨_, hv2, by simpa using hr2, by simp⟩, hB.trans hb2⟩
  case done =>
    rintro D ys W hD rfl ⟨⟨v, hv, hrow, hnil⟩, hB⟩ hK
    have hvc := hv.cell
    gi_wp2
    refine ⟨by simp, .inl ⟨_, _, rfl, run_takeDeferred hK, ?_⟩⟩
    exact ⟨_, results_tmp rfl _ _ _, v, rfl, ownsRow_putObj hrow _ hK rfl, hnil, hB.trans (belowK_b (w := w) (Nat.le_refl _) W D _ _ (by simp at hD; omega) hK rfl rfl)⟩
  case stop =>
    rintro D c pre W _ _ h _
    exact h.elim

end Go.Proofs
namespace Go.Proofs
open Go.Shelf
def Uq.sortA_ren : Go.Shelf.Ren := ⟨fun | 5 => 137 | 8 => 141 | 7 => 140 | 19 => 151 | 20 => 152 | 10 => 142 | 11 => 143 | 12 => 144 | 13 => 145 | 14 => 146 | 15 => 147 | 16 => 148 | 17 => 149 | 18 => 150 | 30 => 153 | 31 => 154 | 32 => 155 | 33 => 156 | 34 => 157 | 35 => 158 | 40 => 159 | n => n, fun | 23 => 73 | 25 => 3 | 3 => 3 | 32 => 61 | 22 => 73 | 0 => 0 | 44 => 195 | 46 => 197 | 4 => 4 | 36 => 189 | 35 => 188 | 41 => 108 | 5 => 5 | 9 => 9 | 53 => 198 | 57 => 202 | 63 => 204 | 64 => 205 | n => n, fun | n => n⟩
theorem Uq.sortA : Go.Proofs.SlLaysM.n5 Tryz.prog Uq.sortA_ren := {
  mixed := by kernel_rfl
  f5 := ⟨Tryz.f137.name, by decide, Tryz.func137.trans (congrArg some (by kernel_rfl))⟩
  f7 := ⟨Tryz.f140.name, by decide, Tryz.func140.trans (congrArg some (by kernel_rfl))⟩
  f8 := Tryz.func141.trans (congrArg some (by kernel_rfl))
  f10 := ⟨Tryz.f142.name, by decide, Tryz.func142.trans (congrArg some (by kernel_rfl))⟩
  f11 := ⟨Tryz.f143.name, by decide, Tryz.func143.trans (congrArg some (by kernel_rfl))⟩
  f12 := ⟨Tryz.f144.name, by decide, Tryz.func144.trans (congrArg some (by kernel_rfl))⟩
  f13 := ⟨Tryz.f145.name, by decide, Tryz.func145.trans (congrArg some (by kernel_rfl))⟩
  f14 := ⟨Tryz.f146.name, by decide, Tryz.func146.trans (congrArg some (by kernel_rfl))⟩
  f15 := ⟨Tryz.f147.name, by decide, Tryz.func147.trans (congrArg some (by kernel_rfl))⟩
  f16 := ⟨Tryz.f148.name, by decide, Tryz.func148.trans (congrArg some (by kernel_rfl))⟩
  f17 := ⟨Tryz.f149.name, by decide, Tryz.func149.trans (congrArg some (by kernel_rfl))⟩
  f18 := ⟨Tryz.f150.name, by decide, Tryz.func150.trans (congrArg some (by kernel_rfl))⟩
  f19 := Tryz.func151.trans (congrArg some (by kernel_rfl))
  f20 := Tryz.func152.trans (congrArg some (by kernel_rfl))
  f30 := ⟨Tryz.f153.name, by decide, Tryz.func153.trans (congrArg some (by kernel_rfl))⟩
  f31 := Tryz.func154.trans (congrArg some (by kernel_rfl))
  f32 := Tryz.func155.trans (congrArg some (by kernel_rfl))
  f33 := ⟨Tryz.f156.name, by decide, Tryz.func156.trans (congrArg some (by kernel_rfl))⟩
  f34 := ⟨Tryz.f157.name, by decide, Tryz.func157.trans (congrArg some (by kernel_rfl))⟩
  f35 := ⟨Tryz.f158.name, by decide, Tryz.func158.trans (congrArg some (by kernel_rfl))⟩
  f40 := ⟨Tryz.f159.name, by decide, Tryz.func159.trans (congrArg some (by kernel_rfl))⟩
  t0 := Tryz.underlying0
  a0 := Tryz.isAgg0
  z0 := Tryz.sizeOf0
  v0 := Tryz.zeroValue0
  t3 := Tryz.underlying3
  a3 := Tryz.isAgg3
  z3 := Tryz.sizeOf3
  v3 := Tryz.zeroValue3
  t4 := Tryz.underlying4
  a4 := Tryz.isAgg4
  z4 := Tryz.sizeOf4
  v4 := Tryz.zeroValue4
  t5 := Tryz.underlying5
  a5 := Tryz.isAgg5
  z5 := Tryz.sizeOf5
  v5 := Tryz.zeroValue5
  t9 := Tryz.underlying9
  a9 := Tryz.isAgg9
  z9 := Tryz.sizeOf9
  v9 := Tryz.zeroValue9
  t22 := Tryz.underlying73
  a22 := Tryz.isAgg73
  z22 := Tryz.sizeOf73
  v22 := Tryz.zeroValue73
  t23 := Tryz.underlying73
  a23 := Tryz.isAgg73
  z23 := Tryz.sizeOf73
  v23 := Tryz.zeroValue73
  t25 := Tryz.underlying3
  a25 := Tryz.isAgg3
  z25 := Tryz.sizeOf3
  v25 := Tryz.zeroValue3
  t32 := Tryz.underlying61
  a32 := Tryz.isAgg61
  z32 := Tryz.sizeOf61
  v32 := Tryz.zeroValue61
  t35 := Tryz.underlying188
  a35 := Tryz.isAgg188
  z35 := Tryz.sizeOf188
  v35 := Tryz.zeroValue188
  t36 := Tryz.underlying189
  a36 := Tryz.isAgg189
  z36 := Tryz.sizeOf189
  v36 := Tryz.zeroValue189
  t41 := Tryz.underlying108
  a41 := Tryz.isAgg108
  z41 := Tryz.sizeOf108
  v41 := Tryz.zeroValue108
  t44 := Tryz.underlying195
  a44 := Tryz.isAgg195
  z44 := Tryz.sizeOf195
  v44 := Tryz.zeroValue195
  t46 := Tryz.underlying197
  a46 := Tryz.isAgg197
  z46 := Tryz.sizeOf197
  v46 := Tryz.zeroValue197
  t53 := Tryz.underlying198
  a53 := Tryz.isAgg198
  z53 := Tryz.sizeOf198
  v53 := Tryz.zeroValue198
  t57 := Tryz.underlying202
  a57 := Tryz.isAgg202
  z57 := Tryz.sizeOf202
  v57 := Tryz.zeroValue202
  t63 := Tryz.underlying204
  a63 := Tryz.isAgg204
  z63 := Tryz.sizeOf204
  v63 := Tryz.zeroValue204
  t64 := Tryz.underlying205
  a64 := Tryz.isAgg205
  z64 := Tryz.sizeOf205
  v64 := Tryz.zeroValue205 }
end Go.Proofs
namespace Go.Am
open Go.Proofs Go.RowKit Go.Sort

/-- the world goes on; no row is touched -/
theorem Back.stay {φ : List LI} {H : Hp} {w w' : World} (h : RepH φ H w) (hb : Below w.heap.size w w') : Back φ H w φ H w' :=
  ⟨List.prefix_refl _, ⟨h.len, fun l o hl hv => by obtain ⟨i, hi, hr⟩ := h.obj l o hl hv; exact ⟨i, hi, hr.keep (hb.block _ (h.blockLt ⟨l, o, i, hl, hv, hi, rfl⟩)) hb.size⟩, h.apart⟩,
    ⟨hb.os, hb.tape, hb.output, hb.size, fun b h1 _ => hb.block b h1⟩, fun _ h => .inl h, fun _ h => .inl h⟩

/-- a new row that a call has made -/
theorem Back.made {φ : List LI} {H : Hp} {w w' : World} (h : RepH φ H w) (hb : Below w.heap.size w w') {t : TypeId} {cs : List GV} {g cap : Nat} {cur : Array Value} (hg : w.heap.size ≤ g)
    (hc : w'.heap[g]? = some (.cells cur t (0, 0))) (hs : cur.size = cap) (hle : cs.length ≤ cap) (his : Is2 φ cs (cur.toList.take cs.length)) :
    Back φ H w (φ ++ [⟨g, 0, true, cs.length, cap⟩]) (H ++ [.row true t cs]) w' :=
  Back.snoc h ⟨hb.os, hb.tape, hb.output, hb.size, fun b h1 _ => hb.block b h1⟩ (fun b q => hb.block b (h.blockLt q))
    ⟨rfl, rfl, (Array.getElem?_eq_some_iff.1 hc).1, rfl, cur, t, (0, 0), hc, fun _ => rfl, hs, (fun j _ h2 => by simp at h2), by omega, Is2.mono (List.prefix_append _ _) his⟩ hg

theorem ints_is (φ : List LI) : ∀ zs : List Int, Is2 φ (zs.map (GV.int .i64)) (zs.map (Value.int .i64))
  | [] => .nil
  | _ :: zs => .cons rfl (ints_is φ zs)
theorem ints_of {φ : List LI} : ∀ {zs : List Int} {xs : List Value}, Is2 φ (zs.map (GV.int .i64)) xs → xs = zs.map (Value.int .i64)
  | [], _, h => by rw [All2.nil_inv h]; rfl
  | z :: zs, _, h => by
    obtain ⟨b, bs, rfl, h1, h2⟩ := All2.cons_inv h
    rw [ints_of h2, show b = _ from h1]; rfl

theorem All2.two {α β : Type} {R : α → β → Prop} {a b : α} {vs : List β} (h : All2 R [a, b] vs) : ∃ x y, vs = [x, y] ∧ R a x ∧ R b y := by
  obtain ⟨x, vs, rfl, h1, h⟩ := h.cons_inv
  obtain ⟨y, vs, rfl, h2, h⟩ := h.cons_inv
  rw [h.nil_inv]
  exact ⟨x, y, rfl, h1, h2⟩
theorem All2.one {α β : Type} {R : α → β → Prop} {a : α} {vs : List β} (h : All2 R [a] vs) : ∃ x, vs = [x] ∧ R a x := by
  obtain ⟨x, vs, rfl, h1, h⟩ := h.cons_inv
  rw [h.nil_inv]
  exact ⟨x, rfl, h1⟩

/-- slices.AppendSeq(nil, slices.Values(zs)) -/
def slices_AppendSeq__int_int : Sm := fun xs H Q => ∃ l t cs a n zs, xs = [.g (.sl none 0 1), .g (.fn 138 [(l, 0)])] ∧ H[l]? = some (.row true t cs) ∧ cs[0]? = some (.sl a n 1) ∧ cells? H a n = some (zs.map (GV.int .i64)) ∧ zs.length * 8 ≤ Lim ∧
  (zs = [] → Q (.g (.sl none 0 1)) H) ∧ (zs ≠ [] → Q (.g (.sl (some (ln H, 0)) zs.length 1)) (pu H (.row true 3 (zs.map (GV.int .i64)))))

theorem ints_at {φ : List LI} {H : Hp} {w : World} (h : RepH φ H w) {a : Pl} {n : Nat} {zs : List Int} (hz : cells? H a n = some (zs.map (GV.int .i64))) {x : Value} (hx : GV.is φ (.sl a n 1) x) : Uq.Ints w.heap.size w x zs := by
  cases a with
  | none =>
    obtain ⟨rfl, rfl⟩ := hx
    simp [cells?] at hz
    exact .inl ⟨none, 0, rfl, hz⟩
  | some p =>
    obtain ⟨l, o⟩ := p
    obtain ⟨i, ad, c, hi, rfl, hq, hnc, hu, _⟩ := hx
    obtain ⟨i', hi', hlen, xs, his, hcell⟩ := h.cells hz
    rw [hi] at hi'; cases hi'
    simp at hlen
    subst hlen
    have hxs := ints_of his
    subst hxs
    cases zs with
    | nil => exact .inl ⟨_, c, rfl, rfl⟩
    | cons z zs =>
      have hq := hq.resolve_right (by simp at hnc; omega)
      subst hq
      refine .inr ⟨i.b, i.p + o, c, rfl, ?_, fun j hj => ?_⟩
      · have := hcell 0 (.int .i64 z) (by simp)
        rcases Nat.lt_or_ge i.b w.heap.size with h1 | h1
        · exact h1
        · simp [World.cell?, Array.getElem?_eq_none h1] at this
      · exact hcell j _ (by rw [List.getElem?_map, List.getElem?_eq_getElem hj]; simp)

set_option maxRecDepth 100000 in
theorem slices_AppendSeq__int_int_ok : SoundC Tryz.prog 139 slices_AppendSeq__int_int := by
  intro as0 H Q ⟨l, t, cs, a, n, zs, e, hl, h0, hz, hlim, hQ1, hQ2⟩ φ w vs hr ha
  subst e
  obtain ⟨x, y, rfl, hx, hy⟩ := ha.two
  obtain ⟨_, rfl⟩ := hx
  obtain ⟨xs, rfl, hc⟩ := hy
  obtain ⟨p, rfl, i, hi, rfl⟩ := hc.one
  obtain ⟨i', hi', hrow⟩ := hr.row l true t cs hl
  rw [hi] at hi'; cases hi'
  obtain ⟨_, hu, hlt, hp, c, t', fz, hb, _, hs, _, hle, his⟩ := hrow
  obtain ⟨sv, hsv, hvx⟩ := his.get h0
  have hcell : w.cell? ⟨i.b, 0, none⟩ = some sv := by
    rw [cell_of hb]
    rw [List.getElem?_take] at hsv
    split at hsv
    · simpa using hsv
    · simp at hsv
  have e0 : i.p + 0 = 0 := by omega
  show CallsC Tryz.prog 139 #[.slice none 0 0, .func (.func 138) #[] #[.pointer (some ⟨i.b, i.p + 0, none⟩)]] w _
  rw [e0]
  refine .inl ⟨enters_of Tryz.func139 (by kernel_rfl) rfl _ _, ?_⟩
  refine ((callsIn_wide (n := 3)).1 (Uq.appendSeq_in Fence.wide 3 trivial trivial rfl (by omega) i.b sv zs hlim w hlt hcell (ints_at hr hz hvx))).mono ?_
  rintro e w' ⟨v, rfl, ⟨_, hown⟩, hnil, hbel⟩
  by_cases hze : zs = []
  · exact ⟨_, H, φ, v, hQ1 hze, rfl, ⟨rfl, hnil.2 hze⟩, Back.stay hr hbel⟩
  · rcases hown with ⟨rfl, h1⟩ | ⟨g, cap, cur, rfl, hg, hgb, h1, h2, h3, h4⟩
    · exact (hze (hnil.1 rfl)).elim
    · have B := Back.made (cs := zs.map (GV.int .i64)) hr hbel hg hgb (by simpa using h3) (by simpa using h1) (by rw [List.length_map, ← Nat.mul_one zs.length, h4]; exact ints_is φ zs)
      refine ⟨_, _, _, _, hQ2 hze, rfl, ?_, B⟩
      refine ⟨⟨g, 0, true, (zs.map (GV.int .i64)).length, cap⟩, _, cap, ?_, rfl, .inl rfl, h1, by simp; omega, fun _ => ⟨rfl, by simp, by unfold maxLen at h2; exact h2⟩⟩
      show (φ ++ [_])[ln H]? = _
      rw [show ln H = φ.length from hr.len.symm]
      simp

/-- slices.Sort of numbers, in place -/
def slices_Sort__int_int : Sm := fun xs H Q => (xs = [.g (.sl none 0 1)] ∧ Q (.tup []) H) ∨
  ∃ l zs, xs = [.g (.sl (some (l, 0)) zs.length 1)] ∧ zs ≠ [] ∧ zs.length * 8 ≤ Lim ∧ H[l]? = some (.row true 3 (zs.map (GV.int .i64))) ∧ Q (.tup []) (H.set l (.row true 3 ((zs.mergeSort fun x y => decide (x ≤ y)).map (GV.int .i64))))

theorem slices_Sort__int_int_ok : SoundC Tryz.prog 137 slices_Sort__int_int := by
  intro as0 H Q hS φ w vs hr ha
  rcases hS with ⟨rfl, hQ⟩ | ⟨l, zs, rfl, hne, hlim, hl, hQ⟩
  · obtain ⟨x, rfl, hx⟩ := ha.one
    obtain ⟨_, rfl⟩ := hx
    refine .inl ⟨enters_of Tryz.func137 (by kernel_rfl) rfl _ _, ?_⟩
    refine (AnyM.slices_Sort_int_none Uq.sortA none 0 w).mono ?_
    rintro e w' ⟨rfl, rfl⟩
    exact ⟨_, H, φ, _, hQ, rfl, ⟨#[], rfl, .nil⟩, Back.refl hr⟩
  · obtain ⟨x, rfl, hx⟩ := ha.one
    obtain ⟨i, ad, c, hi, rfl, hq, hnc, hu, ho⟩ := hx
    obtain ⟨i', hi', hrow⟩ := hr.row l true 3 _ hl
    rw [hi] at hi'; cases hi'
    obtain ⟨ho', hu', hlt, hp, cur, t', fz, hb, ht', hs, hfz, hle, his⟩ := hrow
    have hzl : 0 < zs.length := List.length_pos_iff.2 hne
    have hq' : ad = ⟨i.b, 0, none⟩ := by
      rcases hq with h | h
      · rw [h, hp]
      · omega
    subst hq'
    have hcur : cur.toList.take zs.length = zs.map (Value.int .i64) := by
      have := ints_of his
      rwa [List.length_map] at this
    have hH : Holds (Value.int .i64) w i.b 0 zs.toArray := by
      intro j hj
      have hj' : j < zs.length := by simpa using hj
      rw [Nat.zero_add]
      constructor
      · rw [cell_of hb]
        have h1 : (cur.toList.take zs.length)[j]? = (zs.map (Value.int .i64))[j]? := by rw [hcur]
        rw [List.getElem?_take_of_lt hj', List.getElem?_map, List.getElem?_eq_getElem hj'] at h1
        simp at h1
        rw [h1]
        simp [hj']
      · simp only [World.frozen?, hb]
        simp only [List.length_map] at hle
        by_cases h1 : fz.1 ≤ j
        · by_cases h2 : j < fz.2
          · have := (hfz j h1 h2).1; omega
          · simp; omega
        · simp; omega
    refine .inl ⟨enters_of Tryz.func137 (by kernel_rfl) rfl _ _, ?_⟩
    refine (AnyM.slices_Sort_int Uq.sortA i.b 0 c zs w hH hlt (by unfold Lim at hlim; omega)).mono ?_
    rintro e w' ⟨rfl, k, os, rfl⟩
    have hlen : (zs.mergeSort fun x y => decide (x ≤ y)).length = zs.length := by simp
    refine ⟨_, _, φ, _, hQ, rfl, ⟨#[], rfl, .nil⟩, ?_⟩
    have hg := grownBy_sorted_i (w := w) (g := i.b) (n := k) (os := os) (zs.mergeSort fun x y => decide (x ≤ y)).toArray
    refine Back.turn hr hl hi (by simp at hle; omega) ⟨hg.os, hg.tape, hg.output, hg.size, fun b h1 h2 => hg.block b h1 (fun e => h2 (by cases e; rfl))⟩ ?_
    have hb' := heap_sorted_i (n := k) (os := os) (zs.mergeSort fun x y => decide (x ≤ y)).toArray hb
    refine ⟨ho', by simp [hu'], (Array.getElem?_eq_some_iff.1 hb').1, hp, _, t', fz, hb', ht', by simp [putCells, hs], hfz, by simp [putCells]; simpa using hle, ?_⟩
    have htk := take_putCells_i cur (zs.mergeSort fun x y => decide (x ≤ y)) (by simpa using hle)
    rw [List.length_map, htk]
    exact ints_is φ _
end Go.Am
namespace Go.Am
/-! 117: cryostat/page.rising -/
def page_rising.cx : Cx := ⟨tys, [], [(2, [0, 3])], [], [], noDyn, [.tmp 2]⟩
def page_rising : Sm := fun xs H Q => ∃ k, callK (page_rising.cx) Go.Proofs.Tryz.f117 k xs H Q
def page_rising.l2 (k : Nat) (xx0 : Pl) (nx1 : Nat) (ix2 : Int) (H : Hp) (Q : Post) : Prop := loopK (page_rising.cx) Go.Proofs.Tryz.f117 2 k ((.g (.sl xx0 nx1 1)) :: .bad :: .bad :: (.g (.int .i64 ix2)) :: B 16 ([])) H Q
theorem page_rising_eq (k : Nat) (z0 : Pl) (z0n : Nat) (H : Hp) (Q : Post) : callK (page_rising.cx) Go.Proofs.Tryz.f117 (k + 1) [.g (.sl z0 z0n 1)] H Q = (
 page_rising.l2 k z0 z0n 1 H Q) := by kernel_rfl
theorem page_rising.l2_eq (k : Nat) (xx0 : Pl) (nx1 : Nat) (ix2 : Int) (H : Hp) (Q : Post) : page_rising.l2 (k + 1) xx0 nx1 ix2 H Q = (
 bite (ltI ix2 (nI nx1))
 (chk true (chk ((leI 0 (wrapI .i64 (ix2 - 1))) && (ltI (wrapI .i64 (ix2 - 1)) (nI nx1))) (pS xx0 fun n0 n1 =>
  rd H n0 (n1 + ((tN (wrapI .i64 (ix2 - 1))) * 1)) fun v2 =>
  dS v2 fun s3 =>
  chk true (chk ((leI 0 ix2) && (ltI ix2 (nI nx1))) (pS xx0 fun n4 n5 =>
  rd H n4 (n5 + ((tN ix2) * 1)) fun v6 =>
  dS v6 fun s7 =>
  bite (!(strLt s3 s7))
  (Q (.g (.bool false)) H)
  (page_rising.l2 k xx0 nx1 (wrapI .i64 (ix2 + 1)) H Q))))))
 (Q (.g (.bool true)) H)) := by kernel_rfl
theorem page_rising_ok : Sound Go.Proofs.Tryz.prog 117 (page_rising) := prog_ok.sound (cx := page_rising.cx) rfl (EnvOK.nil _) (noDyn_ok _) Go.Proofs.Tryz.func117 rfl

/-! 100: slices.IndexFunc[[]string,string] -/
def slices_IndexFunc__string_string.cx (E : Nat → Sm) : Cx := ⟨tys, [], [(2, [0, 1, 7, 8])], [], [], E, [.tmp 4]⟩
def slices_IndexFunc__string_string (E : Nat → Sm) : Sm := fun xs H Q => ∃ k, callK (slices_IndexFunc__string_string.cx E) Go.Proofs.Tryz.f100 k xs H Q
def slices_IndexFunc__string_string.l2 (E : Nat → Sm) (k : Nat) (xx0 : Pl) (nx1 : Nat) (nx2 : Nat) (cx3 : List (Nat × Nat)) (ix4 : Int) (ix5 : Int) (H : Hp) (Q : Post) : Prop := loopK (slices_IndexFunc__string_string.cx E) Go.Proofs.Tryz.f100 2 k ((.g (.sl xx0 nx1 1)) :: (.g (.fn nx2 cx3)) :: B 5 ((.g (.int .i64 ix4)) :: (.g (.int .i64 ix5)) :: B 10 ([]))) H Q
theorem slices_IndexFunc__string_string_eq (E : Nat → Sm) (k : Nat) (z0 : Pl) (z0n : Nat) (z1 : Nat) (z1c : List (Nat × Nat)) (H : Hp) (Q : Post) : callK (slices_IndexFunc__string_string.cx E) Go.Proofs.Tryz.f100 (k + 1) [.g (.sl z0 z0n 1), .g (.fn z1 z1c)] H Q = (
 slices_IndexFunc__string_string.l2 E k z0 z0n z1 z1c (nI z0n) 0 H Q) := by kernel_rfl
theorem slices_IndexFunc__string_string.l2_eq (E : Nat → Sm) (k : Nat) (xx0 : Pl) (nx1 : Nat) (nx2 : Nat) (cx3 : List (Nat × Nat)) (ix4 : Int) (ix5 : Int) (H : Hp) (Q : Post) : slices_IndexFunc__string_string.l2 E (k + 1) xx0 nx1 nx2 cx3 ix4 ix5 H Q = (
 bite (ltI ix5 ix4)
 (chk true (chk ((leI 0 ix5) && (ltI ix5 (nI nx1))) (pS xx0 fun n0 n1 =>
  rd H n0 (n1 + ((tN ix5) * 1)) fun v2 =>
  dS v2 fun s3 =>
  cl (E nx2) (cpl [(.g (.str s3))] cx3) H fun r4 H5 =>
  rG r4 fun v6 =>
  dB v6 fun b7 =>
  bite b7
  (Q (.g (.int .i64 ix5)) H5)
  (slices_IndexFunc__string_string.l2 E k xx0 nx1 nx2 cx3 ix4 (wrapI .i64 (ix5 + 1)) H5 Q))))
 (Q (.g (.int .i64 (-1))) H)) := by kernel_rfl
theorem slices_IndexFunc__string_string_ok (E : Nat → Sm) (hE : ∀ f, SoundC Go.Proofs.Tryz.prog f (E f)) : Sound Go.Proofs.Tryz.prog 100 (slices_IndexFunc__string_string E) := prog_ok.sound (cx := slices_IndexFunc__string_string.cx E) rfl (EnvOK.nil _) hE Go.Proofs.Tryz.func100 rfl

/-! 71: slices.ContainsFunc[[]string,string] -/
def slices_ContainsFunc__string_string.cx (E : Nat → Sm) : Cx := ⟨tys, [], [], [], [(100, (slices_IndexFunc__string_string E))], E, [.tmp 4]⟩
def slices_ContainsFunc__string_string (E : Nat → Sm) : Sm := fun xs H Q => ∃ k, callK (slices_ContainsFunc__string_string.cx E) Go.Proofs.Tryz.f71 k xs H Q
theorem slices_ContainsFunc__string_string_eq (E : Nat → Sm) (k : Nat) (z0 : Pl) (z0n : Nat) (z1 : Nat) (z1c : List (Nat × Nat)) (H : Hp) (Q : Post) : callK (slices_ContainsFunc__string_string.cx E) Go.Proofs.Tryz.f71 (k + 1) [.g (.sl z0 z0n 1), .g (.fn z1 z1c)] H Q = (
 cl (slices_IndexFunc__string_string E) [(.g (.sl z0 z0n 1)), (.g (.fn z1 z1c))] H fun r0 H1 =>
 rG r0 fun v2 =>
 dI .i64 v2 fun i3 =>
 Q (.g (.bool (leI 0 i3))) H1) := by kernel_rfl
theorem slices_ContainsFunc__string_string_ok (E : Nat → Sm) (hE : ∀ f, SoundC Go.Proofs.Tryz.prog f (E f)) : Sound Go.Proofs.Tryz.prog 71 (slices_ContainsFunc__string_string E) := prog_ok.sound (cx := slices_ContainsFunc__string_string.cx E) rfl (EnvOK.cons ((slices_IndexFunc__string_string_ok E hE).c ⟨_, Go.Proofs.Tryz.func100, by kernel_rfl, by kernel_rfl⟩) (EnvOK.nil _)) hE Go.Proofs.Tryz.func71 rfl

/-! 127: cryostat/page.all[string]$1 -/
def page_all_string_1.cx (E : Nat → Sm) : Cx := ⟨tys, [], [], [], [], E, [.tmp 3]⟩
def page_all_string_1 (E : Nat → Sm) : Sm := fun xs H Q => ∃ k, callK (page_all_string_1.cx E) Go.Proofs.Tryz.f127 k xs H Q
theorem page_all_string_1_eq (E : Nat → Sm) (k : Nat) (z0 : ByteArray) (z1 : Nat) (z1o : Nat) (H : Hp) (Q : Post) : callK (page_all_string_1.cx E) Go.Proofs.Tryz.f127 (k + 1) [.g (.str z0), .g (.ptr (some (z1, z1o)))] H Q = (
 rd H z1 z1o fun v0 =>
 dF v0 fun n1 c2 =>
 cl (E n1) (cpl [(.g (.str z0))] c2) H fun r3 H4 =>
 rG r3 fun v5 =>
 dB v5 fun b6 =>
 Q (.g (.bool (!b6))) H4) := by kernel_rfl
theorem page_all_string_1_ok (E : Nat → Sm) (hE : ∀ f, SoundC Go.Proofs.Tryz.prog f (E f)) : Sound Go.Proofs.Tryz.prog 127 (page_all_string_1 E) := prog_ok.sound (cx := page_all_string_1.cx E) rfl (EnvOK.nil _) hE Go.Proofs.Tryz.func127 rfl

/-! 118: cryostat/page.all[string] -/
def page_all_string.cx (E : Nat → Sm) : Cx := ⟨tys, [3], [], [], [(71, (slices_ContainsFunc__string_string (dynOf [(127, (page_all_string_1 E))])))], E, [.tmp 4]⟩
def page_all_string (E : Nat → Sm) : Sm := fun xs H Q => ∃ k, callK (page_all_string.cx E) Go.Proofs.Tryz.f118 k xs H Q
theorem page_all_string_eq (E : Nat → Sm) (k : Nat) (z0 : Pl) (z0n : Nat) (z1 : Nat) (z1c : List (Nat × Nat)) (H : Hp) (Q : Post) : callK (page_all_string.cx E) Go.Proofs.Tryz.f118 (k + 1) [.g (.sl z0 z0n 1), .g (.fn z1 z1c)] H Q = (
 cl (slices_ContainsFunc__string_string (dynOf [(127, (page_all_string_1 E))])) [(.g (.sl z0 z0n 1)), (.g (.fn 127 [((ln H), 0)]))] (pu H (.row true 92 [(.fn z1 z1c)])) fun r0 H1 =>
 rG r0 fun v2 =>
 dB v2 fun b3 =>
 Q (.g (.bool (!b3))) H1) := by kernel_rfl
theorem page_all_string_ok (E : Nat → Sm) (hE : ∀ f, SoundC Go.Proofs.Tryz.prog f (E f)) : Sound Go.Proofs.Tryz.prog 118 (page_all_string E) := prog_ok.sound (cx := page_all_string.cx E) rfl (EnvOK.cons ((slices_ContainsFunc__string_string_ok (dynOf [(127, (page_all_string_1 E))]) (dynOf_ok (EnvOK.cons ((page_all_string_1_ok E hE).c ⟨_, Go.Proofs.Tryz.func127, by kernel_rfl, by kernel_rfl⟩) (EnvOK.nil _)))).c ⟨_, Go.Proofs.Tryz.func71, by kernel_rfl, by kernel_rfl⟩) (EnvOK.nil _)) hE Go.Proofs.Tryz.func118 rfl

/-! 135: slices.IndexFunc[[]int,int] -/
def slices_IndexFunc__int_int.cx (E : Nat → Sm) : Cx := ⟨tys, [], [(2, [0, 1, 7, 8])], [], [], E, [.tmp 4]⟩
def slices_IndexFunc__int_int (E : Nat → Sm) : Sm := fun xs H Q => ∃ k, callK (slices_IndexFunc__int_int.cx E) Go.Proofs.Tryz.f135 k xs H Q
def slices_IndexFunc__int_int.l2 (E : Nat → Sm) (k : Nat) (xx0 : Pl) (nx1 : Nat) (nx2 : Nat) (cx3 : List (Nat × Nat)) (ix4 : Int) (ix5 : Int) (H : Hp) (Q : Post) : Prop := loopK (slices_IndexFunc__int_int.cx E) Go.Proofs.Tryz.f135 2 k ((.g (.sl xx0 nx1 1)) :: (.g (.fn nx2 cx3)) :: B 5 ((.g (.int .i64 ix4)) :: (.g (.int .i64 ix5)) :: B 10 ([]))) H Q
theorem slices_IndexFunc__int_int_eq (E : Nat → Sm) (k : Nat) (z0 : Pl) (z0n : Nat) (z1 : Nat) (z1c : List (Nat × Nat)) (H : Hp) (Q : Post) : callK (slices_IndexFunc__int_int.cx E) Go.Proofs.Tryz.f135 (k + 1) [.g (.sl z0 z0n 1), .g (.fn z1 z1c)] H Q = (
 slices_IndexFunc__int_int.l2 E k z0 z0n z1 z1c (nI z0n) 0 H Q) := by kernel_rfl
theorem slices_IndexFunc__int_int.l2_eq (E : Nat → Sm) (k : Nat) (xx0 : Pl) (nx1 : Nat) (nx2 : Nat) (cx3 : List (Nat × Nat)) (ix4 : Int) (ix5 : Int) (H : Hp) (Q : Post) : slices_IndexFunc__int_int.l2 E (k + 1) xx0 nx1 nx2 cx3 ix4 ix5 H Q = (
 bite (ltI ix5 ix4)
 (chk true (chk ((leI 0 ix5) && (ltI ix5 (nI nx1))) (pS xx0 fun n0 n1 =>
  rd H n0 (n1 + ((tN ix5) * 1)) fun v2 =>
  dI .i64 v2 fun i3 =>
  cl (E nx2) (cpl [(.g (.int .i64 i3))] cx3) H fun r4 H5 =>
  rG r4 fun v6 =>
  dB v6 fun b7 =>
  bite b7
  (Q (.g (.int .i64 ix5)) H5)
  (slices_IndexFunc__int_int.l2 E k xx0 nx1 nx2 cx3 ix4 (wrapI .i64 (ix5 + 1)) H5 Q))))
 (Q (.g (.int .i64 (-1))) H)) := by kernel_rfl
theorem slices_IndexFunc__int_int_ok (E : Nat → Sm) (hE : ∀ f, SoundC Go.Proofs.Tryz.prog f (E f)) : Sound Go.Proofs.Tryz.prog 135 (slices_IndexFunc__int_int E) := prog_ok.sound (cx := slices_IndexFunc__int_int.cx E) rfl (EnvOK.nil _) hE Go.Proofs.Tryz.func135 rfl

/-! 128: slices.ContainsFunc[[]int,int] -/
def slices_ContainsFunc__int_int.cx (E : Nat → Sm) : Cx := ⟨tys, [], [], [], [(135, (slices_IndexFunc__int_int E))], E, [.tmp 4]⟩
def slices_ContainsFunc__int_int (E : Nat → Sm) : Sm := fun xs H Q => ∃ k, callK (slices_ContainsFunc__int_int.cx E) Go.Proofs.Tryz.f128 k xs H Q
theorem slices_ContainsFunc__int_int_eq (E : Nat → Sm) (k : Nat) (z0 : Pl) (z0n : Nat) (z1 : Nat) (z1c : List (Nat × Nat)) (H : Hp) (Q : Post) : callK (slices_ContainsFunc__int_int.cx E) Go.Proofs.Tryz.f128 (k + 1) [.g (.sl z0 z0n 1), .g (.fn z1 z1c)] H Q = (
 cl (slices_IndexFunc__int_int E) [(.g (.sl z0 z0n 1)), (.g (.fn z1 z1c))] H fun r0 H1 =>
 rG r0 fun v2 =>
 dI .i64 v2 fun i3 =>
 Q (.g (.bool (leI 0 i3))) H1) := by kernel_rfl
theorem slices_ContainsFunc__int_int_ok (E : Nat → Sm) (hE : ∀ f, SoundC Go.Proofs.Tryz.prog f (E f)) : Sound Go.Proofs.Tryz.prog 128 (slices_ContainsFunc__int_int E) := prog_ok.sound (cx := slices_ContainsFunc__int_int.cx E) rfl (EnvOK.cons ((slices_IndexFunc__int_int_ok E hE).c ⟨_, Go.Proofs.Tryz.func135, by kernel_rfl, by kernel_rfl⟩) (EnvOK.nil _)) hE Go.Proofs.Tryz.func128 rfl

/-! 129: cryostat/page.all[int]$1 -/
def page_all_int_1.cx (E : Nat → Sm) : Cx := ⟨tys, [], [], [], [], E, [.tmp 3]⟩
def page_all_int_1 (E : Nat → Sm) : Sm := fun xs H Q => ∃ k, callK (page_all_int_1.cx E) Go.Proofs.Tryz.f129 k xs H Q
theorem page_all_int_1_eq (E : Nat → Sm) (k : Nat) (z0 : Int) (z1 : Nat) (z1o : Nat) (H : Hp) (Q : Post) : callK (page_all_int_1.cx E) Go.Proofs.Tryz.f129 (k + 1) [.g (.int .i64 z0), .g (.ptr (some (z1, z1o)))] H Q = (
 rd H z1 z1o fun v0 =>
 dF v0 fun n1 c2 =>
 cl (E n1) (cpl [(.g (.int .i64 z0))] c2) H fun r3 H4 =>
 rG r3 fun v5 =>
 dB v5 fun b6 =>
 Q (.g (.bool (!b6))) H4) := by kernel_rfl
theorem page_all_int_1_ok (E : Nat → Sm) (hE : ∀ f, SoundC Go.Proofs.Tryz.prog f (E f)) : Sound Go.Proofs.Tryz.prog 129 (page_all_int_1 E) := prog_ok.sound (cx := page_all_int_1.cx E) rfl (EnvOK.nil _) hE Go.Proofs.Tryz.func129 rfl

/-! 119: cryostat/page.all[int] -/
def page_all_int.cx (E : Nat → Sm) : Cx := ⟨tys, [3], [], [], [(128, (slices_ContainsFunc__int_int (dynOf [(129, (page_all_int_1 E))])))], E, [.tmp 4]⟩
def page_all_int (E : Nat → Sm) : Sm := fun xs H Q => ∃ k, callK (page_all_int.cx E) Go.Proofs.Tryz.f119 k xs H Q
theorem page_all_int_eq (E : Nat → Sm) (k : Nat) (z0 : Pl) (z0n : Nat) (z1 : Nat) (z1c : List (Nat × Nat)) (H : Hp) (Q : Post) : callK (page_all_int.cx E) Go.Proofs.Tryz.f119 (k + 1) [.g (.sl z0 z0n 1), .g (.fn z1 z1c)] H Q = (
 cl (slices_ContainsFunc__int_int (dynOf [(129, (page_all_int_1 E))])) [(.g (.sl z0 z0n 1)), (.g (.fn 129 [((ln H), 0)]))] (pu H (.row true 125 [(.fn z1 z1c)])) fun r0 H1 =>
 rG r0 fun v2 =>
 dB v2 fun b3 =>
 Q (.g (.bool (!b3))) H1) := by kernel_rfl
theorem page_all_int_ok (E : Nat → Sm) (hE : ∀ f, SoundC Go.Proofs.Tryz.prog f (E f)) : Sound Go.Proofs.Tryz.prog 119 (page_all_int E) := prog_ok.sound (cx := page_all_int.cx E) rfl (EnvOK.cons ((slices_ContainsFunc__int_int_ok (dynOf [(129, (page_all_int_1 E))]) (dynOf_ok (EnvOK.cons ((page_all_int_1_ok E hE).c ⟨_, Go.Proofs.Tryz.func129, by kernel_rfl, by kernel_rfl⟩) (EnvOK.nil _)))).c ⟨_, Go.Proofs.Tryz.func128, by kernel_rfl, by kernel_rfl⟩) (EnvOK.nil _)) hE Go.Proofs.Tryz.func119 rfl

/-! 131: slices.Values[[]int,int] -/
def slices_Values__int_int.cx (E : Nat → Sm) : Cx := ⟨tys, [1], [], [], [], E, [.tmp 2]⟩
def slices_Values__int_int (E : Nat → Sm) : Sm := fun xs H Q => ∃ k, callK (slices_Values__int_int.cx E) Go.Proofs.Tryz.f131 k xs H Q
theorem slices_Values__int_int_eq (E : Nat → Sm) (k : Nat) (z0 : Pl) (z0n : Nat) (H : Hp) (Q : Post) : callK (slices_Values__int_int.cx E) Go.Proofs.Tryz.f131 (k + 1) [.g (.sl z0 z0n 1)] H Q = (
 Q (.g (.fn 138 [((ln H), 0)])) (pu H (.row true 73 [(.sl z0 z0n 1)]))) := by kernel_rfl
theorem slices_Values__int_int_ok (E : Nat → Sm) (hE : ∀ f, SoundC Go.Proofs.Tryz.prog f (E f)) : Sound Go.Proofs.Tryz.prog 131 (slices_Values__int_int E) := prog_ok.sound (cx := slices_Values__int_int.cx E) rfl (EnvOK.nil _) hE Go.Proofs.Tryz.func131 rfl

/-! 136: slices.Collect[int] -/
def slices_Collect_int.cx : Cx := ⟨tys, [], [], [], [(139, slices_AppendSeq__int_int)], noDyn, [.tmp 2]⟩
def slices_Collect_int : Sm := fun xs H Q => ∃ k, callK (slices_Collect_int.cx) Go.Proofs.Tryz.f136 k xs H Q
theorem slices_Collect_int_eq (k : Nat) (z0 : Nat) (z0c : List (Nat × Nat)) (H : Hp) (Q : Post) : callK (slices_Collect_int.cx) Go.Proofs.Tryz.f136 (k + 1) [.g (.fn z0 z0c)] H Q = (
 cl slices_AppendSeq__int_int [(.g (.sl none 0 1)), (.g (.fn z0 z0c))] H fun r0 H1 =>
 rG r0 fun v2 =>
 dL 1 v2 fun x3 n4 =>
 Q (.g (.sl x3 n4 1)) H1) := by kernel_rfl
theorem slices_Collect_int_ok : Sound Go.Proofs.Tryz.prog 136 (slices_Collect_int) := prog_ok.sound (cx := slices_Collect_int.cx) rfl (EnvOK.cons (slices_AppendSeq__int_int_ok) (EnvOK.nil _)) (noDyn_ok _) Go.Proofs.Tryz.func136 rfl

/-! 130: slices.Sorted[int] -/
def slices_Sorted_int.cx : Cx := ⟨tys, [], [], [], [(136, slices_Collect_int), (137, slices_Sort__int_int)], noDyn, [.tmp 2]⟩
def slices_Sorted_int : Sm := fun xs H Q => ∃ k, callK (slices_Sorted_int.cx) Go.Proofs.Tryz.f130 k xs H Q
theorem slices_Sorted_int_eq (k : Nat) (z0 : Nat) (z0c : List (Nat × Nat)) (H : Hp) (Q : Post) : callK (slices_Sorted_int.cx) Go.Proofs.Tryz.f130 (k + 1) [.g (.fn z0 z0c)] H Q = (
 cl slices_Collect_int [(.g (.fn z0 z0c))] H fun r0 H1 =>
 rG r0 fun v2 =>
 dL 1 v2 fun x3 n4 =>
 cl slices_Sort__int_int [(.g (.sl x3 n4 1))] H1 fun r5 H6 =>
 Q (.g (.sl x3 n4 1)) H6) := by kernel_rfl
theorem slices_Sorted_int_ok : Sound Go.Proofs.Tryz.prog 130 (slices_Sorted_int) := prog_ok.sound (cx := slices_Sorted_int.cx) rfl (EnvOK.cons ((slices_Collect_int_ok).c ⟨_, Go.Proofs.Tryz.func136, by kernel_rfl, by kernel_rfl⟩) (EnvOK.cons (slices_Sort__int_int_ok) (EnvOK.nil _))) (noDyn_ok _) Go.Proofs.Tryz.func130 rfl

/-! 132: slices.Compact[[]int,int] -/
def slices_Compact__int_int.cx : Cx := ⟨tys, [], [(4, [0, 3]), (9, [0, 3, 4, 5])], [], [], noDyn, [.tmp 2]⟩
def slices_Compact__int_int : Sm := fun xs H Q => ∃ k, callK (slices_Compact__int_int.cx) Go.Proofs.Tryz.f132 k xs H Q
def slices_Compact__int_int.l4 (k : Nat) (xx0 : Pl) (nx1 : Nat) (ix2 : Int) (H : Hp) (Q : Post) : Prop := loopK (slices_Compact__int_int.cx) Go.Proofs.Tryz.f132 4 k ((.g (.sl xx0 nx1 1)) :: .bad :: .bad :: (.g (.int .i64 ix2)) :: B 57 ([])) H Q
def slices_Compact__int_int.l9 (k : Nat) (xx0 : Pl) (nx1 : Nat) (ix2 : Int) (xx3 : Pl) (nx4 : Nat) (ix5 : Int) (H : Hp) (Q : Post) : Prop := loopK (slices_Compact__int_int.cx) Go.Proofs.Tryz.f132 9 k ((.g (.sl xx0 nx1 1)) :: .bad :: .bad :: (.g (.int .i64 ix2)) :: (.g (.sl xx3 nx4 1)) :: (.g (.int .i64 ix5)) :: B 55 ([])) H Q
theorem slices_Compact__int_int_eq (k : Nat) (z0 : Pl) (z0n : Nat) (H : Hp) (Q : Post) : callK (slices_Compact__int_int.cx) Go.Proofs.Tryz.f132 (k + 1) [.g (.sl z0 z0n 1)] H Q = (
 bite (ltI (nI z0n) 2)
 (Q (.g (.sl z0 z0n 1)) H)
 (slices_Compact__int_int.l4 k z0 z0n 1 H Q)) := by kernel_rfl
theorem slices_Compact__int_int.l4_eq (k : Nat) (xx0 : Pl) (nx1 : Nat) (ix2 : Int) (H : Hp) (Q : Post) : slices_Compact__int_int.l4 (k + 1) xx0 nx1 ix2 H Q = (
 bite (ltI ix2 (nI nx1))
 (chk true (chk ((leI 0 ix2) && (ltI ix2 (nI nx1))) (pS xx0 fun n0 n1 =>
  rd H n0 (n1 + ((tN ix2) * 1)) fun v2 =>
  dI .i64 v2 fun i3 =>
  chk true (chk ((leI 0 (wrapI .i64 (ix2 - 1))) && (ltI (wrapI .i64 (ix2 - 1)) (nI nx1))) (pS xx0 fun n4 n5 =>
  rd H n4 (n5 + ((tN (wrapI .i64 (ix2 - 1))) * 1)) fun v6 =>
  dI .i64 v6 fun i7 =>
  bite (eqI i3 i7)
  (chk true (chk (leI 0 ix2) (chk (leN (tN ix2) nx1) (slices_Compact__int_int.l9 k xx0 nx1 ix2 (shf xx0 ((tN ix2) * 1)) (nx1 - (tN ix2)) 1 H Q))))
  (slices_Compact__int_int.l4 k xx0 nx1 (wrapI .i64 (ix2 + 1)) H Q))))))
 (Q (.g (.sl xx0 nx1 1)) H)) := by kernel_rfl
theorem slices_Compact__int_int.l9_eq (k : Nat) (xx0 : Pl) (nx1 : Nat) (ix2 : Int) (xx3 : Pl) (nx4 : Nat) (ix5 : Int) (H : Hp) (Q : Post) : slices_Compact__int_int.l9 (k + 1) xx0 nx1 ix2 xx3 nx4 ix5 H Q = (
 bite (ltI ix5 (nI nx4))
 (chk true (chk ((leI 0 ix5) && (ltI ix5 (nI nx4))) (pS xx3 fun n0 n1 =>
  rd H n0 (n1 + ((tN ix5) * 1)) fun v2 =>
  dI .i64 v2 fun i3 =>
  chk true (chk ((leI 0 (wrapI .i64 (ix5 - 1))) && (ltI (wrapI .i64 (ix5 - 1)) (nI nx4))) (pS xx3 fun n4 n5 =>
  rd H n4 (n5 + ((tN (wrapI .i64 (ix5 - 1))) * 1)) fun v6 =>
  dI .i64 v6 fun i7 =>
  bite (!(eqI i3 i7))
  (chk true (chk ((leI 0 ix5) && (ltI ix5 (nI nx4))) (pS xx3 fun n8 n9 =>
   rd H n8 (n9 + ((tN ix5) * 1)) fun v10 =>
   dI .i64 v10 fun i11 =>
   chk true (chk ((leI 0 ix2) && (ltI ix2 (nI nx1))) (pS xx0 fun n12 n13 =>
   wr H n12 (n13 + ((tN ix2) * 1)) (.int .i64 i11) fun H14 =>
   slices_Compact__int_int.l9 k xx0 nx1 (wrapI .i64 (ix2 + 1)) xx3 nx4 (wrapI .i64 (ix5 + 1)) H14 Q)))))
  (slices_Compact__int_int.l9 k xx0 nx1 ix2 xx3 nx4 (wrapI .i64 (ix5 + 1)) H Q))))))
 (chk true (chk (leI 0 ix2) (chk (leN (tN ix2) nx1) (chk true (clr H (shf xx0 ((tN ix2) * 1)) (nx1 - (tN ix2)) [(.int .i64 0)] fun H15 =>
  chk true (chk (leI 0 ix2) (chk ((leN 0 (tN ix2)) && ((leN (tN ix2) nx1) || (room H15 xx0 ((tN ix2) * 1)))) (Q (.g (.sl (shf xx0 0) ((tN ix2) - 0) 1)) H15))))))))) := by kernel_rfl
theorem slices_Compact__int_int_ok : Sound Go.Proofs.Tryz.prog 132 (slices_Compact__int_int) := prog_ok.sound (cx := slices_Compact__int_int.cx) rfl (EnvOK.nil _) (noDyn_ok _) Go.Proofs.Tryz.func132 rfl

/-! 121: cryostat/page.unlike -/
def page_unlike.cx (E : Nat → Sm) : Cx := ⟨tys, [], [], [], [(131, (slices_Values__int_int E)), (130, slices_Sorted_int), (132, slices_Compact__int_int)], E, [.tmp 2]⟩
def page_unlike (E : Nat → Sm) : Sm := fun xs H Q => ∃ k, callK (page_unlike.cx E) Go.Proofs.Tryz.f121 k xs H Q
theorem page_unlike_eq (E : Nat → Sm) (k : Nat) (z0 : Pl) (z0n : Nat) (H : Hp) (Q : Post) : callK (page_unlike.cx E) Go.Proofs.Tryz.f121 (k + 1) [.g (.sl z0 z0n 1)] H Q = (
 cl (slices_Values__int_int E) [(.g (.sl z0 z0n 1))] H fun r0 H1 =>
 rG r0 fun v2 =>
 cl slices_Sorted_int [(.g v2)] H1 fun r3 H4 =>
 rG r3 fun v5 =>
 dL 1 v5 fun x6 n7 =>
 cl slices_Compact__int_int [(.g (.sl x6 n7 1))] H4 fun r8 H9 =>
 rG r8 fun v10 =>
 dL 1 v10 fun x11 n12 =>
 Q (.g (.bool (eqI (nI n12) (nI z0n)))) H9) := by kernel_rfl
theorem page_unlike_ok (E : Nat → Sm) (hE : ∀ f, SoundC Go.Proofs.Tryz.prog f (E f)) : Sound Go.Proofs.Tryz.prog 121 (page_unlike E) := prog_ok.sound (cx := page_unlike.cx E) rfl (EnvOK.cons ((slices_Values__int_int_ok E hE).c ⟨_, Go.Proofs.Tryz.func131, by kernel_rfl, by kernel_rfl⟩) (EnvOK.cons ((slices_Sorted_int_ok).c ⟨_, Go.Proofs.Tryz.func130, by kernel_rfl, by kernel_rfl⟩) (EnvOK.cons ((slices_Compact__int_int_ok).c ⟨_, Go.Proofs.Tryz.func132, by kernel_rfl, by kernel_rfl⟩) (EnvOK.nil _)))) hE Go.Proofs.Tryz.func121 rfl

/-! 48: cryostat/page.Key -/
def page_Key.cx : Cx := ⟨tys, [], [], [], [], noDyn, [.tmp 2]⟩
def page_Key : Sm := fun xs H Q => ∃ k, callK (page_Key.cx) Go.Proofs.Tryz.f48 k xs H Q
theorem page_Key_eq (k : Nat) (z0 : ByteArray) (H : Hp) (Q : Post) : callK (page_Key.cx) Go.Proofs.Tryz.f48 (k + 1) [.g (.str z0)] H Q = (
 bite (leI 1 (sz z0))
 (Q (.g (.bool (leI (sz z0) 6))) H)
 (Q (.g (.bool false)) H)) := by kernel_rfl
theorem page_Key_ok : Sound Go.Proofs.Tryz.prog 48 (page_Key) := prog_ok.sound (cx := page_Key.cx) rfl (EnvOK.nil _) (noDyn_ok _) Go.Proofs.Tryz.func48 rfl

/-! 49: cryostat/page.Value -/
def page_Value.cx : Cx := ⟨tys, [], [], [], [], noDyn, [.tmp 2]⟩
def page_Value : Sm := fun xs H Q => ∃ k, callK (page_Value.cx) Go.Proofs.Tryz.f49 k xs H Q
theorem page_Value_eq (k : Nat) (z0 : ByteArray) (H : Hp) (Q : Post) : callK (page_Value.cx) Go.Proofs.Tryz.f49 (k + 1) [.g (.str z0)] H Q = (
 Q (.g (.bool (leI (sz z0) 10))) H) := by kernel_rfl
theorem page_Value_ok : Sound Go.Proofs.Tryz.prog 49 (page_Value) := prog_ok.sound (cx := page_Value.cx) rfl (EnvOK.nil _) (noDyn_ok _) Go.Proofs.Tryz.func49 rfl

/-! 120: cryostat/page.Kid -/
def page_Kid.cx : Cx := ⟨tys, [], [], [], [], noDyn, [.tmp 2]⟩
def page_Kid : Sm := fun xs H Q => ∃ k, callK (page_Kid.cx) Go.Proofs.Tryz.f120 k xs H Q
theorem page_Kid_eq (k : Nat) (z0 : Int) (H : Hp) (Q : Post) : callK (page_Kid.cx) Go.Proofs.Tryz.f120 (k + 1) [.g (.int .i64 z0)] H Q = (
 bite (leI 1 z0)
 (Q (.g (.bool (ltI z0 48))) H)
 (Q (.g (.bool false)) H)) := by kernel_rfl
theorem page_Kid_ok : Sound Go.Proofs.Tryz.prog 120 (page_Kid) := prog_ok.sound (cx := page_Kid.cx) rfl (EnvOK.nil _) (noDyn_ok _) Go.Proofs.Tryz.func120 rfl

/-! 98: cryostat/page.Fits -/
def page_Fits.cx : Cx := ⟨tys, [], [], [], [(117, page_rising), (118, (page_all_string (dynOf [(48, page_Key), (49, page_Value), (120, page_Kid)]))), (119, (page_all_int (dynOf [(48, page_Key), (49, page_Value), (120, page_Kid)]))), (121, (page_unlike (dynOf [(48, page_Key), (49, page_Value), (120, page_Kid)])))], noDyn, [.tmp 2]⟩
def page_Fits : Sm := fun xs H Q => ∃ k, callK (page_Fits.cx) Go.Proofs.Tryz.f98 k xs H Q
theorem page_Fits_eq (k : Nat) (z0 : Bool) (z1 : Bool) (z2 : Pl) (z2n : Nat) (z3 : Pl) (z3n : Nat) (z4 : Pl) (z4n : Nat) (H : Hp) (Q : Post) : callK (page_Fits.cx) Go.Proofs.Tryz.f98 (k + 1) [.agg [.bool z0, .bool z1, .sl z2 z2n 1, .sl z3 z3n 1, .sl z4 z4n 1]] H Q = (
 bite (!z0)
 (Q (.g (.bool false)) H)
 (cl page_rising [(.g (.sl z2 z2n 1))] H fun r0 H1 =>
  rG r0 fun v2 =>
  dB v2 fun b3 =>
  bite (!b3)
  (Q (.g (.bool false)) H1)
  (cl (page_all_string (dynOf [(48, page_Key), (49, page_Value), (120, page_Kid)])) [(.g (.sl z2 z2n 1)), (.g (.fn 48 []))] H1 fun r4 H5 =>
   rG r4 fun v6 =>
   dB v6 fun b7 =>
   bite (!b7)
   (Q (.g (.bool false)) H5)
   (bite z1
    (bite (eqI (nI z3n) (nI z2n))
     (bite (eqI (nI z4n) 0)
      (cl (page_all_string (dynOf [(48, page_Key), (49, page_Value), (120, page_Kid)])) [(.g (.sl z3 z3n 1)), (.g (.fn 49 []))] H5 fun r8 H9 =>
       rG r8 fun v10 =>
       dB v10 fun b11 =>
       Q (.g (.bool b11)) H9)
      (Q (.g (.bool false)) H5))
     (Q (.g (.bool false)) H5))
    (bite (leI 1 (nI z2n))
     (bite (eqI (nI z3n) 0)
      (bite (eqI (nI z4n) (wrapI .i64 ((nI z2n) + 1)))
       (cl (page_all_int (dynOf [(48, page_Key), (49, page_Value), (120, page_Kid)])) [(.g (.sl z4 z4n 1)), (.g (.fn 120 []))] H5 fun r12 H13 =>
        rG r12 fun v14 =>
        dB v14 fun b15 =>
        bite b15
        (cl (page_unlike (dynOf [(48, page_Key), (49, page_Value), (120, page_Kid)])) [(.g (.sl z4 z4n 1))] H13 fun r16 H17 =>
         rG r16 fun v18 =>
         dB v18 fun b19 =>
         Q (.g (.bool b19)) H17)
        (Q (.g (.bool false)) H13))
       (Q (.g (.bool false)) H5))
      (Q (.g (.bool false)) H5))
     (Q (.g (.bool false)) H5)))))) := by kernel_rfl
theorem page_Fits_ok : Sound Go.Proofs.Tryz.prog 98 (page_Fits) := prog_ok.sound (cx := page_Fits.cx) rfl (EnvOK.cons ((page_rising_ok).c ⟨_, Go.Proofs.Tryz.func117, by kernel_rfl, by kernel_rfl⟩) (EnvOK.cons ((page_all_string_ok (dynOf [(48, page_Key), (49, page_Value), (120, page_Kid)]) (dynOf_ok (EnvOK.cons ((page_Key_ok).c ⟨_, Go.Proofs.Tryz.func48, by kernel_rfl, by kernel_rfl⟩) (EnvOK.cons ((page_Value_ok).c ⟨_, Go.Proofs.Tryz.func49, by kernel_rfl, by kernel_rfl⟩) (EnvOK.cons ((page_Kid_ok).c ⟨_, Go.Proofs.Tryz.func120, by kernel_rfl, by kernel_rfl⟩) (EnvOK.nil _)))))).c ⟨_, Go.Proofs.Tryz.func118, by kernel_rfl, by kernel_rfl⟩) (EnvOK.cons ((page_all_int_ok (dynOf [(48, page_Key), (49, page_Value), (120, page_Kid)]) (dynOf_ok (EnvOK.cons ((page_Key_ok).c ⟨_, Go.Proofs.Tryz.func48, by kernel_rfl, by kernel_rfl⟩) (EnvOK.cons ((page_Value_ok).c ⟨_, Go.Proofs.Tryz.func49, by kernel_rfl, by kernel_rfl⟩) (EnvOK.cons ((page_Kid_ok).c ⟨_, Go.Proofs.Tryz.func120, by kernel_rfl, by kernel_rfl⟩) (EnvOK.nil _)))))).c ⟨_, Go.Proofs.Tryz.func119, by kernel_rfl, by kernel_rfl⟩) (EnvOK.cons ((page_unlike_ok (dynOf [(48, page_Key), (49, page_Value), (120, page_Kid)]) (dynOf_ok (EnvOK.cons ((page_Key_ok).c ⟨_, Go.Proofs.Tryz.func48, by kernel_rfl, by kernel_rfl⟩) (EnvOK.cons ((page_Value_ok).c ⟨_, Go.Proofs.Tryz.func49, by kernel_rfl, by kernel_rfl⟩) (EnvOK.cons ((page_Kid_ok).c ⟨_, Go.Proofs.Tryz.func120, by kernel_rfl, by kernel_rfl⟩) (EnvOK.nil _)))))).c ⟨_, Go.Proofs.Tryz.func121, by kernel_rfl, by kernel_rfl⟩) (EnvOK.nil _))))) (noDyn_ok _) Go.Proofs.Tryz.func98 rfl

/-! 65: cryostat/page.May -/
def page_May.cx : Cx := ⟨tys, [], [], [], [(98, page_Fits)], noDyn, [.tmp 2]⟩
def page_May : Sm := fun xs H Q => ∃ k, callK (page_May.cx) Go.Proofs.Tryz.f65 k xs H Q
theorem page_May_eq (k : Nat) (z0 : Bool) (z1 : Bool) (z2 : Pl) (z2n : Nat) (z3 : Pl) (z3n : Nat) (z4 : Pl) (z4n : Nat) (H : Hp) (Q : Post) : callK (page_May.cx) Go.Proofs.Tryz.f65 (k + 1) [.agg [.bool z0, .bool z1, .sl z2 z2n 1, .sl z3 z3n 1, .sl z4 z4n 1]] H Q = (
 bite (leI (nI z2n) 4)
 (cl page_Fits [(.agg [(.bool z0), (.bool z1), (.sl z2 z2n 1), (.sl z3 z3n 1), (.sl z4 z4n 1)])] H fun r0 H1 =>
  rG r0 fun v2 =>
  dB v2 fun b3 =>
  Q (.g (.bool b3)) H1)
 (Q (.g (.bool false)) H)) := by kernel_rfl
theorem page_May_ok : Sound Go.Proofs.Tryz.prog 65 (page_May) := prog_ok.sound (cx := page_May.cx) rfl (EnvOK.cons ((page_Fits_ok).c ⟨_, Go.Proofs.Tryz.func98, by kernel_rfl, by kernel_rfl⟩) (EnvOK.nil _)) (noDyn_ok _) Go.Proofs.Tryz.func65 rfl

/-! 122: cryostat/cryostatref1.rising -/
def ref1_rising.cx : Cx := ⟨tys, [], [(2, [0, 3])], [], [], noDyn, [.tmp 2]⟩
def ref1_rising : Sm := fun xs H Q => ∃ k, callK (ref1_rising.cx) Go.Proofs.Tryz.f122 k xs H Q
def ref1_rising.l2 (k : Nat) (xx0 : Pl) (nx1 : Nat) (ix2 : Int) (H : Hp) (Q : Post) : Prop := loopK (ref1_rising.cx) Go.Proofs.Tryz.f122 2 k ((.g (.sl xx0 nx1 1)) :: .bad :: .bad :: (.g (.int .i64 ix2)) :: B 36 ([])) H Q
theorem ref1_rising_eq (k : Nat) (z0 : Pl) (z0n : Nat) (H : Hp) (Q : Post) : callK (ref1_rising.cx) Go.Proofs.Tryz.f122 (k + 1) [.g (.sl z0 z0n 1)] H Q = (
 ref1_rising.l2 k z0 z0n 0 H Q) := by kernel_rfl
theorem ref1_rising.l2_eq (k : Nat) (xx0 : Pl) (nx1 : Nat) (ix2 : Int) (H : Hp) (Q : Post) : ref1_rising.l2 (k + 1) xx0 nx1 ix2 H Q = (
 bite (ltI ix2 (nI nx1))
 (chk true (chk ((leI 0 ix2) && (ltI ix2 (nI nx1))) (pS xx0 fun n0 n1 =>
  rd H n0 (n1 + ((tN ix2) * 1)) fun v2 =>
  dS v2 fun s3 =>
  bite (ltI (sz s3) 1)
  (Q (.g (.bool false)) H)
  (chk true (chk ((leI 0 ix2) && (ltI ix2 (nI nx1))) (pS xx0 fun n4 n5 =>
   rd H n4 (n5 + ((tN ix2) * 1)) fun v6 =>
   dS v6 fun s7 =>
   bite (ltI 6 (sz s7))
   (Q (.g (.bool false)) H)
   (bite (ltI 0 ix2)
    (chk true (chk ((leI 0 ix2) && (ltI ix2 (nI nx1))) (pS xx0 fun n8 n9 =>
     rd H n8 (n9 + ((tN ix2) * 1)) fun v10 =>
     dS v10 fun s11 =>
     chk true (chk ((leI 0 (wrapI .i64 (ix2 - 1))) && (ltI (wrapI .i64 (ix2 - 1)) (nI nx1))) (pS xx0 fun n12 n13 =>
     rd H n12 (n13 + ((tN (wrapI .i64 (ix2 - 1))) * 1)) fun v14 =>
     dS v14 fun s15 =>
     bite ((strLt s11 s15) || (strEq s11 s15))
     (Q (.g (.bool false)) H)
     (ref1_rising.l2 k xx0 nx1 (wrapI .i64 (ix2 + 1)) H Q))))))
    (ref1_rising.l2 k xx0 nx1 (wrapI .i64 (ix2 + 1)) H Q))))))))
 (Q (.g (.bool true)) H)) := by kernel_rfl
theorem ref1_rising_ok : Sound Go.Proofs.Tryz.prog 122 (ref1_rising) := prog_ok.sound (cx := ref1_rising.cx) rfl (EnvOK.nil _) (noDyn_ok _) Go.Proofs.Tryz.func122 rfl

/-! 99: cryostat/cryostatref1.PageWith -/
def ref1_PageWith.cx : Cx := ⟨tys, [], [(5, [2, 5]), (11, [2, 6]), (16, [2, 6, 7])], [], [(122, ref1_rising)], noDyn, [.tmp 4]⟩
def ref1_PageWith : Sm := fun xs H Q => ∃ k, callK (ref1_PageWith.cx) Go.Proofs.Tryz.f99 k xs H Q
def ref1_PageWith.l5 (k : Nat) (bx0 : Bool) (bx1 : Bool) (xx2 : Pl) (nx3 : Nat) (xx4 : Pl) (nx5 : Nat) (xx6 : Pl) (nx7 : Nat) (ix8 : Int) (H : Hp) (Q : Post) : Prop := loopK (ref1_PageWith.cx) Go.Proofs.Tryz.f99 5 k (.bad :: .bad :: (.bx [(.bool bx0), (.bool bx1), (.sl xx2 nx3 1), (.sl xx4 nx5 1), (.sl xx6 nx7 1)]) :: .bad :: .bad :: (.g (.int .i64 ix8)) :: B 104 ([])) H Q
def ref1_PageWith.l11 (k : Nat) (bx0 : Bool) (bx1 : Bool) (xx2 : Pl) (nx3 : Nat) (xx4 : Pl) (nx5 : Nat) (xx6 : Pl) (nx7 : Nat) (ix8 : Int) (H : Hp) (Q : Post) : Prop := loopK (ref1_PageWith.cx) Go.Proofs.Tryz.f99 11 k (.bad :: .bad :: (.bx [(.bool bx0), (.bool bx1), (.sl xx2 nx3 1), (.sl xx4 nx5 1), (.sl xx6 nx7 1)]) :: B 3 ((.g (.int .i64 ix8)) :: B 103 ([]))) H Q
def ref1_PageWith.l16 (k : Nat) (bx0 : Bool) (bx1 : Bool) (xx2 : Pl) (nx3 : Nat) (xx4 : Pl) (nx5 : Nat) (xx6 : Pl) (nx7 : Nat) (ix8 : Int) (ix9 : Int) (H : Hp) (Q : Post) : Prop := loopK (ref1_PageWith.cx) Go.Proofs.Tryz.f99 16 k (.bad :: .bad :: (.bx [(.bool bx0), (.bool bx1), (.sl xx2 nx3 1), (.sl xx4 nx5 1), (.sl xx6 nx7 1)]) :: B 3 ((.g (.int .i64 ix8)) :: (.g (.int .i64 ix9)) :: B 102 ([]))) H Q
theorem ref1_PageWith_eq (k : Nat) (z0 : Bool) (z1 : Bool) (z2 : Pl) (z2n : Nat) (z3 : Pl) (z3n : Nat) (z4 : Pl) (z4n : Nat) (z5 : Int) (H : Hp) (Q : Post) : callK (ref1_PageWith.cx) Go.Proofs.Tryz.f99 (k + 1) [.agg [.bool z0, .bool z1, .sl z2 z2n 1, .sl z3 z3n 1, .sl z4 z4n 1], .g (.int .i64 z5)] H Q = (
 bite (!z0)
 (Q (.g (.bool false)) H)
 (cl ref1_rising [(.g (.sl z2 z2n 1))] H fun r0 H1 =>
  rG r0 fun v2 =>
  dB v2 fun b3 =>
  bite (!b3)
  (Q (.g (.bool false)) H1)
  (bite (ltI z5 (nI z2n))
   (Q (.g (.bool false)) H1)
   (bite z1
    (ref1_PageWith.l5 k z0 z1 z2 z2n z3 z3n z4 z4n 0 H1 Q)
    (ref1_PageWith.l11 k z0 z1 z2 z2n z3 z3n z4 z4n 0 H1 Q))))) := by kernel_rfl
theorem ref1_PageWith.l5_eq (k : Nat) (bx0 : Bool) (bx1 : Bool) (xx2 : Pl) (nx3 : Nat) (xx4 : Pl) (nx5 : Nat) (xx6 : Pl) (nx7 : Nat) (ix8 : Int) (H : Hp) (Q : Post) : ref1_PageWith.l5 (k + 1) bx0 bx1 xx2 nx3 xx4 nx5 xx6 nx7 ix8 H Q = (
 bite (ltI ix8 (nI nx5))
 (chk true (chk ((leI 0 ix8) && (ltI ix8 (nI nx5))) (pS xx4 fun n0 n1 =>
  rd H n0 (n1 + ((tN ix8) * 1)) fun v2 =>
  dS v2 fun s3 =>
  bite (ltI 10 (sz s3))
  (Q (.g (.bool false)) H)
  (ref1_PageWith.l5 k bx0 bx1 xx2 nx3 xx4 nx5 xx6 nx7 (wrapI .i64 (ix8 + 1)) H Q))))
 (bite (eqI (nI nx5) (nI nx3))
  (Q (.g (.bool (eqI (nI nx7) 0))) H)
  (Q (.g (.bool false)) H))) := by kernel_rfl
theorem ref1_PageWith.l11_eq (k : Nat) (bx0 : Bool) (bx1 : Bool) (xx2 : Pl) (nx3 : Nat) (xx4 : Pl) (nx5 : Nat) (xx6 : Pl) (nx7 : Nat) (ix8 : Int) (H : Hp) (Q : Post) : ref1_PageWith.l11 (k + 1) bx0 bx1 xx2 nx3 xx4 nx5 xx6 nx7 ix8 H Q = (
 bite (ltI ix8 (nI nx7))
 (chk true (chk ((leI 0 ix8) && (ltI ix8 (nI nx7))) (pS xx6 fun n0 n1 =>
  rd H n0 (n1 + ((tN ix8) * 1)) fun v2 =>
  dI .i64 v2 fun i3 =>
  bite (ltI i3 1)
  (Q (.g (.bool false)) H)
  (chk true (chk ((leI 0 ix8) && (ltI ix8 (nI nx7))) (pS xx6 fun n4 n5 =>
   rd H n4 (n5 + ((tN ix8) * 1)) fun v6 =>
   dI .i64 v6 fun i7 =>
   bite (leI 48 i7)
   (Q (.g (.bool false)) H)
   (ref1_PageWith.l16 k bx0 bx1 xx2 nx3 xx4 nx5 xx6 nx7 ix8 0 H Q)))))))
 (bite (leI 1 (nI nx3))
  (bite (eqI (nI nx5) 0)
   (Q (.g (.bool (eqI (nI nx7) (wrapI .i64 ((nI nx3) + 1))))) H)
   (Q (.g (.bool false)) H))
  (Q (.g (.bool false)) H))) := by kernel_rfl
theorem ref1_PageWith.l16_eq (k : Nat) (bx0 : Bool) (bx1 : Bool) (xx2 : Pl) (nx3 : Nat) (xx4 : Pl) (nx5 : Nat) (xx6 : Pl) (nx7 : Nat) (ix8 : Int) (ix9 : Int) (H : Hp) (Q : Post) : ref1_PageWith.l16 (k + 1) bx0 bx1 xx2 nx3 xx4 nx5 xx6 nx7 ix8 ix9 H Q = (
 bite (ltI ix9 ix8)
 (chk true (chk ((leI 0 ix9) && (ltI ix9 (nI nx7))) (pS xx6 fun n0 n1 =>
  rd H n0 (n1 + ((tN ix9) * 1)) fun v2 =>
  dI .i64 v2 fun i3 =>
  chk true (chk ((leI 0 ix8) && (ltI ix8 (nI nx7))) (pS xx6 fun n4 n5 =>
  rd H n4 (n5 + ((tN ix8) * 1)) fun v6 =>
  dI .i64 v6 fun i7 =>
  bite (eqI i3 i7)
  (Q (.g (.bool false)) H)
  (ref1_PageWith.l16 k bx0 bx1 xx2 nx3 xx4 nx5 xx6 nx7 ix8 (wrapI .i64 (ix9 + 1)) H Q))))))
 (ref1_PageWith.l11 k bx0 bx1 xx2 nx3 xx4 nx5 xx6 nx7 (wrapI .i64 (ix8 + 1)) H Q)) := by kernel_rfl
theorem ref1_PageWith_ok : Sound Go.Proofs.Tryz.prog 99 (ref1_PageWith) := prog_ok.sound (cx := ref1_PageWith.cx) rfl (EnvOK.cons ((ref1_rising_ok).c ⟨_, Go.Proofs.Tryz.func122, by kernel_rfl, by kernel_rfl⟩) (EnvOK.nil _)) (noDyn_ok _) Go.Proofs.Tryz.func99 rfl

/-! 67: cryostat/cryostatref1.PageMay -/
def ref1_PageMay.cx : Cx := ⟨tys, [], [], [], [(99, ref1_PageWith)], noDyn, [.tmp 2]⟩
def ref1_PageMay : Sm := fun xs H Q => ∃ k, callK (ref1_PageMay.cx) Go.Proofs.Tryz.f67 k xs H Q
theorem ref1_PageMay_eq (k : Nat) (z0 : Bool) (z1 : Bool) (z2 : Pl) (z2n : Nat) (z3 : Pl) (z3n : Nat) (z4 : Pl) (z4n : Nat) (H : Hp) (Q : Post) : callK (ref1_PageMay.cx) Go.Proofs.Tryz.f67 (k + 1) [.agg [.bool z0, .bool z1, .sl z2 z2n 1, .sl z3 z3n 1, .sl z4 z4n 1]] H Q = (
 cl ref1_PageWith [(.agg [(.bool z0), (.bool z1), (.sl z2 z2n 1), (.sl z3 z3n 1), (.sl z4 z4n 1)]), (.g (.int .i64 4))] H fun r0 H1 =>
 rG r0 fun v2 =>
 dB v2 fun b3 =>
 Q (.g (.bool b3)) H1) := by kernel_rfl
theorem ref1_PageMay_ok : Sound Go.Proofs.Tryz.prog 67 (ref1_PageMay) := prog_ok.sound (cx := ref1_PageMay.cx) rfl (EnvOK.cons ((ref1_PageWith_ok).c ⟨_, Go.Proofs.Tryz.func99, by kernel_rfl, by kernel_rfl⟩) (EnvOK.nil _)) (noDyn_ok _) Go.Proofs.Tryz.func67 rfl

/-! 17: cryostat/cryostatlaw0.Num -/
def law0_Num.cx : Cx := ⟨tys, [], [], [], [], noDyn, [.tmp 2]⟩
def law0_Num : Sm := fun xs H Q => ∃ k, callK (law0_Num.cx) Go.Proofs.Tryz.f17 k xs H Q
theorem law0_Num_eq (k : Nat) (z0 : Int) (H : Hp) (Q : Post) : callK (law0_Num.cx) Go.Proofs.Tryz.f17 (k + 1) [.g (.int .i64 z0)] H Q = (
 Q (.g (.int .i64 z0)) H) := by kernel_rfl
theorem law0_Num_ok : Sound Go.Proofs.Tryz.prog 17 (law0_Num) := prog_ok.sound (cx := law0_Num.cx) rfl (EnvOK.nil _) (noDyn_ok _) Go.Proofs.Tryz.func17 rfl

/-! 116: cryostat/page.Nothing -/
def page_Nothing.cx : Cx := ⟨tys, [], [], [], [], noDyn, [.tmp 2]⟩
def page_Nothing : Sm := fun xs H Q => ∃ k, callK (page_Nothing.cx) Go.Proofs.Tryz.f116 k xs H Q
theorem page_Nothing_eq (k : Nat) (z0 : Bool) (z1 : Bool) (z2 : Pl) (z2n : Nat) (z3 : Pl) (z3n : Nat) (z4 : Pl) (z4n : Nat) (H : Hp) (Q : Post) : callK (page_Nothing.cx) Go.Proofs.Tryz.f116 (k + 1) [.agg [.bool z0, .bool z1, .sl z2 z2n 1, .sl z3 z3n 1, .sl z4 z4n 1]] H Q = (
 bite (!z0)
 (bite (!z1)
  (Q (.g (.bool (eqI (wrapI .i64 ((wrapI .i64 ((nI z2n) + (nI z3n))) + (nI z4n))) 0))) H)
  (Q (.g (.bool false)) H))
 (Q (.g (.bool false)) H)) := by kernel_rfl
theorem page_Nothing_ok : Sound Go.Proofs.Tryz.prog 116 (page_Nothing) := prog_ok.sound (cx := page_Nothing.cx) rfl (EnvOK.nil _) (noDyn_ok _) Go.Proofs.Tryz.func116 rfl


end Go.Am
namespace Go.Am
abbrev tS : Nat := 9
abbrev tI : Nat := 3
abbrev tB : Nat := 4
abbrev tU8 : Nat := 5
abbrev tPg : Nat := 75
abbrev tPgs : Nat := 22
abbrev tTr : Nat := 24
abbrev tSs : Nat := 27
abbrev tIs : Nat := 73
abbrev tU8s : Nat := 64
abbrev tKV : Nat := 60
abbrev tKVs : Nat := 54
abbrev tWalk : Nat := 156
abbrev tBelow : Nat := 150
abbrev tLevel : Nat := 112
abbrev tImg : Nat := 80
abbrev tImgs : Nat := 32
abbrev tPager : Nat := 29
abbrev tWriter : Nat := 100
abbrev tFree : Nat := 98
abbrev tHalf : Nat := 107
abbrev tPFree : Nat := 102
abbrev tEraser : Nat := 120
abbrev tTaker : Nat := 129
abbrev tErr : Nat := 33
abbrev tFnS : Nat := 92
abbrev tFnI : Nat := 125
abbrev fKey : Nat := 48
abbrev fVal : Nat := 49
abbrev fKid : Nat := 120
abbrev fAllS : Nat := 127
abbrev fAllI : Nat := 129
abbrev fLong : Nat := 68
end Go.Am
namespace Go.Am

theorem dynOf_hit {f : Nat} {s : Sm} {l : List (Nat × Sm)} : dynOf ((f, s) :: l) f = s := by simp [dynOf, List.lookup]
theorem dynOf_miss {f g : Nat} {s : Sm} {l : List (Nat × Sm)} (h : f ≠ g) : dynOf ((g, s) :: l) f = dynOf l f := by
  unfold dynOf
  rw [List.lookup_cons, show (f == g) = false by simpa using h]

theorem page_Key_spec {s : ByteArray} {H : Hp} {Q : Post} (hQ : Q (.g (.bool (decide (1 ≤ s.size) && decide (s.size ≤ 6)))) H) : page_Key [.g (.str s)] H Q := by
  refine ⟨1, ?_⟩
  rw [page_Key_eq]
  refine bite_of (fun h => ?_) (fun h => ?_)
  · simp only [leI_def, sz_def, decide_eq_true_eq] at h ⊢
    rw [decide_eq_true (show 1 ≤ s.size by omega), Bool.true_and] at hQ
    rw [show decide ((s.size : Int) ≤ 6) = decide (s.size ≤ 6) by rw [decide_eq_decide]; omega]
    exact hQ
  · simp only [leI_def, sz_def, decide_eq_false_iff_not] at h
    rw [decide_eq_false (show ¬ 1 ≤ s.size by omega)] at hQ
    simpa using hQ
theorem page_Value_spec {s : ByteArray} {H : Hp} {Q : Post} (hQ : Q (.g (.bool (decide (s.size ≤ 10)))) H) : page_Value [.g (.str s)] H Q := by
  refine ⟨1, ?_⟩
  rw [page_Value_eq]
  simp only [leI_def, sz_def]
  rw [show decide ((s.size : Int) ≤ 10) = decide (s.size ≤ 10) by rw [decide_eq_decide]; omega]
  exact hQ
theorem page_Kid_spec {k : Int} {H : Hp} {Q : Post} (hQ : Q (.g (.bool (decide (1 ≤ k) && decide (k < 48)))) H) : page_Kid [.g (.int .i64 k)] H Q := by
  refine ⟨1, ?_⟩
  rw [page_Kid_eq]
  refine bite_of (fun h => ?_) (fun h => ?_)
  · simp only [leI_def, ltI_def] at h ⊢
    rw [h] at hQ
    simpa using hQ
  · simp only [leI_def, ltI_def] at h
    rw [h] at hQ
    simpa using hQ

/-! rising -/
def Rising (xs : List ByteArray) : Prop := ∀ i, (h : i + 1 < xs.length) → strLt (xs[i]'(by omega)) xs[i + 1] = true

theorem page_rising_loop {H : Hp} {Q : Post} {a : Pl} {n : Nat} {xs : List ByteArray} (h : Ss H a n xs) (hQ : ∀ b, (b = true ↔ Rising xs) → Q (.g (.bool b)) H) :
    ∀ m k : Nat, xs.length - k = m → (∀ i, (hi : i + 1 < xs.length) → i < k → strLt (xs[i]'(by omega)) xs[i + 1] = true) → ∃ f, page_rising.l2 f a n ((k + 1 : Nat) : Int) H Q := by
  intro m
  have hn := h.len
  have hlim := h.lim
  induction m with
  | zero =>
    intro k hm hk
    refine ⟨1, ?_⟩
    rw [page_rising.l2_eq, show ltI ((k + 1 : Nat) : Int) (nI n) = false by simp; omega, bite_false]
    exact hQ true ⟨fun _ i hi => hk i hi (by omega), fun _ => rfl⟩
  | succ m ih =>
    intro k hm hk
    by_cases hkn : k + 1 < xs.length
    · have hlt : ltI ((k + 1 : Nat) : Int) (nI n) = true := by simp; omega
      cases hs : strLt (xs[k]'(by omega)) xs[k + 1] with
      | true =>
        obtain ⟨f, hf⟩ := ih (k + 1) (by omega) (fun i hi hik => by
          by_cases e : i = k
          · subst e; exact hs
          · exact hk i hi (by omega))
        refine ⟨f + 1, ?_⟩
        rw [page_rising.l2_eq, bite_t hlt, chk_true, h.rd k (wrap_pred (by omega)) (by omega), chk_true, h.rd (k + 1) rfl hkn, bite_f (by rw [hs]; rfl), wrap_succ (by omega)]
        exact hf
      | false =>
        refine ⟨1, ?_⟩
        rw [page_rising.l2_eq, bite_t hlt, chk_true, h.rd k (wrap_pred (by omega)) (by omega), chk_true, h.rd (k + 1) rfl hkn, bite_t (by rw [hs]; rfl)]
        refine hQ false ⟨fun q => (by cases q), fun q => ?_⟩
        rw [q k hkn] at hs; cases hs
    · refine ⟨1, ?_⟩
      rw [page_rising.l2_eq, show ltI ((k + 1 : Nat) : Int) (nI n) = false by simp; omega, bite_false]
      exact hQ true ⟨fun _ i hi => hk i hi (by omega), fun _ => rfl⟩
theorem page_rising_spec {H : Hp} {Q : Post} {a : Pl} {n : Nat} {xs : List ByteArray} (h : Ss H a n xs) (hQ : ∀ b, (b = true ↔ Rising xs) → Q (.g (.bool b)) H) : page_rising [.g (.sl a n 1)] H Q := by
  obtain ⟨f, hf⟩ := page_rising_loop h hQ _ 0 rfl (fun i hi h => by omega)
  exact ⟨f + 1, by rw [page_rising_eq]; exact hf⟩

/-! all -/
theorem page_all_string_1_spec {E : Nat → Sm} {p : ByteArray → Bool} {f : Nat} (hE : ∀ (s : ByteArray) (H : Hp) (Q : Post), Q (.g (.bool (p s))) H → E f [.g (.str s)] H Q) {H : Hp} {Q : Post} {l : Nat} (hl : gt H l 0 = some (.fn f []))
    {s : ByteArray} (hQ : Q (.g (.bool (!(p s)))) H) : page_all_string_1 E [.g (.str s), .g (.ptr (some (l, 0)))] H Q := by
  refine ⟨1, ?_⟩
  rw [page_all_string_1_eq, rd_of hl, dF_fn]
  exact hE s H _ hQ
theorem index_string_loop {E : Nat → Sm} {p : ByteArray → Bool} {g l : Nat} {H : Hp} (hE : ∀ (s : ByteArray) (Q : Post), Q (.g (.bool (p s))) H → E g [.g (.str s), .g (.ptr (some (l, 0)))] H Q)
    {Q : Post} {a : Pl} {n : Nat} {xs : List ByteArray} (h : Ss H a n xs) (hQ : ∀ i : Int, (0 ≤ i ↔ ∃ s ∈ xs, p s = true) → Q (.g (.int .i64 i)) H) :
    ∀ m k : Nat, xs.length - k = m → k ≤ xs.length → (∀ i, (hi : i < xs.length) → i < k → p xs[i] = false) → ∃ f, slices_IndexFunc__string_string.l2 E f a n g [(l, 0)] (nI n) (k : Int) H Q := by
  intro m
  have hn := h.len
  have hlim := h.lim
  induction m with
  | zero =>
    intro k hm hle hk
    refine ⟨1, ?_⟩
    rw [slices_IndexFunc__string_string.l2_eq, show ltI (k : Int) (nI n) = false by simp; omega, bite_false]
    refine hQ _ ⟨fun q => by omega, fun ⟨s, hs, hp⟩ => ?_⟩
    obtain ⟨i, hi, rfl⟩ := List.getElem_of_mem hs
    rw [hk i hi (by omega)] at hp; cases hp
  | succ m ih =>
    intro k hm hle hk
    have hkn : k < xs.length := by omega
    have hlt : ltI (k : Int) (nI n) = true := by simp; omega
    cases hs : p xs[k] with
    | false =>
      obtain ⟨f, hf⟩ := ih (k + 1) (by omega) (by omega) (fun i hi hik => by
        by_cases e : i = k
        · subst e; exact hs
        · exact hk i hi (by omega))
      refine ⟨f + 1, ?_⟩
      rw [slices_IndexFunc__string_string.l2_eq, bite_t hlt, chk_true, h.rd k rfl hkn]
      refine hE _ _ ?_
      rw [rG_g, dB_bool, hs, bite_false, wrap_succ (by omega)]
      exact hf
    | true =>
      refine ⟨1, ?_⟩
      rw [slices_IndexFunc__string_string.l2_eq, bite_t hlt, chk_true, h.rd k rfl hkn]
      refine hE _ _ ?_
      rw [rG_g, dB_bool, hs, bite_true]
      exact hQ _ ⟨fun _ => ⟨_, List.getElem_mem hkn, hs⟩, fun _ => by omega⟩
theorem page_all_string_spec {E : Nat → Sm} {p : ByteArray → Bool} {f : Nat} (hE : ∀ (s : ByteArray) (H : Hp) (Q : Post), Q (.g (.bool (p s))) H → E f [.g (.str s)] H Q) {H : Hp} {Q : Post}
    {a : Pl} {n : Nat} {xs : List ByteArray} (h : Ss H a n xs) (hQ : ∀ b H', H <+: H' → (b = true ↔ ∀ s ∈ xs, p s = true) → Q (.g (.bool b)) H') : page_all_string E [.g (.sl a n 1), .g (.fn f [])] H Q := by
  refine ⟨1, ?_⟩
  rw [page_all_string_eq]
  have hp := pre_pu H (.row true tFnS [.fn f []])
  refine ⟨1, ?_⟩
  rw [slices_ContainsFunc__string_string_eq]
  obtain ⟨k, hk⟩ := index_string_loop (E := dynOf [(fAllS, page_all_string_1 E)]) (p := fun s => !(p s)) (g := fAllS) (l := H.length) (H := H ++ [.row true tFnS [.fn f []]])
    (fun s Q hQ => by rw [dynOf_hit]; exact page_all_string_1_spec hE (by simp [gt]) hQ) (Q := fun r H1 => rG r fun v2 => dI .i64 v2 fun i3 => rG (.g (.bool (leI 0 i3))) fun v2 => dB v2 fun b3 => Q (.g (.bool (!b3))) H1) (h.mono hp)
    (fun i hi => by
      rw [rG_g, dI_int, rG_g, dB_bool]
      refine hQ _ _ hp ?_
      simp only [leI_def, Bool.not_eq_true', decide_eq_false_iff_not]
      rw [hi]
      constructor
      · intro q s hs
        cases e : p s with
        | true => rfl
        | false => exact (q ⟨s, hs, by simp [e]⟩).elim
      · rintro q ⟨s, hs, e⟩
        rw [q s hs] at e; cases e) _ 0 rfl (Nat.zero_le _) (fun i hi h => by omega)
  refine ⟨k + 1, ?_⟩
  rw [slices_IndexFunc__string_string_eq]
  exact hk

theorem page_all_int_1_spec {E : Nat → Sm} {p : Int → Bool} {f : Nat} (hE : ∀ (s : Int) (H : Hp) (Q : Post), Q (.g (.bool (p s))) H → E f [.g (.int .i64 s)] H Q) {H : Hp} {Q : Post} {l : Nat} (hl : gt H l 0 = some (.fn f []))
    {s : Int} (hQ : Q (.g (.bool (!(p s)))) H) : page_all_int_1 E [.g (.int .i64 s), .g (.ptr (some (l, 0)))] H Q := by
  refine ⟨1, ?_⟩
  rw [page_all_int_1_eq, rd_of hl, dF_fn]
  exact hE s H _ hQ
theorem index_int_loop {E : Nat → Sm} {p : Int → Bool} {g l : Nat} {H : Hp} (hE : ∀ (s : Int) (Q : Post), Q (.g (.bool (p s))) H → E g [.g (.int .i64 s), .g (.ptr (some (l, 0)))] H Q)
    {Q : Post} {a : Pl} {n : Nat} {xs : List Int} (h : Is H a n xs) (hQ : ∀ i : Int, (0 ≤ i ↔ ∃ s ∈ xs, p s = true) → Q (.g (.int .i64 i)) H) :
    ∀ m k : Nat, xs.length - k = m → k ≤ xs.length → (∀ i, (hi : i < xs.length) → i < k → p xs[i] = false) → ∃ f, slices_IndexFunc__int_int.l2 E f a n g [(l, 0)] (nI n) (k : Int) H Q := by
  intro m
  have hn := h.len
  have hlim := h.lim
  induction m with
  | zero =>
    intro k hm hle hk
    refine ⟨1, ?_⟩
    rw [slices_IndexFunc__int_int.l2_eq, show ltI (k : Int) (nI n) = false by simp; omega, bite_false]
    refine hQ _ ⟨fun q => by omega, fun ⟨s, hs, hp⟩ => ?_⟩
    obtain ⟨i, hi, rfl⟩ := List.getElem_of_mem hs
    rw [hk i hi (by omega)] at hp; cases hp
  | succ m ih =>
    intro k hm hle hk
    have hkn : k < xs.length := by omega
    have hlt : ltI (k : Int) (nI n) = true := by simp; omega
    cases hs : p xs[k] with
    | false =>
      obtain ⟨f, hf⟩ := ih (k + 1) (by omega) (by omega) (fun i hi hik => by
        by_cases e : i = k
        · subst e; exact hs
        · exact hk i hi (by omega))
      refine ⟨f + 1, ?_⟩
      rw [slices_IndexFunc__int_int.l2_eq, bite_t hlt, chk_true, h.rd k rfl hkn]
      refine hE _ _ ?_
      rw [rG_g, dB_bool, hs, bite_false, wrap_succ (by omega)]
      exact hf
    | true =>
      refine ⟨1, ?_⟩
      rw [slices_IndexFunc__int_int.l2_eq, bite_t hlt, chk_true, h.rd k rfl hkn]
      refine hE _ _ ?_
      rw [rG_g, dB_bool, hs, bite_true]
      exact hQ _ ⟨fun _ => ⟨_, List.getElem_mem hkn, hs⟩, fun _ => by omega⟩
theorem page_all_int_spec {E : Nat → Sm} {p : Int → Bool} {f : Nat} (hE : ∀ (s : Int) (H : Hp) (Q : Post), Q (.g (.bool (p s))) H → E f [.g (.int .i64 s)] H Q) {H : Hp} {Q : Post}
    {a : Pl} {n : Nat} {xs : List Int} (h : Is H a n xs) (hQ : ∀ b H', H <+: H' → (b = true ↔ ∀ s ∈ xs, p s = true) → Q (.g (.bool b)) H') : page_all_int E [.g (.sl a n 1), .g (.fn f [])] H Q := by
  refine ⟨1, ?_⟩
  rw [page_all_int_eq]
  have hp := pre_pu H (.row true tFnI [.fn f []])
  refine ⟨1, ?_⟩
  rw [slices_ContainsFunc__int_int_eq]
  obtain ⟨k, hk⟩ := index_int_loop (E := dynOf [(fAllI, page_all_int_1 E)]) (p := fun s => !(p s)) (g := fAllI) (l := H.length) (H := H ++ [.row true tFnI [.fn f []]])
    (fun s Q hQ => by rw [dynOf_hit]; exact page_all_int_1_spec hE (by simp [gt]) hQ) (Q := fun r H1 => rG r fun v2 => dI .i64 v2 fun i3 => rG (.g (.bool (leI 0 i3))) fun v2 => dB v2 fun b3 => Q (.g (.bool (!b3))) H1) (h.mono hp)
    (fun i hi => by
      rw [rG_g, dI_int, rG_g, dB_bool]
      refine hQ _ _ hp ?_
      simp only [leI_def, Bool.not_eq_true', decide_eq_false_iff_not]
      rw [hi]
      constructor
      · intro q s hs
        cases e : p s with
        | true => rfl
        | false => exact (q ⟨s, hs, by simp [e]⟩).elim
      · rintro q ⟨s, hs, e⟩
        rw [q s hs] at e; cases e) _ 0 rfl (Nat.zero_le _) (fun i hi h => by omega)
  refine ⟨k + 1, ?_⟩
  rw [slices_IndexFunc__int_int_eq]
  exact hk
end Go.Am
namespace Go.Am

def NoAdj (zs : List Int) : Prop := ∀ i, (h : i + 1 < zs.length) → zs[i]'(by omega) ≠ zs[i + 1]

theorem Is.row {H : Hp} {l o n : Nat} {own : Bool} {t : TypeId} {ws : List Int} (h : H[l]? = some (.row own t (ws.map (GV.int .i64)))) (ho : o + n = ws.length) (hlim : n * 8 ≤ 140737488351232) : Is H (some (l, o)) n (ws.drop o) :=
  ⟨by simp only [cells?, h]; rw [if_pos (by simp; omega)]; congr 1; rw [← List.map_drop, ← List.map_take, List.take_of_length_le (by simp; omega)], by simp; omega, hlim⟩

theorem compact_l9 {H0 : Hp} {l n o n2 : Nat} {Q : Post} (hb : H0.length ≤ l) (hlim : n * 8 ≤ 140737488351232) (hon : o + n2 = n) (hQ : ∀ (j : Nat) H', H0 <+: H' → j < n → Q (.g (.sl (some (l, 0)) j 1)) H') :
    ∀ (m' m j : Nat) (H : Hp) (ws : List Int), n2 - m = m' → 1 ≤ m → m ≤ n2 → 1 ≤ j → j + 1 ≤ o + m → H0 <+: H → H[l]? = some (.row true tI (ws.map (GV.int .i64))) → ws.length = n →
      ∃ f, slices_Compact__int_int.l9 f (some (l, 0)) n (j : Int) (some (l, o)) n2 (m : Int) H Q := by
  intro m'
  induction m' with
  | zero =>
    intro m j H ws hm h1 h2 hj hjo h0 hrow hw
    refine ⟨1, ?_⟩
    obtain ⟨d, hd⟩ : ∃ d, n - j = d + 1 := ⟨n - j - 1, by omega⟩
    rw [slices_Compact__int_int.l9_eq, bite_f (by simp; omega), chk_true]
    refine chk_of (by simp) (chk_of (by simp; omega) ?_)
    simp only [tN_def, Int.toNat_natCast, Nat.mul_one, shf_some, Nat.zero_add, chk_true, hd]
    show (match H[l]? with
      | some (.row true t cs) => j + (d + 1) * 1 ≤ cs.length ∧ _
      | _ => False)
    rw [hrow]
    refine ⟨by simp; omega, chk_of (by simp) (chk_of (by simp; omega) ?_)⟩
    exact hQ j _ (pre_set h0 hb _) (by omega)
  | succ m' ih =>
    intro m j H ws hm h1 h2 hj hjo h0 hrow hw
    have hI := Is.row (o := o) (n := n2) hrow (by omega) (by omega)
    have hmn : m < (ws.drop o).length := by simp; omega
    obtain ⟨m1, rfl⟩ : ∃ m1, m = m1 + 1 := ⟨m - 1, by omega⟩
    have hm1 : m1 < (ws.drop o).length := by omega
    have hlt : ltI ((m1 + 1 : Nat) : Int) (nI n2) = true := by simp; omega
    by_cases he : (ws.drop o)[m1 + 1] = (ws.drop o)[m1]
    · obtain ⟨f, hf⟩ := ih (m1 + 1 + 1) j H ws (by omega) (by omega) (by omega) hj (by omega) h0 hrow hw
      refine ⟨f + 1, ?_⟩
      rw [slices_Compact__int_int.l9_eq, bite_t hlt, chk_true, hI.rd (m1 + 1) rfl hmn, chk_true, hI.rd m1 (wrap_pred (by omega)) hm1, bite_f (by simpa using he), wrap_succ (by omega)]
      exact hf
    · have hjn : j < (ws.map (GV.int .i64)).length := by simp; omega
      obtain ⟨f, hf⟩ := ih (m1 + 1 + 1) (j + 1) (H.set l (.row true tI ((ws.set j (ws.drop o)[m1 + 1]).map (GV.int .i64)))) (ws.set j (ws.drop o)[m1 + 1]) (by omega) (by omega) (by omega) (by omega) (by omega) (pre_set h0 hb _)
        (by rw [List.getElem?_set_self]; exact (List.getElem?_eq_some_iff.1 hrow).1) (by simpa using hw)
      refine ⟨f + 1, ?_⟩
      rw [slices_Compact__int_int.l9_eq, bite_t hlt, chk_true, hI.rd (m1 + 1) rfl hmn, chk_true, hI.rd m1 (wrap_pred (by omega)) hm1, bite_t (by simpa using he), chk_true, hI.rd (m1 + 1) rfl hmn, chk_true]
      refine chk_of (by simp; omega) ?_
      simp only [tN_def, Int.toNat_natCast, Nat.mul_one, pS_some, Nat.zero_add]
      rw [wr_of hrow hjn, wrap_succ (by omega), wrap_succ (by omega)]
      rw [List.map_set] at hf
      exact hf

theorem compact_spec {H0 H : Hp} {l : Nat} {zs : List Int} {Q : Post} (h0 : H0 <+: H) (hb : H0.length ≤ l) (hrow : H[l]? = some (.row true tI (zs.map (GV.int .i64)))) (hlim : zs.length * 8 ≤ 140737488351232)
    (hQ : ∀ (a : Pl) (j : Nat) H', H0 <+: H' → (j = zs.length ↔ NoAdj zs) → Q (.g (.sl a j 1)) H') : slices_Compact__int_int [.g (.sl (some (l, 0)) zs.length 1)] H Q := by
  have hI := Is.row (o := 0) (n := zs.length) hrow (by omega) hlim
  rw [List.drop_zero] at hI
  have loop : ∀ m k : Nat, zs.length - k = m → k + 1 ≤ zs.length → (∀ i, (h : i + 1 < zs.length) → i < k → zs[i]'(by omega) ≠ zs[i + 1]) → ∃ f, slices_Compact__int_int.l4 f (some (l, 0)) zs.length ((k + 1 : Nat) : Int) H Q := by
    intro m
    induction m with
    | zero => intro k hm hk; omega
    | succ m ih =>
      intro k hm hk hne
      by_cases hkn : k + 1 < zs.length
      · have hlt : ltI ((k + 1 : Nat) : Int) (nI zs.length) = true := by simp; omega
        by_cases he : zs[k + 1] = zs[k]'(by omega)
        · obtain ⟨f, hf⟩ := compact_l9 (H0 := H0) (l := l) (n := zs.length) (o := k + 1) (n2 := zs.length - (k + 1)) (Q := Q) hb hlim (by omega) (fun j H' h1 h2 => hQ _ j H' h1 ⟨fun e => by omega, fun q => (q k hkn he.symm).elim⟩)
            _ 1 (k + 1) H zs rfl (by omega) (by omega) (by omega) (by omega) h0 hrow rfl
          refine ⟨f + 1, ?_⟩
          rw [slices_Compact__int_int.l4_eq, bite_t hlt, chk_true, hI.rd (k + 1) rfl hkn, chk_true, hI.rd k (wrap_pred (by omega)) (by omega), bite_t (by simpa using he), chk_true]
          refine chk_of (by simp; omega) (chk_of (by simp; omega) ?_)
          simp only [tN_def, Int.toNat_natCast, Nat.mul_one, shf_some, Nat.zero_add]
          exact hf
        · obtain ⟨f, hf⟩ := ih (k + 1) (by omega) (by omega) (fun i hi hik => by
            by_cases e : i = k
            · subst e; exact fun q => he q.symm
            · exact hne i hi (by omega))
          refine ⟨f + 1, ?_⟩
          rw [slices_Compact__int_int.l4_eq, bite_t hlt, chk_true, hI.rd (k + 1) rfl hkn, chk_true, hI.rd k (wrap_pred (by omega)) (by omega), bite_f (by simpa using he), wrap_succ (by omega)]
          exact hf
      · refine ⟨1, ?_⟩
        rw [slices_Compact__int_int.l4_eq, bite_f (by simp; omega)]
        exact hQ _ _ _ h0 ⟨fun _ i hi => hne i hi (by omega), fun _ => rfl⟩
  by_cases h2 : zs.length < 2
  · refine ⟨1, ?_⟩
    rw [slices_Compact__int_int_eq, bite_t (by simp; omega)]
    exact hQ _ _ _ h0 ⟨fun _ i hi => by omega, fun _ => rfl⟩
  · obtain ⟨f, hf⟩ := loop _ 0 rfl (by omega) (fun i hi h => by omega)
    refine ⟨f + 1, ?_⟩
    rw [slices_Compact__int_int_eq, bite_f (by simp; omega)]
    exact hf

/-- sorted, no two neighbours the same: no two the same -/
theorem noAdj_sorted {zs : List Int} : NoAdj (zs.mergeSort fun x y => decide (x ≤ y)) ↔ zs.Nodup := by
  have hp := List.mergeSort_perm zs (fun x y => decide (x ≤ y))
  have hs : (zs.mergeSort fun x y => decide (x ≤ y)).Pairwise fun x y => x ≤ y := by
    have := List.pairwise_mergeSort (le := fun (x y : Int) => decide (x ≤ y)) (fun a b c h1 h2 => by simp at *; omega) (fun a b => by simp; omega) zs
    exact this.imp fun h => by simpa using h
  rw [← hp.nodup_iff]
  generalize (zs.mergeSort fun x y => decide (x ≤ y)) = ws at hs
  clear hp
  constructor
  · intro h
    rw [List.Nodup, List.pairwise_iff_getElem]
    have key : ∀ d i, (hi : i + d + 1 < ws.length) → ws[i]'(by omega) < ws[i + d + 1] := by
      intro d
      induction d with
      | zero =>
        intro i hi
        have h1 := (List.pairwise_iff_getElem.1 hs) i (i + 1) (by omega) (by omega) (by omega)
        have h2 := h i (by omega)
        simp only [Nat.add_zero]
        omega
      | succ d ih =>
        intro i hi
        have h1 := ih i (by omega)
        have h2 := (List.pairwise_iff_getElem.1 hs) (i + d + 1) (i + (d + 1) + 1) (by omega) (by omega) (by omega)
        omega
    intro i j hi hj hij
    obtain ⟨d, rfl⟩ : ∃ d, j = i + d + 1 := ⟨j - i - 1, by omega⟩
    have := key d i hj
    omega
  · intro h i hi
    exact (List.pairwise_iff_getElem.1 h) i (i + 1) (by omega) (by omega) (by omega)

theorem page_unlike_spec {E : Nat → Sm} {H : Hp} {Q : Post} {a : Pl} {n : Nat} {zs : List Int} (h : Is H a n zs) (hQ : ∀ b H', H <+: H' → (b = true ↔ zs.Nodup) → Q (.g (.bool b)) H') : page_unlike E [.g (.sl a n 1)] H Q := by
  refine ⟨1, ?_⟩
  rw [page_unlike_eq]
  refine ⟨1, ?_⟩
  rw [slices_Values__int_int_eq, rG_g]
  refine ⟨1, ?_⟩
  rw [slices_Sorted_int_eq]
  refine ⟨1, ?_⟩
  rw [slices_Collect_int_eq]
  have hlen := h.len
  have hlim := h.lim
  have hp := pre_pu H (.row true tIs [.sl a n 1])
  refine ⟨H.length, tIs, [.sl a n 1], a, n, zs, rfl, by simp, rfl, (h.mono hp).cells, by unfold Lim; omega, fun hz => ?_, fun hz => ?_⟩
  · simp only [rG_g, dL_sl]
    refine .inl ⟨rfl, ?_⟩
    simp only [rG_g, dL_sl]
    refine ⟨1, ?_⟩
    rw [slices_Compact__int_int_eq, bite_t (by simp)]
    simp only [rG_g, dL_sl]
    refine hQ _ _ hp ?_
    subst hz
    simp [hlen]
  · simp only [rG_g, dL_sl]
    refine .inr ⟨(H ++ [Obj.row true tIs [.sl a n 1]]).length, zs, rfl, hz, by unfold Lim; omega, by simp, ?_⟩
    dsimp only
    have e : ((H ++ [Obj.row true tIs [.sl a n 1]]) ++ [Obj.row true tI (zs.map (GV.int .i64))]).set (H ++ [Obj.row true tIs [.sl a n 1]]).length (Obj.row true tI ((zs.mergeSort fun x y => decide (x ≤ y)).map (GV.int .i64))) =
        (H ++ [Obj.row true tIs [.sl a n 1]]) ++ [Obj.row true tI ((zs.mergeSort fun x y => decide (x ≤ y)).map (GV.int .i64))] := by
      rw [List.set_append_right _ _ (Nat.le_refl _)]; simp
    simp only [pu_def, ln_def]
    rw [e]
    have hsl : (zs.mergeSort fun x y => decide (x ≤ y)).length = zs.length := by simp
    have key := compact_spec (H0 := H) (H := (H ++ [Obj.row true tIs [.sl a n 1]]) ++ [Obj.row true tI ((zs.mergeSort fun x y => decide (x ≤ y)).map (GV.int .i64))]) (l := (H ++ [Obj.row true tIs [.sl a n 1]]).length)
      (zs := zs.mergeSort fun x y => decide (x ≤ y)) (hp.trans (List.prefix_append _ _)) (by simp) (by simp) (by rw [hsl]; omega)
      (Q := fun r8 H9 => rG r8 fun v10 => dL 1 v10 fun x11 n12 => Q (.g (.bool (eqI (nI n12) (nI n)))) H9) (fun a' j H' h1 h2 => by
        simp only [rG_g, dL_sl]
        refine hQ _ _ h1 ?_
        rw [← noAdj_sorted, ← h2, hsl, ← hlen]
        simp
        omega)
    rw [hsl] at key
    exact key
end Go.Am
namespace Go.Am

/-- a page, as data -/
structure Pg where
  used : Bool
  leaf : Bool
  keys : List ByteArray
  vals : List ByteArray
  kids : List Int

structure PgAt (H : Hp) (u l : Bool) (a1 : Pl) (n1 : Nat) (a2 : Pl) (n2 : Nat) (a3 : Pl) (n3 : Nat) (p : Pg) : Prop where
  used : p.used = u
  leaf : p.leaf = l
  keys : Ss H a1 n1 p.keys
  vals : Ss H a2 n2 p.vals
  kids : Is H a3 n3 p.kids
theorem PgAt.mono {H H' : Hp} (hp : H <+: H') {u l : Bool} {a1 : Pl} {n1 : Nat} {a2 : Pl} {n2 : Nat} {a3 : Pl} {n3 : Nat} {p : Pg} (h : PgAt H u l a1 n1 a2 n2 a3 n3 p) : PgAt H' u l a1 n1 a2 n2 a3 n3 p :=
  ⟨h.used, h.leaf, h.keys.mono hp, h.vals.mono hp, h.kids.mono hp⟩

/-- may a page be, whatever the number of its keys? -/
structure FitsP (p : Pg) : Prop where
  used : p.used = true
  rising : Rising p.keys
  keys : ∀ k ∈ p.keys, 1 ≤ k.size ∧ k.size ≤ 6
  leaf : p.leaf = true → p.vals.length = p.keys.length ∧ p.kids = [] ∧ ∀ v ∈ p.vals, v.size ≤ 10
  inner : p.leaf = false → 1 ≤ p.keys.length ∧ p.vals = [] ∧ p.kids.length = p.keys.length + 1 ∧ (∀ k ∈ p.kids, 1 ≤ k ∧ k < 48) ∧ p.kids.Nodup
def MayP (p : Pg) : Prop := p.keys.length ≤ 4 ∧ FitsP p

section
variable {H : Hp} {Q : Post} {u l : Bool} {a1 : Pl} {n1 : Nat} {a2 : Pl} {n2 : Nat} {a3 : Pl} {n3 : Nat} {p : Pg}

theorem page_Fits_spec (h : PgAt H u l a1 n1 a2 n2 a3 n3 p) (hQ : ∀ b H', H <+: H' → (b = true ↔ FitsP p) → Q (.g (.bool b)) H') :
    page_Fits [.agg [.bool u, .bool l, .sl a1 n1 1, .sl a2 n2 1, .sl a3 n3 1]] H Q := by
  obtain ⟨hu, hl, hk, hv, hi⟩ := h
  have n1e := hk.len
  have n2e := hv.len
  have n3e := hi.len
  have l1 := hk.lim
  have l3 := hi.lim
  have EK : ∀ (s : ByteArray) (H : Hp) (Q : Post), Q (.g (.bool (decide (1 ≤ s.size) && decide (s.size ≤ 6)))) H → dynOf [(fKey, page_Key), (fVal, page_Value), (fKid, page_Kid)] fKey [.g (.str s)] H Q :=
    fun s H Q q => by rw [dynOf_hit]; exact page_Key_spec q
  have EV : ∀ (s : ByteArray) (H : Hp) (Q : Post), Q (.g (.bool (decide (s.size ≤ 10)))) H → dynOf [(fKey, page_Key), (fVal, page_Value), (fKid, page_Kid)] fVal [.g (.str s)] H Q :=
    fun s H Q q => by rw [dynOf_miss (by decide), dynOf_hit]; exact page_Value_spec q
  have EI : ∀ (s : Int) (H : Hp) (Q : Post), Q (.g (.bool (decide (1 ≤ s) && decide (s < 48)))) H → dynOf [(fKey, page_Key), (fVal, page_Value), (fKid, page_Kid)] fKid [.g (.int .i64 s)] H Q :=
    fun s H Q q => by rw [dynOf_miss (by decide), dynOf_miss (by decide), dynOf_hit]; exact page_Kid_spec q
  refine ⟨1, ?_⟩
  rw [page_Fits_eq]
  refine bite_of (fun e => hQ _ _ (List.prefix_refl _) ⟨fun q => (by cases q), fun q => ?_⟩) (fun e => ?_)
  · rw [← hu, q.used] at e; cases e
  refine page_rising_spec hk fun b hb => ?_
  simp only [rG_g, dB_bool]
  refine bite_of (fun e1 => hQ _ _ (List.prefix_refl _) ⟨fun q => (by cases q), fun q => ?_⟩) (fun e1 => ?_)
  · rw [hb.2 q.rising] at e1; cases e1
  refine page_all_string_spec EK hk fun b2 H2 p2 hb2 => ?_
  simp only [rG_g, dB_bool]
  have hkeys : (∀ k ∈ p.keys, 1 ≤ k.size ∧ k.size ≤ 6) ↔ ∀ s ∈ p.keys, (decide (1 ≤ s.size) && decide (s.size ≤ 6)) = true := by simp
  refine bite_of (fun e2 => hQ _ _ p2 ⟨fun q => (by cases q), fun q => ?_⟩) (fun e2 => ?_)
  · rw [hb2.2 (hkeys.1 q.keys)] at e2; cases e2
  have hR : Rising p.keys := hb.1 (by cases b <;> simp_all)
  have hK := hkeys.2 (hb2.1 (by cases b2 <;> simp_all))
  have hU : p.used = true := by rw [hu]; cases u <;> simp_all
  refine bite_of (fun e3 => ?_) (fun e3 => ?_)
  · have hL : p.leaf = true := by rw [hl]; exact e3
    refine bite_of (fun e4 => ?_) (fun e4 => hQ _ _ p2 ⟨fun q => (by cases q), fun q => ?_⟩)
    rotate_left
    · have := (q.leaf hL).1; simp at e4; omega
    refine bite_of (fun e5 => ?_) (fun e5 => hQ _ _ p2 ⟨fun q => (by cases q), fun q => ?_⟩)
    rotate_left
    · have := (q.leaf hL).2.1; simp [this] at n3e; simp at e5; omega
    refine page_all_string_spec EV (hv.mono p2) fun b3 H3 p3 hb3 => ?_
    simp only [rG_g, dB_bool]
    refine hQ _ _ (p2.trans p3) (hb3.trans ⟨fun q => ⟨hU, hR, hK, fun _ => ⟨?_, ?_, by simpa using q⟩, fun q => (by rw [hL] at q; cases q)⟩, fun q => by simpa using (q.leaf hL).2.2⟩)
    · simp at e4; omega
    · simp at e5; exact List.eq_nil_of_length_eq_zero (by omega)
  · have hL : p.leaf = false := by rw [hl]; exact e3
    refine bite_of (fun e4 => ?_) (fun e4 => hQ _ _ p2 ⟨fun q => (by cases q), fun q => ?_⟩)
    rotate_left
    · have := (q.inner hL).1; simp at e4; omega
    refine bite_of (fun e5 => ?_) (fun e5 => hQ _ _ p2 ⟨fun q => (by cases q), fun q => ?_⟩)
    rotate_left
    · have := (q.inner hL).2.1; simp [this] at n2e; simp at e5; omega
    refine bite_of (fun e6 => ?_) (fun e6 => hQ _ _ p2 ⟨fun q => (by cases q), fun q => ?_⟩)
    rotate_left
    · have := (q.inner hL).2.2.1; simp only [nI_def] at e6; rw [wrap_succ (by omega)] at e6; simp at e6; omega
    simp only [nI_def] at e6
    rw [wrap_succ (by omega)] at e6
    refine page_all_int_spec EI (hi.mono p2) fun b3 H3 p3 hb3 => ?_
    simp only [rG_g, dB_bool]
    refine bite_of (fun e7 => ?_) (fun e7 => hQ _ _ (p2.trans p3) ⟨fun q => (by cases q), fun q => ?_⟩)
    rotate_left
    · rw [hb3.2 (by simpa using (q.inner hL).2.2.2.1)] at e7; cases e7
    refine page_unlike_spec (hi.mono (p2.trans p3)) fun b4 H4 p4 hb4 => ?_
    simp only [rG_g, dB_bool]
    refine hQ _ _ ((p2.trans p3).trans p4) (hb4.trans ⟨fun q => ⟨hU, hR, hK, fun q => (by rw [hL] at q; cases q), fun _ => ⟨?_, ?_, ?_, by simpa using hb3.1 e7, q⟩⟩, fun q => (q.inner hL).2.2.2.2⟩)
    · simp at e4; omega
    · simp at e5; exact List.eq_nil_of_length_eq_zero (by omega)
    · simp at e6; omega

theorem page_May_spec (h : PgAt H u l a1 n1 a2 n2 a3 n3 p) (hQ : ∀ b H', H <+: H' → (b = true ↔ MayP p) → Q (.g (.bool b)) H') :
    page_May [.agg [.bool u, .bool l, .sl a1 n1 1, .sl a2 n2 1, .sl a3 n3 1]] H Q := by
  have n1e := h.keys.len
  refine ⟨1, ?_⟩
  rw [page_May_eq]
  refine bite_of (fun e => ?_) (fun e => hQ _ _ (List.prefix_refl _) ⟨fun q => (by cases q), fun q => ?_⟩)
  · refine page_Fits_spec h fun b H' hp hb => ?_
    simp only [rG_g, dB_bool]
    simp at e
    exact hQ _ _ hp (hb.trans ⟨fun q => ⟨by omega, q⟩, fun q => q.2⟩)
  · have := q.1; simp at e; omega

/-! the document's -/
theorem ref1_rising_spec {xs : List ByteArray} (h : Ss H a1 n1 xs) (hQ : ∀ b, (b = true ↔ (Rising xs ∧ ∀ k ∈ xs, 1 ≤ k.size ∧ k.size ≤ 6)) → Q (.g (.bool b)) H) : ref1_rising [.g (.sl a1 n1 1)] H Q := by
  have hn := h.len
  have hlim := h.lim
  have loop : ∀ m k : Nat, xs.length - k = m → k ≤ xs.length → (∀ i, (hi : i < xs.length) → i < k → 1 ≤ xs[i].size ∧ xs[i].size ≤ 6) → (∀ i, (hi : i + 1 < xs.length) → i + 1 < k → strLt (xs[i]'(by omega)) xs[i + 1] = true) →
      ∃ f, ref1_rising.l2 f a1 n1 (k : Int) H Q := by
    intro m
    induction m with
    | zero =>
      intro k hm hle h1 h2
      refine ⟨1, ?_⟩
      rw [ref1_rising.l2_eq, bite_f (by simp; omega)]
      exact hQ true ⟨fun _ => ⟨fun i hi => h2 i hi (by omega), fun s hs => by obtain ⟨i, hi, rfl⟩ := List.getElem_of_mem hs; exact h1 i hi (by omega)⟩, fun _ => rfl⟩
    | succ m ih =>
      intro k hm hle h1 h2
      have hkn : k < xs.length := by omega
      have hlt : ltI (k : Int) (nI n1) = true := by simp; omega
      by_cases c1 : xs[k].size < 1
      · refine ⟨1, ?_⟩
        rw [ref1_rising.l2_eq, bite_t hlt, chk_true, h.rd k rfl hkn, bite_t (by simp; omega)]
        exact hQ false ⟨fun q => (by cases q), fun q => by have := (q.2 _ (List.getElem_mem hkn)).1; omega⟩
      by_cases c2 : 6 < xs[k].size
      · refine ⟨1, ?_⟩
        rw [ref1_rising.l2_eq, bite_t hlt, chk_true, h.rd k rfl hkn, bite_f (by simp; omega), chk_true, h.rd k rfl hkn, bite_t (by simp; omega)]
        exact hQ false ⟨fun q => (by cases q), fun q => by have := (q.2 _ (List.getElem_mem hkn)).2; omega⟩
      have h1' : ∀ i, (hi : i < xs.length) → i < k + 1 → 1 ≤ xs[i].size ∧ xs[i].size ≤ 6 := fun i hi hik => by
        by_cases e : i = k
        · subst e; omega
        · exact h1 i hi (by omega)
      cases k with
      | zero =>
        obtain ⟨f, hf⟩ := ih 1 (by omega) (by omega) h1' (fun i hi h => by omega)
        refine ⟨f + 1, ?_⟩
        rw [ref1_rising.l2_eq, bite_t hlt, chk_true, h.rd 0 rfl hkn, bite_f (by simp; omega), chk_true, h.rd 0 rfl hkn, bite_f (by simp; omega), bite_f (by simp), wrap_succ (by omega)]
        exact hf
      | succ k =>
        cases hs : strLt (xs[k]'(by omega)) xs[k + 1] with
        | true =>
          obtain ⟨f, hf⟩ := ih (k + 1 + 1) (by omega) (by omega) h1' (fun i hi hik => by
            by_cases e : i = k
            · subst e; exact hs
            · exact h2 i hi (by omega))
          refine ⟨f + 1, ?_⟩
          rw [ref1_rising.l2_eq, bite_t hlt, chk_true, h.rd (k + 1) rfl hkn, bite_f (by simp; omega), chk_true, h.rd (k + 1) rfl hkn, bite_f (by simp; omega), bite_t (by simp <;> omega), chk_true, h.rd (k + 1) rfl hkn, chk_true,
            h.rd k (wrap_pred (by omega)) (by omega), bite_f (by rw [strLt_not] at hs; simpa using hs), wrap_succ (by omega)]
          exact hf
        | false =>
          refine ⟨1, ?_⟩
          rw [ref1_rising.l2_eq, bite_t hlt, chk_true, h.rd (k + 1) rfl hkn, bite_f (by simp; omega), chk_true, h.rd (k + 1) rfl hkn, bite_f (by simp; omega), bite_t (by simp <;> omega), chk_true, h.rd (k + 1) rfl hkn, chk_true,
            h.rd k (wrap_pred (by omega)) (by omega), bite_t (by rw [strLt_not] at hs; rw [strEq_def]; rw [Bool.not_eq_false'] at hs; exact hs)]
          exact hQ false ⟨fun q => (by cases q), fun q => by rw [q.1 k hkn] at hs; cases hs⟩
  obtain ⟨f, hf⟩ := loop _ 0 rfl (Nat.zero_le _) (fun i hi h => by omega) (fun i hi h => by omega)
  exact ⟨f + 1, by rw [ref1_rising_eq]; exact hf⟩

theorem ref1_PageWith_spec {most : Nat} (hmost : most ≤ 1000) (h : PgAt H u l a1 n1 a2 n2 a3 n3 p) (hQ : ∀ b, (b = true ↔ (p.keys.length ≤ most ∧ FitsP p)) → Q (.g (.bool b)) H) :
    ref1_PageWith [.agg [.bool u, .bool l, .sl a1 n1 1, .sl a2 n2 1, .sl a3 n3 1], .g (.int .i64 most)] H Q := by
  obtain ⟨hu, hl, hk, hv, hi⟩ := h
  have n1e := hk.len
  have n2e := hv.len
  have n3e := hi.len
  have l1 := hk.lim
  have l2 := hv.lim
  have l3 := hi.lim
  -- a leaf's values
  have leafs : p.leaf = true → (∀ b, (b = true ↔ (p.vals.length = p.keys.length ∧ p.kids = [] ∧ ∀ v ∈ p.vals, v.size ≤ 10)) → Q (.g (.bool b)) H) → ∀ m k : Nat, p.vals.length - k = m → k ≤ p.vals.length → (∀ i, (hi : i < p.vals.length) → i < k → (p.vals[i]).size ≤ 10) →
      ∃ f, ref1_PageWith.l5 f u l a1 n1 a2 n2 a3 n3 (k : Int) H Q := by
    intro hL hQ' m
    induction m with
    | zero =>
      intro k hm hle h1
      refine ⟨1, ?_⟩
      rw [ref1_PageWith.l5_eq, bite_f (by simp; omega)]
      have hall : ∀ v ∈ p.vals, v.size ≤ 10 := fun s hs => by obtain ⟨i, hi, rfl⟩ := List.getElem_of_mem hs; exact h1 i hi (by omega)
      refine bite_of (fun e => hQ' _ ?_) (fun e => hQ' _ ⟨fun q => (by cases q), fun q => ?_⟩)
      · simp at e ⊢
        refine ⟨fun q => ⟨by omega, List.eq_nil_of_length_eq_zero (by omega), hall⟩, fun q => ?_⟩
        have := q.2.1
        rw [this] at n3e; exact n3e
      · have := q.1; simp at e; omega
    | succ m ih =>
      intro k hm hle h1
      have hkn : k < p.vals.length := by omega
      have hlt : ltI (k : Int) (nI n2) = true := by simp; omega
      by_cases c1 : 10 < (p.vals[k]).size
      · refine ⟨1, ?_⟩
        rw [ref1_PageWith.l5_eq, bite_t hlt, chk_true, hv.rd k rfl hkn, bite_t (by simp; omega)]
        exact hQ' false ⟨fun q => (by cases q), fun q => by have := q.2.2 _ (List.getElem_mem hkn); omega⟩
      · obtain ⟨f, hf⟩ := ih (k + 1) (by omega) (by omega) (fun i hi hik => by
          by_cases e : i = k
          · subst e; omega
          · exact h1 i hi (by omega))
        refine ⟨f + 1, ?_⟩
        rw [ref1_PageWith.l5_eq, bite_t hlt, chk_true, hv.rd k rfl hkn, bite_f (by simp; omega), wrap_succ (by omega)]
        exact hf
  -- an inner page's kids
  have inners : p.leaf = false → (∀ b, (b = true ↔ (1 ≤ p.keys.length ∧ p.vals = [] ∧ p.kids.length = p.keys.length + 1 ∧ (∀ k ∈ p.kids, 1 ≤ k ∧ k < 48) ∧ p.kids.Nodup)) → Q (.g (.bool b)) H) → ∀ m k : Nat, p.kids.length - k = m → k ≤ p.kids.length →
      (∀ i, (hi : i < p.kids.length) → i < k → 1 ≤ p.kids[i] ∧ p.kids[i] < 48) → (∀ i j, (hj : j < p.kids.length) → (hij : i < j) → j < k → p.kids[i]'(by omega) ≠ p.kids[j]) →
      ∃ f, ref1_PageWith.l11 f u l a1 n1 a2 n2 a3 n3 (k : Int) H Q := by
    intro hL hQ' m
    induction m with
    | zero =>
      intro k hm hle h1 h2
      refine ⟨1, ?_⟩
      rw [ref1_PageWith.l11_eq, bite_f (by simp; omega)]
      have hall : ∀ v ∈ p.kids, 1 ≤ v ∧ v < 48 := fun s hs => by obtain ⟨i, hi, rfl⟩ := List.getElem_of_mem hs; exact h1 i hi (by omega)
      have hnd : p.kids.Nodup := by
        rw [List.Nodup, List.pairwise_iff_getElem]
        exact fun i j _ hj hij => h2 i j hj hij (by omega)
      refine bite_of (fun e => ?_) (fun e => hQ' _ ⟨fun q => (by cases q), fun q => ?_⟩)
      rotate_left
      · have := q.1; simp at e; omega
      refine bite_of (fun e2 => hQ' _ ?_) (fun e2 => hQ' _ ⟨fun q => (by cases q), fun q => ?_⟩)
      rotate_left
      · have := q.2.1; rw [this] at n2e; simp at e2 n2e; omega
      simp only [nI_def]
      rw [wrap_succ (by omega)]
      simp at e e2 ⊢
      exact ⟨fun q => ⟨by omega, List.eq_nil_of_length_eq_zero (by omega), by omega, hall, hnd⟩, fun q => by have := q.2.2.1; omega⟩
    | succ m ih =>
      intro k hm hle h1 h2
      have hkn : k < p.kids.length := by omega
      have hlt : ltI (k : Int) (nI n3) = true := by simp; omega
      by_cases c1 : p.kids[k] < 1
      · refine ⟨1, ?_⟩
        rw [ref1_PageWith.l11_eq, bite_t hlt, chk_true, hi.rd k rfl hkn, bite_t (by simpa using c1)]
        exact hQ' false ⟨fun q => (by cases q), fun q => by have := q.2.2.2.1 _ (List.getElem_mem hkn); omega⟩
      by_cases c2 : 48 ≤ p.kids[k]
      · refine ⟨1, ?_⟩
        rw [ref1_PageWith.l11_eq, bite_t hlt, chk_true, hi.rd k rfl hkn, bite_f (by simpa using c1), chk_true, hi.rd k rfl hkn, bite_t (by simpa using c2)]
        exact hQ' false ⟨fun q => (by cases q), fun q => by have := q.2.2.2.1 _ (List.getElem_mem hkn); omega⟩
      -- the inner loop
      have loop : ∀ m' j : Nat, k - j = m' → j ≤ k → (∀ i, (hi : i < j) → (hi2 : i < k) → p.kids[i]'(by omega) ≠ p.kids[k]) → ∃ f, ref1_PageWith.l16 f u l a1 n1 a2 n2 a3 n3 (k : Int) (j : Int) H Q := by
        intro m'
        induction m' with
        | zero =>
          intro j hj hjk h3
          obtain ⟨f, hf⟩ := ih (k + 1) (by omega) (by omega)
            (fun i hi hik => by
              by_cases e : i = k
              · subst e; omega
              · exact h1 i hi (by omega))
            (fun i j' hj' hij hjk' => by
              by_cases e : j' = k
              · subst e; exact h3 i (by omega) hij
              · exact h2 i j' hj' hij (by omega))
          refine ⟨f + 1, ?_⟩
          rw [ref1_PageWith.l16_eq, bite_f (by simp; omega), wrap_succ (by omega)]
          exact hf
        | succ m' ih' =>
          intro j hj hjk h3
          have hjn : j < p.kids.length := by omega
          by_cases e : p.kids[j] = p.kids[k]
          · refine ⟨1, ?_⟩
            rw [ref1_PageWith.l16_eq, bite_t (by simp; omega), chk_true, hi.rd j rfl hjn, chk_true, hi.rd k rfl hkn, bite_t (by simpa using e)]
            refine hQ' false ⟨fun q => (by cases q), fun q => ?_⟩
            exact ((List.pairwise_iff_getElem.1 q.2.2.2.2) j k hjn hkn (by omega) e).elim
          · obtain ⟨f, hf⟩ := ih' (j + 1) (by omega) (by omega) (fun i hi hi2 => by
              by_cases e' : i = j
              · subst e'; exact e
              · exact h3 i (by omega) hi2)
            refine ⟨f + 1, ?_⟩
            rw [ref1_PageWith.l16_eq, bite_t (by simp; omega), chk_true, hi.rd j rfl hjn, chk_true, hi.rd k rfl hkn, bite_f (by simpa using e), wrap_succ (by omega)]
            exact hf
      obtain ⟨f, hf⟩ := loop _ 0 rfl (Nat.zero_le _) (fun i hi => by omega)
      refine ⟨f + 1, ?_⟩
      rw [ref1_PageWith.l11_eq, bite_t hlt, chk_true, hi.rd k rfl hkn, bite_f (by simpa using c1), chk_true, hi.rd k rfl hkn, bite_f (by simpa using c2)]
      exact hf
  -- the function
  by_cases cu : u = true
  rotate_left
  · refine ⟨1, ?_⟩
    rw [ref1_PageWith_eq, bite_t (by cases u <;> simp_all)]
    exact hQ _ ⟨fun q => (by cases q), fun q => by have := q.2.used; rw [hu] at this; exact (cu this).elim⟩
  by_cases cr : Rising p.keys ∧ ∀ k ∈ p.keys, 1 ≤ k.size ∧ k.size ≤ 6
  rotate_left
  · refine ⟨1, ?_⟩
    rw [ref1_PageWith_eq, bite_f (by rw [cu]; rfl)]
    refine ref1_rising_spec hk fun b hb => ?_
    simp only [rG_g, dB_bool]
    rw [bite_t (by cases b with | false => rfl | true => exact (cr (hb.1 rfl)).elim)]
    exact hQ _ ⟨fun q => (by cases q), fun q => (cr ⟨q.2.rising, q.2.keys⟩).elim⟩
  by_cases cm : n1 ≤ most
  rotate_left
  · refine ⟨1, ?_⟩
    rw [ref1_PageWith_eq, bite_f (by rw [cu]; rfl)]
    refine ref1_rising_spec hk fun b hb => ?_
    simp only [rG_g, dB_bool]
    rw [bite_f (by rw [hb.2 cr]; rfl), bite_t (by simp; omega)]
    exact hQ _ ⟨fun q => (by cases q), fun q => by have := q.1; omega⟩
  cases hL : p.leaf with
  | true =>
    obtain ⟨f, hf⟩ := leafs hL (fun b hb => hQ b (hb.trans ⟨fun q => ⟨by omega, by rw [hu]; exact cu, cr.1, cr.2, fun _ => q, fun e => (by rw [hL] at e; cases e)⟩, fun q => q.2.leaf hL⟩)) _ 0 rfl (Nat.zero_le _) (fun i hi h => by omega)
    refine ⟨f + 1, ?_⟩
    rw [ref1_PageWith_eq, bite_f (by rw [cu]; rfl)]
    refine ref1_rising_spec hk fun b hb => ?_
    simp only [rG_g, dB_bool]
    rw [bite_f (by rw [hb.2 cr]; rfl), bite_f (by simp; omega), bite_t (by rw [← hl]; exact hL)]
    exact hf
  | false =>
    obtain ⟨f, hf⟩ := inners hL (fun b hb => hQ b (hb.trans ⟨fun q => ⟨by omega, by rw [hu]; exact cu, cr.1, cr.2, fun e => (by rw [hL] at e; cases e), fun _ => q⟩, fun q => q.2.inner hL⟩)) _ 0 rfl (Nat.zero_le _) (fun i hi h => by omega) (fun i j hj hij h => by omega)
    refine ⟨f + 1, ?_⟩
    rw [ref1_PageWith_eq, bite_f (by rw [cu]; rfl)]
    refine ref1_rising_spec hk fun b hb => ?_
    simp only [rG_g, dB_bool]
    rw [bite_f (by rw [hb.2 cr]; rfl), bite_f (by simp; omega), bite_f (by rw [← hl]; exact hL)]
    exact hf

theorem ref1_PageMay_spec (h : PgAt H u l a1 n1 a2 n2 a3 n3 p) (hQ : ∀ b, (b = true ↔ MayP p) → Q (.g (.bool b)) H) :
    ref1_PageMay [.agg [.bool u, .bool l, .sl a1 n1 1, .sl a2 n2 1, .sl a3 n3 1]] H Q := by
  refine ⟨1, ?_⟩
  rw [ref1_PageMay_eq]
  refine ref1_PageWith_spec (most := 4) (by omega) h fun b hb => ?_
  simp only [rG_g, dB_bool]
  exact hQ b hb
end
end Go.Am
namespace Go.Am

theorem set_same {α : Type} {l : List α} {i : Nat} {x : α} (h : l[i]? = some x) : l.set i x = l := by
  apply List.ext_getElem?
  intro j
  rw [List.getElem?_set]
  split
  · rename_i e; subst e; rw [h]; rw [if_pos (List.getElem?_eq_some_iff.1 h).1]
  · rfl

def Dj (a b : Pl) : Prop := ∀ l, a = some (l, 0) → b ≠ some (l, 0)
theorem Dj.symm {a b : Pl} (h : Dj a b) : Dj b a := fun l h1 h2 => h l h2 h1
theorem Own.lt' {H : Hp} {b : Nat} {t : TypeId} {a : Pl} {n : Nat} {cs : List GV} (h : Own H b t a n cs) {l : Nat} (e : a = some (l, 0)) : l < H.length := by subst e; exact h.lt
theorem Own.after {H0 H H' : Hp} {b : Nat} {t : TypeId} {a a0 : Pl} {n : Nat} {cs : List GV} (h : Own H b t a n cs) (hd : Dj a0 a) (hx : Ex H0 a0 H H') : Own H' b t a n cs :=
  h.keep fun l e => hx.row l (h.lt' e) fun e0 => hd l e0 e
theorem Dj.fresh {H : Hp} {b : Nat} {t : TypeId} {a a' : Pl} {n : Nat} {cs : List GV} (h : Own H b t a n cs) (hf : ∀ l o, a' = some (l, o) → H.length ≤ l) : Dj a' a := fun l e1 e2 => by
  have := hf l 0 e1; have := h.lt' e2; omega
theorem Own.set {H : Hp} {b : Nat} {t : TypeId} {a : Pl} {n : Nat} {cs : List GV} (h : Own H b t a n cs) {l : Nat} (hd : a ≠ some (l, 0)) (x : Obj) : Own (H.set l x) b t a n cs :=
  h.keep fun l' e => by rw [List.getElem?_set_ne]; intro q; subst q; exact hd e

/-- a page in rows of one's own -/
structure PgOwn (H : Hp) (b : Nat) (u l : Bool) (a1 : Pl) (n1 : Nat) (a2 : Pl) (n2 : Nat) (a3 : Pl) (n3 : Nat) (p : Pg) : Prop where
  used : p.used = u
  leaf : p.leaf = l
  keys : Own H b tS a1 n1 (p.keys.map GV.str)
  vals : Own H b tS a2 n2 (p.vals.map GV.str)
  kids : Own H b tI a3 n3 (p.kids.map (GV.int .i64))
  d12 : Dj a1 a2
  d13 : Dj a1 a3
  d23 : Dj a2 a3
  small : n1 ≤ 1000 ∧ n2 ≤ 1000 ∧ n3 ≤ 1000
theorem PgOwn.at {H : Hp} {b : Nat} {u l : Bool} {a1 : Pl} {n1 : Nat} {a2 : Pl} {n2 : Nat} {a3 : Pl} {n3 : Nat} {p : Pg} (h : PgOwn H b u l a1 n1 a2 n2 a3 n3 p) : PgAt H u l a1 n1 a2 n2 a3 n3 p := by
  obtain ⟨h1, h2, h3, h4, h5, _, _, _, s⟩ := h
  refine ⟨h1, h2, ⟨h3.cells, ?_, by omega⟩, ⟨h4.cells, ?_, by omega⟩, ⟨h5.cells, ?_, by omega⟩⟩
  · have := h3.len; simpa using this.symm
  · have := h4.len; simpa using this.symm
  · have := h5.len; simpa using this.symm
theorem Own.mono {H H' : Hp} (hp : H <+: H') {b : Nat} {t : TypeId} {a : Pl} {n : Nat} {cs : List GV} (h : Own H b t a n cs) : Own H' b t a n cs := h.keep fun l e => pre_at hp (h.lt' e)
theorem PgOwn.mono {H H' : Hp} (hp : H <+: H') {b : Nat} {u l : Bool} {a1 : Pl} {n1 : Nat} {a2 : Pl} {n2 : Nat} {a3 : Pl} {n3 : Nat} {p : Pg} (h : PgOwn H b u l a1 n1 a2 n2 a3 n3 p) : PgOwn H' b u l a1 n1 a2 n2 a3 n3 p :=
  ⟨h.used, h.leaf, h.keys.mono hp, h.vals.mono hp, h.kids.mono hp, h.d12, h.d13, h.d23, h.small⟩

def noPg : Pg := ⟨false, false, [], [], []⟩
theorem noPg_own (H : Hp) (b : Nat) : PgOwn H b false false none 0 none 0 none 0 noPg :=
  ⟨rfl, rfl, .inl ⟨rfl, rfl, rfl⟩, .inl ⟨rfl, rfl, rfl⟩, .inl ⟨rfl, rfl, rfl⟩, fun _ e => (by cases e), fun _ e => (by cases e), fun _ e => (by cases e), by omega⟩

theorem noPg_at (H : Hp) : PgAt H false false none 0 none 0 none 0 noPg := (noPg_own H 0).at
theorem law0_Num_spec {n : Int} {H : Hp} {Q : Post} (hQ : Q (.g (.int .i64 n)) H) : law0_Num [.g (.int .i64 n)] H Q := ⟨1, by rw [law0_Num_eq]; exact hQ⟩

section
variable {H : Hp} {Q : Post} {a1 a2 : Pl} {n1 n2 : Nat}
end

section
variable {H : Hp} {Q : Post} {u l : Bool} {a1 : Pl} {n1 : Nat} {a2 : Pl} {n2 : Nat} {a3 : Pl} {n3 : Nat} {p : Pg} {u' l' : Bool} {a1' : Pl} {n1' : Nat} {a2' : Pl} {n2' : Nat} {a3' : Pl} {n3' : Nat} {q : Pg}
end

/-! written over -/
theorem Own.wr {H0 H : Hp} {t : TypeId} {a : Pl} {n : Nat} {cs : List GV} {v : GV} {K : Hp → Prop} (h0 : H0 <+: H) (h : Own H H0.length t a n cs) (k : Nat) {i : Int} (hi : i = k) (hk : k < n)
    (hK : ∀ H', Own H' H0.length t a n (cs.set k v) → Ex H0 a H H' → K H') : chk (leI 0 i && ltI i (nI n)) (pS a fun n5 n6 => Am.wr H n5 (n6 + tN i * 1) v K) := by
  subst hi
  refine chk_of (by simp; omega) ?_
  rcases h with ⟨_, rfl, _⟩ | ⟨l, rfl, hb, hl, hn⟩
  · omega
  · simp only [pS_some, tN_def, Int.toNat_natCast, Nat.mul_one, Nat.zero_add]
    rw [wr_of hl (by omega)]
    refine hK _ (.inr ⟨l, rfl, hb, List.getElem?_set_self (List.getElem?_eq_some_iff.1 hl).1, by simpa using hn⟩) ⟨pre_set h0 hb _, by simp, fun l' _ hne => ?_⟩
    rw [List.getElem?_set_ne]
    intro e; subst e; exact hne rfl
theorem Ex.trans {H0 H H1 H2 : Hp} {a : Pl} (h : Ex H0 a H H1) (h' : Ex H0 a H1 H2) : Ex H0 a H H2 :=
  ⟨h'.pre, Nat.le_trans h.len h'.len, fun l hl hne => (h'.row l (Nat.lt_of_lt_of_le hl h.len) hne).trans (h.row l hl hne)⟩
theorem Ex.refl {H0 H : Hp} {a : Pl} (h : H0 <+: H) : Ex H0 a H H := ⟨h, Nat.le_refl _, fun _ _ _ => rfl⟩

section
variable {H0 H : Hp} {u l : Bool} {a1 : Pl} {n1 : Nat} {a2 : Pl} {n2 : Nat} {a3 : Pl} {n3 : Nat} {p : Pg}

theorem PgOwn.setVal (h : PgOwn H H0.length u l a1 n1 a2 n2 a3 n3 p) (h0 : H0 <+: H) (k : Nat) {i : Int} (hi : i = k) (hk : k < n2) (s : ByteArray) {K : Hp → Prop}
    (hK : ∀ H', H0 <+: H' → PgOwn H' H0.length u l a1 n1 a2 n2 a3 n3 { p with vals := p.vals.set k s } → K H') : chk (leI 0 i && ltI i (nI n2)) (pS a2 fun n5 n6 => Am.wr H n5 (n6 + tN i * 1) (.str s) K) :=
  h.vals.wr h0 k hi hk fun H' o x => hK H' x.pre ⟨h.used, h.leaf, h.keys.after h.d12.symm x, by rw [List.map_set]; exact o, h.kids.after h.d23 x, h.d12, h.d13, h.d23, h.small⟩
end

end Go.Am
namespace Go.Am

/-! rows of one's own, in part -/
/-- a slice in a row of one's own, whose number lies from lo on and below hi -/
def Mine (H : Hp) (lo hi : Nat) (t : TypeId) (a : Pl) (n : Nat) (cs : List GV) : Prop :=
  (a = none ∧ n = 0 ∧ cs = []) ∨ ∃ l o ds, a = some (l, o) ∧ lo ≤ l ∧ l < hi ∧ H[l]? = some (.row true t ds) ∧ o + n ≤ ds.length ∧ (ds.drop o).take n = cs
def Dr (a b : Pl) : Prop := ∀ l o o', a = some (l, o) → b ≠ some (l, o')
/-- the heap goes on: of what was there the rows from lo on and below hi alone have turned -/
structure Ch (lo hi : Nat) (H H' : Hp) : Prop where
  len : H.length ≤ H'.length
  row : ∀ l, l < H.length → ¬ (lo ≤ l ∧ l < hi) → H'[l]? = H[l]?
theorem Ch.trans {lo hi : Nat} {H H1 H2 : Hp} (h : Ch lo hi H H1) (h' : Ch lo hi H1 H2) : Ch lo hi H H2 :=
  ⟨Nat.le_trans h.len h'.len, fun l hl hn => (h'.row l (Nat.lt_of_lt_of_le hl h.len) hn).trans (h.row l hl hn)⟩
theorem Ch.refl (lo hi : Nat) (H : Hp) : Ch lo hi H H := ⟨Nat.le_refl _, fun _ _ _ => rfl⟩
theorem Ch.of_pre {lo hi : Nat} {H H' : Hp} (h : H <+: H') : Ch lo hi H H' := ⟨h.length_le, fun l hl _ => pre_at h hl⟩
theorem Ch.pre {lo hi : Nat} {H0 H H' : Hp} (h : Ch lo hi H H') (h0 : H0 <+: H) (hl : H0.length ≤ lo) : H0 <+: H' := by
  rw [List.prefix_iff_eq_take]
  apply List.ext_getElem?
  intro i
  rw [List.getElem?_take]
  split
  · rename_i hi
    rw [h.row i (Nat.lt_of_lt_of_le hi h0.length_le) (by omega), pre_at h0 hi]
  · rename_i hi
    exact List.getElem?_eq_none (by omega)

section
variable {H H' : Hp} {lo hi : Nat} {t : TypeId} {a : Pl} {n : Nat} {cs : List GV}
theorem Mine.keep (h : Mine H lo hi t a n cs) (hk : ∀ l o, a = some (l, o) → H'[l]? = H[l]?) : Mine H' lo hi t a n cs := by
  rcases h with h | ⟨l, o, ds, rfl, h1, h2, h3, h4, h5⟩
  · exact .inl h
  · exact .inr ⟨l, o, ds, rfl, h1, h2, by rw [hk l o rfl]; exact h3, h4, h5⟩
theorem Mine.lt (h : Mine H lo hi t a n cs) {l o : Nat} (e : a = some (l, o)) : l < H.length ∧ lo ≤ l ∧ l < hi := by
  rcases h with ⟨h, _⟩ | ⟨l', o', ds, e', h1, h2, h3, _⟩
  · rw [h] at e; cases e
  · rw [e'] at e; cases e; exact ⟨(List.getElem?_eq_some_iff.1 h3).1, h1, h2⟩
theorem Mine.mono (h : Mine H lo hi t a n cs) (hp : H <+: H') : Mine H' lo hi t a n cs := h.keep fun l o e => pre_at hp (h.lt e).1
theorem Mine.cells (h : Mine H lo hi t a n cs) : cells? H a n = some cs := by
  rcases h with ⟨rfl, rfl, rfl⟩ | ⟨l, o, ds, rfl, h1, h2, h3, h4, h5⟩
  · rfl
  · simp only [cells?, h3]; rw [if_pos h4, h5]
theorem Mine.len (h : Mine H lo hi t a n cs) : cs.length = n := cells_len h.cells
/-- a part of it -/
theorem Mine.part (h : Mine H lo hi t a n cs) (k m : Nat) (hm : k + m ≤ n) : Mine H lo hi t (shf a k) m ((cs.drop k).take m) := by
  rcases h with ⟨rfl, rfl, rfl⟩ | ⟨l, o, ds, rfl, q1, q2, q3, q4, q5⟩
  · exact .inl ⟨rfl, by omega, by simp⟩
  · refine .inr ⟨l, o + k, ds, rfl, q1, q2, q3, by omega, ?_⟩
    rw [← q5, List.drop_take, List.take_take, List.drop_drop, Nat.min_eq_left (by omega)]
theorem Dr.shf {b : Pl} (h : Dr a b) (k m : Nat) : Dr (shf a k) (shf b m) := by
  intro l o o' h1 h2
  cases a with
  | none => cases h1
  | some p =>
    cases b with
    | none => cases h2
    | some q =>
      obtain ⟨p1, p2⟩ := p
      obtain ⟨q1, q2⟩ := q
      simp at h1 h2
      exact h l p2 q2 (by rw [h1.1]) (by rw [h2.1])
theorem Mine.wr (h : Mine H lo hi t a n cs) (k : Nat) {i : Int} (hi' : i = k) (hk : k < n) {v : GV} {K : Hp → Prop}
    (hK : ∀ H', Mine H' lo hi t a n (cs.set k v) → Ch lo hi H H' → (∀ l, l < H.length → (∀ o, a ≠ some (l, o)) → H'[l]? = H[l]?) → K H') : chk (leI 0 i && ltI i (nI n)) (pS a fun n5 n6 => Am.wr H n5 (n6 + tN i * 1) v K) := by
  subst hi'
  refine chk_of (by simp; omega) ?_
  rcases h with ⟨_, rfl, _⟩ | ⟨l, o, ds, rfl, q1, q2, q3, q4, q5⟩
  · omega
  · simp only [pS_some, tN_def, Int.toNat_natCast, Nat.mul_one]
    rw [wr_of q3 (by omega)]
    have hl := (List.getElem?_eq_some_iff.1 q3).1
    refine hK _ (.inr ⟨l, o, _, rfl, q1, q2, List.getElem?_set_self hl, by simpa using q4, ?_⟩) ⟨by simp, fun l' _ hne => ?_⟩ (fun l' _ hne => ?_)
    · rw [← q5, List.drop_set, if_neg (by omega), List.take_set, show o + k - o = k by omega]
    · rw [List.getElem?_set_ne]; intro e; subst e; exact hne ⟨q1, q2⟩
    · rw [List.getElem?_set_ne]; intro e; subst e; exact hne o rfl
end

/-- a page in rows of one's own -/
structure PgM (H : Hp) (lo hi : Nat) (u l : Bool) (a1 : Pl) (n1 : Nat) (a2 : Pl) (n2 : Nat) (a3 : Pl) (n3 : Nat) (p : Pg) : Prop where
  used : p.used = u
  leaf : p.leaf = l
  keys : Mine H lo hi tS a1 n1 (p.keys.map GV.str)
  vals : Mine H lo hi tS a2 n2 (p.vals.map GV.str)
  kids : Mine H lo hi tI a3 n3 (p.kids.map (GV.int .i64))
  d12 : Dr a1 a2
  d13 : Dr a1 a3
  d23 : Dr a2 a3
  small : n1 ≤ 1000 ∧ n2 ≤ 1000 ∧ n3 ≤ 1000
section
variable {H H' : Hp} {lo hi : Nat} {u l : Bool} {a1 : Pl} {n1 : Nat} {a2 : Pl} {n2 : Nat} {a3 : Pl} {n3 : Nat} {p : Pg}
theorem PgM.at (h : PgM H lo hi u l a1 n1 a2 n2 a3 n3 p) : PgAt H u l a1 n1 a2 n2 a3 n3 p := by
  obtain ⟨h1, h2, h3, h4, h5, _, _, _, s⟩ := h
  refine ⟨h1, h2, ⟨h3.cells, ?_, by omega⟩, ⟨h4.cells, ?_, by omega⟩, ⟨h5.cells, ?_, by omega⟩⟩
  · have := h3.len; simpa using this.symm
  · have := h4.len; simpa using this.symm
  · have := h5.len; simpa using this.symm
theorem PgM.mono (h : PgM H lo hi u l a1 n1 a2 n2 a3 n3 p) (hp : H <+: H') : PgM H' lo hi u l a1 n1 a2 n2 a3 n3 p :=
  ⟨h.used, h.leaf, h.keys.mono hp, h.vals.mono hp, h.kids.mono hp, h.d12, h.d13, h.d23, h.small⟩
theorem Own.dr {b : Nat} {t t' : TypeId} {a a' : Pl} {n n' : Nat} {cs cs' : List GV} (h : Own H b t a n cs) (h' : Own H b t' a' n' cs') (hd : Dj a a') : Dr a a' := by
  intro l o o' e e'
  rcases h with ⟨q, _⟩ | ⟨m, q, _⟩
  · rw [q] at e; cases e
  · rcases h' with ⟨q', _⟩ | ⟨m', q', _⟩
    · rw [q'] at e'; cases e'
    · rw [q] at e; rw [q'] at e'
      cases e; cases e'
      exact hd l q q'
end


end Go.Am
namespace Go.Am
/-! trees -/
/-- a page's cells -/
structure PC where
  u : Bool
  l : Bool
  a1 : Pl
  n1 : Nat
  a2 : Pl
  n2 : Nat
  a3 : Pl
  n3 : Nat
def PC.cells (c : PC) : List GV := [.bool c.u, .bool c.l, .sl c.a1 c.n1 1, .sl c.a2 c.n2 1, .sl c.a3 c.n3 1]
@[simp] theorem PC.cells_length (c : PC) : c.cells.length = 5 := rfl
def PC.at (H : Hp) (c : PC) (p : Pg) : Prop := PgAt H c.u c.l c.a1 c.n1 c.a2 c.n2 c.a3 c.n3 p
theorem PC.at.mono {H H' : Hp} (hp : H <+: H') {c : PC} {p : Pg} (h : c.at H p) : c.at H' p := PgAt.mono hp h
def pcells (cs : List PC) : List GV := cs.flatMap PC.cells
theorem pcells_length (cs : List PC) : (pcells cs).length = cs.length * 5 := by
  unfold pcells
  induction cs with
  | nil => rfl
  | cons c cs ih => simp [ih]; omega
theorem pcells_append (cs ds : List PC) : pcells (cs ++ ds) = pcells cs ++ pcells ds := by simp [pcells]
/-- the cell j of the page i -/
theorem pcells_get {cs : List PC} {i j : Nat} (hi : i < cs.length) (hj : j < 5) : (pcells cs)[i * 5 + j]? = (cs[i].cells)[j]? := by
  unfold pcells
  induction cs generalizing i with
  | nil => simp at hi
  | cons c cs ih =>
    simp only [List.flatMap_cons]
    cases i with
    | zero => rw [List.getElem?_append_left (by simp; omega)]; simp
    | succ i =>
      rw [List.getElem?_append_right (by simp; omega)]
      have e : (i + 1) * 5 + j - c.cells.length = i * 5 + j := by simp; omega
      rw [e, ih (by simpa using hi)]
      simp
/-- a slice of pages -/
structure Tr (H : Hp) (a : Pl) (n : Nat) (cs : List PC) (T : List Pg) : Prop where
  cells : cells? H a (n * 5) = some (pcells cs)
  len : cs.length = n
  lenT : T.length = n
  all : ∀ i (h : i < cs.length) (h' : i < T.length), (cs[i]).at H T[i]
theorem Tr.mono {H H' : Hp} (hp : H <+: H') {a : Pl} {n : Nat} {cs : List PC} {T : List Pg} (h : Tr H a n cs T) : Tr H' a n cs T := ⟨cells_mono hp h.cells, h.len, h.lenT, fun i h1 h2 => (h.all i h1 h2).mono hp⟩

/-- a page of it -/
theorem Tr.get {H : Hp} {a : Pl} {n : Nat} {cs : List PC} {T : List Pg} (h : Tr H a n cs T) {i : Nat} (hi : i < n) : ∃ l o c p, a = some (l, o) ∧ cs[i]? = some c ∧ T[i]? = some p ∧ c.at H p ∧
    gt H l (o + i * 5) = some (.bool c.u) ∧ gt H l (o + i * 5 + 1) = some (.bool c.l) ∧ gt H l (o + i * 5 + 2) = some (.sl c.a1 c.n1 1) ∧ gt H l (o + i * 5 + 3) = some (.sl c.a2 c.n2 1) ∧ gt H l (o + i * 5 + 4) = some (.sl c.a3 c.n3 1) := by
  have h1 := h.len
  have h2 := h.lenT
  have hc := h.cells
  cases a with
  | none => simp [cells?] at hc; omega
  | some q =>
    obtain ⟨l, o⟩ := q
    have hk : ∀ j, j < 5 → gt H l (o + i * 5 + j) = ((cs[i]'(by omega)).cells)[j]? := by
      intro j hj
      have := cells_get hc (j := i * 5 + j) (by omega)
      rw [← Nat.add_assoc] at this
      rw [this, pcells_get (by omega) hj]
    exact ⟨l, o, cs[i]'(by omega), T[i]'(by omega), rfl, by simp, by simp, h.all i (by omega) (by omega), hk 0 (by omega), hk 1 (by omega), hk 2 (by omega), hk 3 (by omega), hk 4 (by omega)⟩
theorem rdPage_of {H : Hp} {l j : Nat} {c : PC} {K : Bool → Bool → Pl → Nat → Pl → Nat → Pl → Nat → Prop} (h0 : gt H l j = some (.bool c.u)) (h1 : gt H l (j + 1) = some (.bool c.l)) (h2 : gt H l (j + 2) = some (.sl c.a1 c.n1 1)) (h3 : gt H l (j + 3) = some (.sl c.a2 c.n2 1)) (h4 : gt H l (j + 4) = some (.sl c.a3 c.n3 1)) :
    (rd H l j fun v0 => dB v0 fun b0 => rd H l (j + 1) fun v1 => dB v1 fun b1 => rd H l (j + 1 + 1) fun v2 => dL 1 v2 fun x2 n2 => rd H l (j + 1 + 1 + 1) fun v3 => dL 1 v3 fun x3 n3 => rd H l (j + 1 + 1 + 1 + 1) fun v4 => dL 1 v4 fun x4 n4 => K b0 b1 x2 n2 x3 n3 x4 n4) = K c.u c.l c.a1 c.n1 c.a2 c.n2 c.a3 c.n3 := by
  rw [rd_of h0, dB_bool, rd_of h1, dB_bool, rd_of h2, dL_sl, rd_of h3, dL_sl, rd_of h4, dL_sl]
end Go.Am
namespace Go.Am
open Go.RowKit Go.ChangeShapes Go.WideShapes Go.Proofs

theorem zc_agg {P : Program} {W : World} {r : Reach} {b : Nat} {t : TypeId} {fs : Array Field} {v : Value} (ht : P.underlying t = some (.struct fs)) (h : Value.okWide P W r b t v) : ∃ us : Array Value, v = .agg us ∧ ∀ x ∈ us.toList, Zc W x := by
  unfold Value.okWide at h
  rw [ht] at h
  obtain ⟨us, rfl, _, ts, _, _, hc⟩ := h
  refine ⟨us, rfl, fun x hx => ?_⟩
  obtain ⟨i, hi, rfl⟩ := List.getElem_of_mem hx
  obtain ⟨u, _, hu⟩ := hc i us[i] (by simp)
  simp only [Array.getElem_toList]
  exact zc_of_ok hu

section
variable {Hh : Type} {enc : TypeId × Value → Hh} {W : World} {held : Bool}
set_option maxRecDepth 100000 in
theorem open_pg {fuel : Nat} {cs : List Value} {x : DataW Hh × List MemPlace} (h : DataW.trod enc Tryz.prog W 0 (fun _ => true) held fuel 75 cs = some x) (hz : ∀ v ∈ cs, Zc W v) (hw : (DataW.weights Tryz.prog 75 x.1).all (· ≤ reachBytes) = true)
    {φ : List LI} {H : Hp} (hr : RepH φ H W) (hn : NoOwn H) :
    ∃ φ' H' u l a1 n1 a2 n2 a3 n3 p, φ <+: φ' ∧ H <+: H' ∧ RepH φ' H' W ∧ NoOwn H' ∧ Is2 φ' [.bool u, .bool l, .sl a1 n1 1, .sl a2 n2 1, .sl a3 n3 1] cs ∧ PgAt H' u l a1 n1 a2 n2 a3 n3 p := by
  obtain ⟨xs, n, rfl, rfl, hlen, hxs, hf⟩ := DataW.trod_struct Tryz.underlying75 h
  have h5 : Tryz.prog.cellsOf 75 = 5 := by kernel_rfl
  have cB : Tryz.prog.cellsOf 4 = 1 := by kernel_rfl
  have c22 : Tryz.prog.cellsOf 27 = 1 := by kernel_rfl
  have c23 : Tryz.prog.cellsOf 73 = 1 := by kernel_rfl
  rw [h5] at hlen
  match cs, hlen with
  | [v0, v1, v2, v3, v4], _ =>
    have f0 : DataW.trod enc Tryz.prog W 0 (fun _ => true) held n 4 (([v0, v1, v2, v3, v4].drop 0).take (Tryz.prog.cellsOf 4)) = xs[0]? := hf 0 _ rfl
    have f1 : DataW.trod enc Tryz.prog W 0 (fun _ => true) held n 4 (([v0, v1, v2, v3, v4].drop 1).take (Tryz.prog.cellsOf 4)) = xs[1]? := hf 1 _ rfl
    have f2 : DataW.trod enc Tryz.prog W 0 (fun _ => true) held n 27 (([v0, v1, v2, v3, v4].drop 2).take (Tryz.prog.cellsOf 27)) = xs[2]? := hf 2 _ rfl
    have f3 : DataW.trod enc Tryz.prog W 0 (fun _ => true) held n 27 (([v0, v1, v2, v3, v4].drop 3).take (Tryz.prog.cellsOf 27)) = xs[3]? := hf 3 _ rfl
    have f4 : DataW.trod enc Tryz.prog W 0 (fun _ => true) held n 73 (([v0, v1, v2, v3, v4].drop 4).take (Tryz.prog.cellsOf 73)) = xs[4]? := hf 4 _ rfl
    simp only [cB, c22, c23, List.drop_zero, List.drop_succ_cons, List.take_succ_cons, List.take_zero] at f0 f1 f2 f3 f4
    match xs, hxs with
    | [x0, x1, x2, x3, x4], _ =>
      simp only [List.getElem?_cons_zero, List.getElem?_cons_succ] at f0 f1 f2 f3 f4
      simp only [List.map_cons, List.map_nil, DataW.weights, Tryz.underlying75] at hw
      obtain ⟨u, e0, _⟩ := DataW.trod_bool Tryz.underlying4 f0
      obtain ⟨l, e1, _⟩ := DataW.trod_bool Tryz.underlying4 f1
      simp only [List.cons.injEq, and_true] at e0 e1
      subst e0; subst e1
      obtain ⟨φ1, H1, a1, n1, ks, w2, e2, p1, q1, r1, o1, i1, s1⟩ := open_texts Tryz.underlying27 Tryz.underlying9 (by kernel_rfl) (by kernel_rfl) f2 (fun v hv => hz v (by simp at hv; simp [hv])) (all_each hw (j := 2) rfl rfl) hr hn
      obtain ⟨φ2, H2, a2, n2, vs, w3, e3, p2, q2, r2, o2, i2, s2⟩ := open_texts Tryz.underlying27 Tryz.underlying9 (by kernel_rfl) (by kernel_rfl) f3 (fun v hv => hz v (by simp at hv; simp [hv])) (all_each hw (j := 3) rfl rfl) r1 o1
      obtain ⟨φ3, H3, a3, n3, is, w4, e4, p3, q3, r3, o3, i3, s3⟩ := open_nums Tryz.underlying73 Tryz.underlying3 (by kernel_rfl) (by kernel_rfl) f4 (fun v hv => hz v (by simp at hv; simp [hv])) (all_each hw (j := 4) rfl rfl) r2 o2
      simp only [List.cons.injEq, and_true] at e2 e3 e4
      subst e2; subst e3; subst e4
      exact ⟨φ3, H3, u, l, a1, n1, a2, n2, a3, n3, ⟨u, l, ks, vs, is⟩, p1.trans (p2.trans p3), q1.trans (q2.trans q3), r3, o3,
        .cons rfl (.cons rfl (.cons (GV.is.mono (p2.trans p3) i1) (.cons (GV.is.mono p3 i2) (.cons i3 .nil)))), ⟨rfl, rfl, s1.mono (q2.trans q3), s2.mono q3, s3⟩⟩

theorem weights_all {P : Program} {e : TypeId} : ∀ {ds : List (DataW Hh)}, (DataW.weightsAll P e ds).all (· ≤ reachBytes) = true → ∀ {i : Nat} {d : DataW Hh}, ds[i]? = some d → (DataW.weights P e d).all (· ≤ reachBytes) = true
  | [], _, i, d, h => by simp at h
  | d0 :: r, hw, 0, d, h => by
    simp only [DataW.weightsAll, List.all_append, Bool.and_eq_true] at hw
    simp at h; subst h; exact hw.1
  | d0 :: r, hw, i + 1, d, h => by
    simp only [DataW.weightsAll, List.all_append, Bool.and_eq_true] at hw
    simp at h; exact weights_all hw.2 h
theorem Is2.get {φ : List LI} {cs : List GV} {vs : List Value} (h : Is2 φ cs vs) {j : Nat} {v : GV} (hj : cs[j]? = some v) : ∃ x, vs[j]? = some x ∧ v.is φ x := All2.get h hj
set_option maxRecDepth 100000 in
/-- a slice of pages -/
theorem open_pages {fuel : Nat} {cs : List Value} {x : DataW Hh × List MemPlace} (h : DataW.trod enc Tryz.prog W 0 (fun _ => true) held fuel 22 cs = some x) (hz : ∀ v ∈ cs, Zc W v) (hw : (DataW.weights Tryz.prog 22 x.1).all (· ≤ reachBytes) = true)
    {φ : List LI} {H : Hp} (hr : RepH φ H W) (hn : NoOwn H) :
    ∃ φ' H' a n ps T v, cs = [v] ∧ φ <+: φ' ∧ H <+: H' ∧ RepH φ' H' W ∧ NoOwn H' ∧ GV.is φ' (.sl a n 5) v ∧ Tr H' a n ps T ∧ n * 80 ≤ 140737488351232 := by
  have h5 : Tryz.prog.cellsOf 75 = 5 := by kernel_rfl
  rcases DataW.trod_slice Tryz.underlying22 h with ⟨rfl, rfl⟩ | ⟨a, len, cap, elems, rest, n, rfl, rfl, rfl, _, hl, hcap, hel, hi, hrest, _⟩
  · exact ⟨φ, H, none, 0, [], [], _, rfl, List.prefix_refl _, List.prefix_refl _, hr, hn, ⟨rfl, rfl⟩, ⟨rfl, rfl, rfl, fun i h1 => (by simp at h1)⟩, by omega⟩
  rw [h5] at hi hrest
  obtain ⟨hrl, hrj⟩ := hrest rfl
  simp only [DataW.weights, Tryz.underlying22] at hw
  rw [List.all_cons, List.all_append, Bool.and_eq_true, Bool.and_eq_true] at hw
  obtain ⟨hw0, hw1, _⟩ := hw
  have hpos : 0 < W.heap.size := hz (.slice (some a) len cap) (List.mem_singleton.2 rfl) _ _ _ rfl
  -- the first cell
  have hsp : 0 < cap → a.spot = none ∧ a.block < W.heap.size := by
    intro h0
    have hb : ∃ cs0, W.cells? 0 (a.add 0) 5 = some cs0 := by
      rcases Nat.eq_zero_or_pos len with e | e
      · have := hrj 0 (by omega)
        rw [e] at this
        simp only [Nat.zero_add, Nat.zero_mul] at this
        rw [List.getElem?_eq_getElem (by omega)] at this
        cases hc : W.cells? 0 (a.add 0) 5 with
        | none => rw [hc] at this; cases this
        | some c => exact ⟨c, rfl⟩
      · have := hi 0 e
        simp only [Nat.zero_mul] at this
        rw [List.getElem?_eq_getElem (by omega)] at this
        cases hc : W.cells? 0 (a.add 0) 5 with
        | none => rw [hc] at this; cases this
        | some c => exact ⟨c, rfl⟩
    obtain ⟨c0, hc0⟩ := hb
    obtain ⟨_, hlen, hget⟩ := World.cells?_some hc0
    have := hget 0 (by omega)
    rw [List.getElem?_eq_getElem (by omega)] at this
    have := cell_lt this
    simpa [Addr.add] using this
  -- one page behind the other
  have key : ∀ k, k ≤ len → ∃ (φ' : List LI) (H' : Hp) (ps : List PC) (T : List Pg), φ <+: φ' ∧ H <+: H' ∧ RepH φ' H' W ∧ NoOwn H' ∧ ps.length = k ∧ T.length = k ∧ (∀ i (h : i < ps.length) (h' : i < T.length), (ps[i]).at H' T[i]) ∧
      ∀ j v, (pcells ps)[j]? = some v → ∃ x, W.cell? (a.add j) = some x ∧ v.is φ' x := by
    intro k
    induction k with
    | zero => intro _; exact ⟨φ, H, [], [], List.prefix_refl _, List.prefix_refl _, hr, hn, rfl, rfl, fun i h1 => (by simp at h1), fun j v hj => (by simp [pcells] at hj)⟩
    | succ k ih =>
      intro hk
      obtain ⟨φ1, H1, ps, T, e1, g1, r1, n1, l1, l2, at1, c1⟩ := ih (by omega)
      have hik := hi k (by omega)
      have hel' : k < elems.length := by omega
      rw [List.getElem?_eq_getElem hel'] at hik
      cases hc : W.cells? 0 (a.add (k * 5)) 5 with
      | none => rw [hc] at hik; cases hik
      | some ck =>
        rw [hc] at hik
        obtain ⟨_, hlen, hget⟩ := World.cells?_some hc
        obtain ⟨φ2, H2, u, l, a1, n1', a2, n2, a3, n3, p, e2, g2, r2, n2', is2, at2⟩ := open_pg (x := elems[k]) hik (fun v hv => by intro _ _ _ _; exact hpos) (weights_all hw1 (i := k) (by rw [List.getElem?_map, List.getElem?_eq_getElem hel']; rfl)) r1 n1
        obtain ⟨hs, hb⟩ := hsp (by omega)
        refine ⟨φ2, H2, ps ++ [⟨u, l, a1, n1', a2, n2, a3, n3⟩], T ++ [p], e1.trans e2, g1.trans g2, r2, n2', by simp [l1], by simp [l2], ?_, ?_⟩
        · intro i h1 h2
          rw [List.getElem_append, List.getElem_append]
          by_cases e : i < k
          · rw [dif_pos (by omega), dif_pos (by omega)]
            exact (at1 i (by omega) (by omega)).mono g2
          · rw [dif_neg (by omega), dif_neg (by omega)]
            simpa [PC.at] using at2
        · intro j v hj
          rw [pcells_append] at hj
          rcases Nat.lt_or_ge j (k * 5) with q | q
          · rw [List.getElem?_append_left (by rw [pcells_length]; omega)] at hj
            obtain ⟨x, x1, x2⟩ := c1 j v hj
            exact ⟨x, x1, GV.is.mono e2 x2⟩
          · rw [List.getElem?_append_right (by rw [pcells_length]; omega), pcells_length, l1] at hj
            have hj5 : j - k * 5 < 5 := by have := (List.getElem?_eq_some_iff.1 hj).1; simpa [pcells] using this
            obtain ⟨x, hx, hvx⟩ := Is2.get is2 (j := j - k * 5) (v := v) (by simpa [pcells, PC.cells] using hj)
            refine ⟨x, ?_, hvx⟩
            have := hget (j - k * 5) hj5
            rw [hx] at this
            rw [← this, add_none hs, add_none hs]
            rw [add_none rfl]
            congr 2
            show a.off + j = a.off + k * 5 + (j - k * 5)
            omega
  obtain ⟨φ1, H1, ps, T, e1, g1, r1, n1, l1, l2, at1, c1⟩ := key len (Nat.le_refl _)
  obtain ⟨φ2, H2, p, e2, g2, r2, n2, i2, s2⟩ := open_row (z := 5) r1 n1 hl hpos hsp (pcells ps) (by rw [pcells_length, l1]) c1
  refine ⟨φ2, H2, p, len, ps, T, _, rfl, e1.trans e2, g1.trans g2, r2, n2, i2, ⟨s2, l1, l2, fun i h1 h2 => (at1 i h1 h2).mono g2⟩, ?_⟩
  have hb : Tryz.prog.bytesOf 75 = 80 := by kernel_rfl
  simp only [decide_eq_true_eq, List.length_map, hb, hel] at hw0
  unfold reachBytes at hw0
  omega
set_option maxRecDepth 100000 in
/-- a tree -/
theorem open_tree {fuel : Nat} {cs : List Value} {x : DataW Hh × List MemPlace} (h : DataW.trod enc Tryz.prog W 0 (fun _ => true) held fuel 24 cs = some x) (hz : ∀ v ∈ cs, Zc W v) (hw : (DataW.weights Tryz.prog 24 x.1).all (· ≤ reachBytes) = true)
    {φ : List LI} {H : Hp} (hr : RepH φ H W) (hn : NoOwn H) :
    ∃ φ' H' a n ps T, φ <+: φ' ∧ H <+: H' ∧ RepH φ' H' W ∧ NoOwn H' ∧ Is2 φ' [.sl a n 5] cs ∧ Tr H' a n ps T ∧ n * 80 ≤ 140737488351232 := by
  obtain ⟨xs, n, rfl, rfl, hlen, hxs, hf⟩ := DataW.trod_struct Tryz.underlying24 h
  have h1 : Tryz.prog.cellsOf 24 = 1 := by kernel_rfl
  have c1 : Tryz.prog.cellsOf 22 = 1 := by kernel_rfl
  rw [h1] at hlen
  match cs, hlen with
  | [v0], _ =>
    have f0 : DataW.trod enc Tryz.prog W 0 (fun _ => true) held n 22 (([v0].drop 0).take (Tryz.prog.cellsOf 22)) = xs[0]? := hf 0 _ rfl
    simp only [c1, List.drop_zero, List.take_succ_cons, List.take_zero] at f0
    match xs, hxs with
    | [x0], _ =>
      simp only [List.getElem?_cons_zero] at f0
      simp only [List.map_cons, List.map_nil, DataW.weights, Tryz.underlying24] at hw
      obtain ⟨φ1, H1, a, m, ps, T, v, e, p1, q1, r1, o1, i1, s1, b1⟩ := open_pages f0 (fun v hv => hz v hv) (all_each hw (j := 0) rfl rfl) hr hn
      simp only [List.cons.injEq, and_true] at e
      subst e
      exact ⟨φ1, H1, a, m, ps, T, p1, q1, r1, o1, .cons i1 .nil, s1, b1⟩
end
end Go.Am
namespace Go.Am

def blt (a b : ByteArray) : Bool := Op.bytesLess (bs a) (bs b)
theorem blt_eq (a b : ByteArray) : strLt a b = blt a b := strLt_bs a b

/-! a page's form, by a computation -/
def risB : List ByteArray → Bool
  | [] => true
  | [_] => true
  | a :: b :: r => Op.bytesLess (bs a) (bs b) && risB (b :: r)
theorem risB_iff : ∀ xs : List ByteArray, risB xs = true ↔ Rising xs
  | [] => ⟨fun _ i h => absurd h (by simp), fun _ => rfl⟩
  | [_] => ⟨fun _ i h => absurd h (by simp), fun _ => rfl⟩
  | a :: b :: r => by
    have ih := risB_iff (b :: r)
    simp only [risB, Bool.and_eq_true, ih, ← strLt_bs]
    constructor
    · rintro ⟨h1, h2⟩ i hi
      cases i with
      | zero => exact h1
      | succ i => exact h2 i (by simp at hi ⊢; omega)
    · intro h
      refine ⟨h 0 (by simp), fun i hi => ?_⟩
      exact h (i + 1) (by simp at hi ⊢; omega)
def nodB : List Int → Bool
  | [] => true
  | a :: r => !(r.contains a) && nodB r
theorem nodB_iff : ∀ xs : List Int, nodB xs = true ↔ xs.Nodup
  | [] => by simp [nodB]
  | a :: r => by simp [nodB, nodB_iff r]
def fitsB (p : Pg) : Bool := p.used && (risB p.keys && (p.keys.all (fun k => decide (1 ≤ k.size) && decide (k.size ≤ 6)) &&
  (match p.leaf with
   | true => decide (p.vals.length = p.keys.length) && (p.kids.isEmpty && p.vals.all (fun v => decide (v.size ≤ 10)))
   | false => decide (1 ≤ p.keys.length) && (p.vals.isEmpty && (decide (p.kids.length = p.keys.length + 1) && (p.kids.all (fun k => decide (1 ≤ k) && decide (k < 48)) && nodB p.kids))))))
theorem fitsB_iff (p : Pg) : fitsB p = true ↔ FitsP p := by
  obtain ⟨u, l, ks, vs, is⟩ := p
  cases l with
  | true =>
    simp only [fitsB, Bool.and_eq_true, risB_iff, List.all_eq_true, decide_eq_true_eq, List.isEmpty_iff]
    exact ⟨fun h => ⟨h.1, h.2.1, h.2.2.1, fun _ => h.2.2.2, fun q => (by cases q)⟩, fun h => ⟨h.used, h.rising, h.keys, h.leaf rfl⟩⟩
  | false =>
    simp only [fitsB, Bool.and_eq_true, risB_iff, nodB_iff, List.all_eq_true, decide_eq_true_eq, List.isEmpty_iff]
    exact ⟨fun h => ⟨h.1, h.2.1, h.2.2.1, fun q => (by cases q), fun _ => h.2.2.2⟩, fun h => ⟨h.used, h.rising, h.keys, h.inner rfl⟩⟩
def mayB_ (p : Pg) : Bool := decide (p.keys.length ≤ 4) && fitsB p
theorem mayB_iff (p : Pg) : mayB_ p = true ↔ MayP p := by simp [mayB_, MayP, fitsB_iff]

/-! a walk over a tree -/
structure WS where
  met : List Bool
  deep : Nat
  count : Nat
def holdB (lo hi : ByteArray) (ks : List ByteArray) : Bool := ks.all fun k => !(blt k lo) && (decide (hi.size = 0) || blt k hi)
def loK (p : Pg) (lo : ByteArray) (i : Nat) : ByteArray := match decide (0 < i) with | true => p.keys[i - 1]?.getD lo | false => lo
def hiK (p : Pg) (hi : ByteArray) (i : Nat) : ByteArray := p.keys[i]?.getD hi
def kidsD (rec : Int → Nat → WS → Option WS) : List Int → Nat → WS → Option WS
  | [], _, st => some st
  | k :: ks, i, st => match rec k i st with
    | none => none
    | some st' => kidsD rec ks (i + 1) st'
/-- may the walk go on at a page? -/
def okD (p : Pg) (at_ : Nat) (lo hi : ByteArray) (st : WS) : Bool := !(st.met[at_]?.getD true) && (mayB_ p && (!(decide (0 < at_) && decide (p.keys.length < 2)) && holdB lo hi p.keys))
def leafD (p : Pg) (deep : Nat) (st : WS) : Option WS := match decide (st.deep = 0) with
  | true => some ⟨st.met, deep, st.count + p.keys.length⟩
  | false => match decide (st.deep = deep) with
    | true => some ⟨st.met, deep, st.count + p.keys.length⟩
    | false => none
def walkD (T : List Pg) : Nat → Nat → Nat → ByteArray → ByteArray → WS → Option WS
  | 0, _, _, _, _, _ => none
  | f + 1, at_, deep, lo, hi, st => match T[at_]? with
    | none => none
    | some p => match okD p at_ lo hi st with
      | false => none
      | true => match p.leaf with
        | true => leafD p deep ⟨st.met.set at_ true, st.deep, st.count⟩
        | false => kidsD (fun k i s => walkD T f k.toNat (deep + 1) (loK p lo i) (hiK p hi i) s) p.kids 0 ⟨st.met.set at_ true, st.deep, st.count⟩
def nothingB (p : Pg) : Bool := !p.used && (!p.leaf && (p.keys.isEmpty && (p.vals.isEmpty && p.kids.isEmpty)))
def restD (T : List Pg) (met : List Bool) : Bool := (List.range T.length).all fun i => met[i]?.getD true || nothingB (T[i]?.getD noPg)
def ws0 : WS := ⟨List.replicate 48 false, 0, 0⟩
/-- how high a tree is; 0: it is not sound -/
def heightD (T : List Pg) : Nat := match decide (T.length = 48) with
  | false => 0
  | true => match walkD T 49 0 1 (mkS []) (mkS []) ws0 with
    | none => 0
    | some st => match restD T st.met && decide (st.count ≤ 60) with
      | true => st.deep
      | false => 0

/-- pages not met -/
def unmet (met : List Bool) : Nat := (met.filter (! ·)).length
theorem unmet_set : ∀ {met : List Bool} {i : Nat}, met[i]? = some false → unmet (met.set i true) + 1 = unmet met
  | [], i, h => by simp at h
  | b :: met, 0, h => by simp at h; subst h; simp [unmet]
  | b :: met, i + 1, h => by
    have := unmet_set (met := met) (i := i) (by simpa using h)
    unfold unmet at this ⊢
    cases b <;> simp <;> simpa using this
theorem walkD_unmet (T : List Pg) : ∀ f at_ deep lo hi st st', walkD T f at_ deep lo hi st = some st' → unmet st'.met ≤ unmet st.met ∧ st'.met.length = st.met.length ∧ (1 ≤ deep → st'.deep ≠ 0) ∧ st'.count + 4 * unmet st'.met ≤ st.count + 4 * unmet st.met := by
  intro f
  induction f with
  | zero => intro _ _ _ _ _ _ h; cases h
  | succ f ih =>
    intro at_ deep lo hi st st' h
    unfold walkD at h
    cases hp : T[at_]? with
    | none => rw [hp] at h; cases h
    | some p =>
      rw [hp] at h
      dsimp only at h
      cases hok : okD p at_ lo hi st with
      | false => rw [hok] at h; cases h
      | true =>
        rw [hok] at h
        dsimp only at h
        have hm : st.met[at_]? = some false := by
          unfold okD at hok
          rw [Bool.and_eq_true] at hok
          have := hok.1
          cases hq : st.met[at_]? with
          | none => rw [hq] at this; simp at this
          | some b => rw [hq] at this; simp at this; rw [this]
        have hu := unmet_set hm
        have h4 : p.keys.length ≤ 4 := by
          unfold okD at hok
          simp only [Bool.and_eq_true] at hok
          exact ((mayB_iff p).1 hok.2.1).1
        cases hl : p.leaf with
        | true =>
          rw [hl] at h
          dsimp only [leafD] at h
          split at h
          · cases h; exact ⟨by dsimp only; omega, by simp, fun hd => by dsimp only; omega, by dsimp only; omega⟩
          · split at h
            · cases h; exact ⟨by dsimp only; omega, by simp, fun hd => by dsimp only; omega, by dsimp only; omega⟩
            · cases h
        | false =>
          rw [hl] at h
          dsimp only at h
          have hk : p.kids ≠ [] := by
            intro e
            unfold okD at hok
            simp only [Bool.and_eq_true] at hok
            have := ((mayB_iff p).1 hok.2.1).2.inner hl
            rw [e] at this
            simp at this
          have key : ∀ (ks : List Int) (i : Nat) (s s' : WS), kidsD (fun k i s => walkD T f k.toNat (deep + 1) (loK p lo i) (hiK p hi i) s) ks i s = some s' → unmet s'.met ≤ unmet s.met ∧ s'.met.length = s.met.length ∧ (ks ≠ [] ∨ s.deep ≠ 0 → s'.deep ≠ 0) ∧ s'.count + 4 * unmet s'.met ≤ s.count + 4 * unmet s.met := by
            intro ks
            induction ks with
            | nil => intro i s s' h; cases h; exact ⟨Nat.le_refl _, rfl, fun q => by rcases q with q | q; exact (q rfl).elim; exact q, Nat.le_refl _⟩
            | cons k ks ihk =>
              intro i s s' h
              unfold kidsD at h
              cases hw : walkD T f k.toNat (deep + 1) (loK p lo i) (hiK p hi i) s with
              | none => rw [hw] at h; cases h
              | some s1 =>
                rw [hw] at h
                obtain ⟨u1, u2, u3, u4⟩ := ih _ _ _ _ _ _ hw
                obtain ⟨v1, v2, v3, v4⟩ := ihk _ _ _ h
                exact ⟨by omega, by omega, fun _ => v3 (.inr (u3 (by omega))), by omega⟩
          obtain ⟨u1, u2, u3, u4⟩ := key _ _ _ _ h
          dsimp only at u1 u2 u4
          exact ⟨by omega, by rw [u2]; simp, fun _ => u3 (.inl hk), by omega⟩

theorem walkD_eq (T : List Pg) (f at_ deep : Nat) (lo hi : ByteArray) (st : WS) {p : Pg} (hp : T[at_]? = some p) : walkD T (f + 1) at_ deep lo hi st = (match okD p at_ lo hi st with
      | false => none
      | true => match p.leaf with
        | true => leafD p deep ⟨st.met.set at_ true, st.deep, st.count⟩
        | false => kidsD (fun k i s => walkD T f k.toNat (deep + 1) (loK p lo i) (hiK p hi i) s) p.kids 0 ⟨st.met.set at_ true, st.deep, st.count⟩) := by
  rw [walkD, hp]
end Go.Am
