/-
  No cell of these rows narrows 'for every input' (looked for: loops, veiled, ifaces, maps, wideKeys, modest, calm, conditions, laid).
  DERIVED. THE GIVEN ROWS OF THIS SEAT. 17 by the template 'for every input the law returns true; each argument reads behind the call as it read before'; 0 by the template 'total and deterministic' (their statements: YtiemhjehieipdaaTotals.lean).
  GIVEN WITH THE SEED: the statements are not yours to turn. If you find one false, say at which input.
  Laid BY PROGRAM, IN A SANDBOX (cutbox-rows.mjs): the forced cells as the released guide's own fill.sh prints them over the translation 1e2622bd104794d7… (all of the seat's roots in one cut). By AI agents, Wed Nov 11 2026. No macro, syntax, notation, axiom, sorry.
-/
import Derived.Test.YtiemhjehieipdaaChecked
import GoSem.Claim
import GoSem.ClaimJoined
import GoSem.ClaimMapViews
import Derived.JoinedTies
import Derived.KernelRfl
namespace Go.Proofs.Ytiemhjehieipdaa
/- THE CELL 'sum', in the pinned program and in every row, IS THE sha256 OF THE DUMP (.gsa) THAT YtiemhjehieipdaaProg.lean LOADS. Nothing in Lean hashes anything: it is a label: what it is worth is what the hold of that sum in a sandbox is worth. -/
noncomputable def Try.pinned : Pinned := { name := "ytiemhjehieipdaa", sum := "1e2622bd104794d7835364f39ee748c6f70f7bff5aff67c6cf6155ea92207878", checked := Try.checked }
namespace Rows
def none {H : Type} : Left H := { results := [], args := [] }

/-- 'cryostatlaw9.NodeSlots': WHATEVER THE INPUT: true; the input reads as it did. -/
def nodeSlotsSpec : ChangeSpec := { name := "nodeSlots", fn := fun _ => fun
  | [d1, d2] => { results := [.lit (.bool true)], args := [d1, d2] }
  | _ => none }
def nodeSlotsRow : OpenClaim := { program := "ytiemhjehieipdaa", sum := "1e2622bd104794d7835364f39ee748c6f70f7bff5aff67c6cf6155ea92207878", func := "cryostat/cryostatlaw9.NodeSlots", spec := "nodeSlots", unfollowed := true, recurses := true, apart := false }
def NodeSlotsSaid : Prop := nodeSlotsRow.holds Try.pinned (OpenSpec.ofChange nodeSlotsSpec)

/-- ITS FALSE NEIGHBOUR: 'it returns false'. Refute it at one input. -/
def nodeSlotsWrong : ChangeSpec := { name := "nodeSlots", fn := fun _ => fun
  | [d1, d2] => { results := [.lit (.bool false)], args := [d1, d2] }
  | _ => none }
def NodeSlotsWrongFalsely : Prop := nodeSlotsRow.holds Try.pinned (OpenSpec.ofChange nodeSlotsWrong)

/-- 'cryostatlaw10.SoundPages': WHATEVER THE INPUT: true; the input reads as it did. -/
def soundPagesSpec : ChangeSpec := { name := "soundPages", fn := fun _ => fun
  | [d] => { results := [.lit (.bool true)], args := [d] }
  | _ => none }
def soundPagesRow : OpenClaim := { program := "ytiemhjehieipdaa", sum := "1e2622bd104794d7835364f39ee748c6f70f7bff5aff67c6cf6155ea92207878", func := "cryostat/cryostatlaw10.SoundPages", spec := "soundPages", unfollowed := true, recurses := true, apart := false }
def SoundPagesSaid : Prop := soundPagesRow.holds Try.pinned (OpenSpec.ofChange soundPagesSpec)

/-- ITS FALSE NEIGHBOUR: 'it returns false'. Refute it at one input. -/
def soundPagesWrong : ChangeSpec := { name := "soundPages", fn := fun _ => fun
  | [d] => { results := [.lit (.bool false)], args := [d] }
  | _ => none }
def SoundPagesWrongFalsely : Prop := soundPagesRow.holds Try.pinned (OpenSpec.ofChange soundPagesWrong)

/-- 'cryostatlaw14.Scans': WHATEVER THE INPUT: true; the input reads as it did. -/
def scansSpec : ChangeSpec := { name := "scans", fn := fun _ => fun
  | [d1, d2, d3] => { results := [.lit (.bool true)], args := [d1, d2, d3] }
  | _ => none }
def scansRow : OpenClaim := { program := "ytiemhjehieipdaa", sum := "1e2622bd104794d7835364f39ee748c6f70f7bff5aff67c6cf6155ea92207878", func := "cryostat/cryostatlaw14.Scans", spec := "scans", unfollowed := true, recurses := true, apart := false }
def ScansSaid : Prop := scansRow.holds Try.pinned (OpenSpec.ofChange scansSpec)

/-- ITS FALSE NEIGHBOUR: 'it returns false'. Refute it at one input. -/
def scansWrong : ChangeSpec := { name := "scans", fn := fun _ => fun
  | [d1, d2, d3] => { results := [.lit (.bool false)], args := [d1, d2, d3] }
  | _ => none }
def ScansWrongFalsely : Prop := scansRow.holds Try.pinned (OpenSpec.ofChange scansWrong)

/-- 'cryostatlaw14.ScanParts': WHATEVER THE INPUT: true; the input reads as it did. -/
def scanPartsSpec : ChangeSpec := { name := "scanParts", fn := fun _ => fun
  | [d1, d2] => { results := [.lit (.bool true)], args := [d1, d2] }
  | _ => none }
def scanPartsRow : OpenClaim := { program := "ytiemhjehieipdaa", sum := "1e2622bd104794d7835364f39ee748c6f70f7bff5aff67c6cf6155ea92207878", func := "cryostat/cryostatlaw14.ScanParts", spec := "scanParts", unfollowed := true, recurses := true, apart := false }
def ScanPartsSaid : Prop := scanPartsRow.holds Try.pinned (OpenSpec.ofChange scanPartsSpec)

/-- ITS FALSE NEIGHBOUR: 'it returns false'. Refute it at one input. -/
def scanPartsWrong : ChangeSpec := { name := "scanParts", fn := fun _ => fun
  | [d1, d2] => { results := [.lit (.bool false)], args := [d1, d2] }
  | _ => none }
def ScanPartsWrongFalsely : Prop := scanPartsRow.holds Try.pinned (OpenSpec.ofChange scanPartsWrong)

/-- 'cryostatlaw14.ScanRange': WHATEVER THE INPUT: true; the input reads as it did. -/
def scanRangeSpec : ChangeSpec := { name := "scanRange", fn := fun _ => fun
  | [d1, d2, d3] => { results := [.lit (.bool true)], args := [d1, d2, d3] }
  | _ => none }
def scanRangeRow : OpenClaim := { program := "ytiemhjehieipdaa", sum := "1e2622bd104794d7835364f39ee748c6f70f7bff5aff67c6cf6155ea92207878", func := "cryostat/cryostatlaw14.ScanRange", spec := "scanRange", unfollowed := true, recurses := true, apart := false }
def ScanRangeSaid : Prop := scanRangeRow.holds Try.pinned (OpenSpec.ofChange scanRangeSpec)

/-- ITS FALSE NEIGHBOUR: 'it returns false'. Refute it at one input. -/
def scanRangeWrong : ChangeSpec := { name := "scanRange", fn := fun _ => fun
  | [d1, d2, d3] => { results := [.lit (.bool false)], args := [d1, d2, d3] }
  | _ => none }
def ScanRangeWrongFalsely : Prop := scanRangeRow.holds Try.pinned (OpenSpec.ofChange scanRangeWrong)

/-- 'cryostatlaw14.ScanInserts': WHATEVER THE INPUT: true; the input reads as it did. -/
def scanInsertsSpec : ChangeSpec := { name := "scanInserts", fn := fun _ => fun
  | [d1, d2, d3] => { results := [.lit (.bool true)], args := [d1, d2, d3] }
  | _ => none }
def scanInsertsRow : OpenClaim := { program := "ytiemhjehieipdaa", sum := "1e2622bd104794d7835364f39ee748c6f70f7bff5aff67c6cf6155ea92207878", func := "cryostat/cryostatlaw14.ScanInserts", spec := "scanInserts", unfollowed := true, recurses := true, apart := false }
def ScanInsertsSaid : Prop := scanInsertsRow.holds Try.pinned (OpenSpec.ofChange scanInsertsSpec)

/-- ITS FALSE NEIGHBOUR: 'it returns false'. Refute it at one input. -/
def scanInsertsWrong : ChangeSpec := { name := "scanInserts", fn := fun _ => fun
  | [d1, d2, d3] => { results := [.lit (.bool false)], args := [d1, d2, d3] }
  | _ => none }
def ScanInsertsWrongFalsely : Prop := scanInsertsRow.holds Try.pinned (OpenSpec.ofChange scanInsertsWrong)

/-- 'cryostatlaw11.Finds': WHATEVER THE INPUT: true; the input reads as it did. -/
def findsSpec : ChangeSpec := { name := "finds", fn := fun _ => fun
  | [d1, d2] => { results := [.lit (.bool true)], args := [d1, d2] }
  | _ => none }
def findsRow : OpenClaim := { program := "ytiemhjehieipdaa", sum := "1e2622bd104794d7835364f39ee748c6f70f7bff5aff67c6cf6155ea92207878", func := "cryostat/cryostatlaw11.Finds", spec := "finds", unfollowed := true, recurses := true, apart := false }
def FindsSaid : Prop := findsRow.holds Try.pinned (OpenSpec.ofChange findsSpec)

/-- ITS FALSE NEIGHBOUR: 'it returns false'. Refute it at one input. -/
def findsWrong : ChangeSpec := { name := "finds", fn := fun _ => fun
  | [d1, d2] => { results := [.lit (.bool false)], args := [d1, d2] }
  | _ => none }
def FindsWrongFalsely : Prop := findsRow.holds Try.pinned (OpenSpec.ofChange findsWrong)

/-- 'cryostatlaw11.FindAll': WHATEVER THE INPUT: true; the input reads as it did. -/
def findAllSpec : ChangeSpec := { name := "findAll", fn := fun _ => fun
  | [d1, d2] => { results := [.lit (.bool true)], args := [d1, d2] }
  | _ => none }
def findAllRow : OpenClaim := { program := "ytiemhjehieipdaa", sum := "1e2622bd104794d7835364f39ee748c6f70f7bff5aff67c6cf6155ea92207878", func := "cryostat/cryostatlaw11.FindAll", spec := "findAll", unfollowed := true, recurses := true, apart := false }
def FindAllSaid : Prop := findAllRow.holds Try.pinned (OpenSpec.ofChange findAllSpec)

/-- ITS FALSE NEIGHBOUR: 'it returns false'. Refute it at one input. -/
def findAllWrong : ChangeSpec := { name := "findAll", fn := fun _ => fun
  | [d1, d2] => { results := [.lit (.bool false)], args := [d1, d2] }
  | _ => none }
def FindAllWrongFalsely : Prop := findAllRow.holds Try.pinned (OpenSpec.ofChange findAllWrong)

/-- 'cryostatlaw11.FindRow': WHATEVER THE INPUT: true; the input reads as it did. -/
def findRowSpec : ChangeSpec := { name := "findRow", fn := fun _ => fun
  | [d1, d2] => { results := [.lit (.bool true)], args := [d1, d2] }
  | _ => none }
def findRowRow : OpenClaim := { program := "ytiemhjehieipdaa", sum := "1e2622bd104794d7835364f39ee748c6f70f7bff5aff67c6cf6155ea92207878", func := "cryostat/cryostatlaw11.FindRow", spec := "findRow", unfollowed := true, recurses := true, apart := false }
def FindRowSaid : Prop := findRowRow.holds Try.pinned (OpenSpec.ofChange findRowSpec)

/-- ITS FALSE NEIGHBOUR: 'it returns false'. Refute it at one input. -/
def findRowWrong : ChangeSpec := { name := "findRow", fn := fun _ => fun
  | [d1, d2] => { results := [.lit (.bool false)], args := [d1, d2] }
  | _ => none }
def FindRowWrongFalsely : Prop := findRowRow.holds Try.pinned (OpenSpec.ofChange findRowWrong)

/-- 'cryostatlaw11.FindNext': WHATEVER THE INPUT: true; the input reads as it did. -/
def findNextSpec : ChangeSpec := { name := "findNext", fn := fun _ => fun
  | [d1, d2, d3, d4] => { results := [.lit (.bool true)], args := [d1, d2, d3, d4] }
  | _ => none }
def findNextRow : OpenClaim := { program := "ytiemhjehieipdaa", sum := "1e2622bd104794d7835364f39ee748c6f70f7bff5aff67c6cf6155ea92207878", func := "cryostat/cryostatlaw11.FindNext", spec := "findNext", unfollowed := true, recurses := true, apart := false }
def FindNextSaid : Prop := findNextRow.holds Try.pinned (OpenSpec.ofChange findNextSpec)

/-- ITS FALSE NEIGHBOUR: 'it returns false'. Refute it at one input. -/
def findNextWrong : ChangeSpec := { name := "findNext", fn := fun _ => fun
  | [d1, d2, d3, d4] => { results := [.lit (.bool false)], args := [d1, d2, d3, d4] }
  | _ => none }
def FindNextWrongFalsely : Prop := findNextRow.holds Try.pinned (OpenSpec.ofChange findNextWrong)

/-- 'cryostatlaw15.DiffBack': WHATEVER THE INPUT: true; the input reads as it did. -/
def diffBackSpec : ChangeSpec := { name := "diffBack", fn := fun _ => fun
  | [d1, d2] => { results := [.lit (.bool true)], args := [d1, d2] }
  | _ => none }
def diffBackRow : OpenClaim := { program := "ytiemhjehieipdaa", sum := "1e2622bd104794d7835364f39ee748c6f70f7bff5aff67c6cf6155ea92207878", func := "cryostat/cryostatlaw15.DiffBack", spec := "diffBack", unfollowed := true, recurses := true, apart := false }
def DiffBackSaid : Prop := diffBackRow.holds Try.pinned (OpenSpec.ofChange diffBackSpec)

/-- ITS FALSE NEIGHBOUR: 'it returns false'. Refute it at one input. -/
def diffBackWrong : ChangeSpec := { name := "diffBack", fn := fun _ => fun
  | [d1, d2] => { results := [.lit (.bool false)], args := [d1, d2] }
  | _ => none }
def DiffBackWrongFalsely : Prop := diffBackRow.holds Try.pinned (OpenSpec.ofChange diffBackWrong)

/-- 'cryostatlaw15.DiffFew': WHATEVER THE INPUT: true; the input reads as it did. -/
def diffFewSpec : ChangeSpec := { name := "diffFew", fn := fun _ => fun
  | [d1, d2] => { results := [.lit (.bool true)], args := [d1, d2] }
  | _ => none }
def diffFewRow : OpenClaim := { program := "ytiemhjehieipdaa", sum := "1e2622bd104794d7835364f39ee748c6f70f7bff5aff67c6cf6155ea92207878", func := "cryostat/cryostatlaw15.DiffFew", spec := "diffFew", unfollowed := true, recurses := true, apart := false }
def DiffFewSaid : Prop := diffFewRow.holds Try.pinned (OpenSpec.ofChange diffFewSpec)

/-- ITS FALSE NEIGHBOUR: 'it returns false'. Refute it at one input. -/
def diffFewWrong : ChangeSpec := { name := "diffFew", fn := fun _ => fun
  | [d1, d2] => { results := [.lit (.bool false)], args := [d1, d2] }
  | _ => none }
def DiffFewWrongFalsely : Prop := diffFewRow.holds Try.pinned (OpenSpec.ofChange diffFewWrong)

/-- 'cryostatlaw15.DiffStays': WHATEVER THE INPUT: true; the input reads as it did. -/
def diffStaysSpec : ChangeSpec := { name := "diffStays", fn := fun _ => fun
  | [d] => { results := [.lit (.bool true)], args := [d] }
  | _ => none }
def diffStaysRow : OpenClaim := { program := "ytiemhjehieipdaa", sum := "1e2622bd104794d7835364f39ee748c6f70f7bff5aff67c6cf6155ea92207878", func := "cryostat/cryostatlaw15.DiffStays", spec := "diffStays", unfollowed := true, recurses := true, apart := false }
def DiffStaysSaid : Prop := diffStaysRow.holds Try.pinned (OpenSpec.ofChange diffStaysSpec)

/-- ITS FALSE NEIGHBOUR: 'it returns false'. Refute it at one input. -/
def diffStaysWrong : ChangeSpec := { name := "diffStays", fn := fun _ => fun
  | [d] => { results := [.lit (.bool false)], args := [d] }
  | _ => none }
def DiffStaysWrongFalsely : Prop := diffStaysRow.holds Try.pinned (OpenSpec.ofChange diffStaysWrong)

/-- 'cryostatlaw13.Erases': WHATEVER THE INPUT: true; the input reads as it did. -/
def erasesSpec : ChangeSpec := { name := "erases", fn := fun _ => fun
  | [d1, d2] => { results := [.lit (.bool true)], args := [d1, d2] }
  | _ => none }
def erasesRow : OpenClaim := { program := "ytiemhjehieipdaa", sum := "1e2622bd104794d7835364f39ee748c6f70f7bff5aff67c6cf6155ea92207878", func := "cryostat/cryostatlaw13.Erases", spec := "erases", unfollowed := true, recurses := true, apart := false }
def ErasesSaid : Prop := erasesRow.holds Try.pinned (OpenSpec.ofChange erasesSpec)

/-- ITS FALSE NEIGHBOUR: 'it returns false'. Refute it at one input. -/
def erasesWrong : ChangeSpec := { name := "erases", fn := fun _ => fun
  | [d1, d2] => { results := [.lit (.bool false)], args := [d1, d2] }
  | _ => none }
def ErasesWrongFalsely : Prop := erasesRow.holds Try.pinned (OpenSpec.ofChange erasesWrong)

/-- 'cryostatlaw13.EraseNone': WHATEVER THE INPUT: true; the input reads as it did. -/
def eraseNoneSpec : ChangeSpec := { name := "eraseNone", fn := fun _ => fun
  | [d1, d2, d3] => { results := [.lit (.bool true)], args := [d1, d2, d3] }
  | _ => none }
def eraseNoneRow : OpenClaim := { program := "ytiemhjehieipdaa", sum := "1e2622bd104794d7835364f39ee748c6f70f7bff5aff67c6cf6155ea92207878", func := "cryostat/cryostatlaw13.EraseNone", spec := "eraseNone", unfollowed := true, recurses := true, apart := false }
def EraseNoneSaid : Prop := eraseNoneRow.holds Try.pinned (OpenSpec.ofChange eraseNoneSpec)

/-- ITS FALSE NEIGHBOUR: 'it returns false'. Refute it at one input. -/
def eraseNoneWrong : ChangeSpec := { name := "eraseNone", fn := fun _ => fun
  | [d1, d2, d3] => { results := [.lit (.bool false)], args := [d1, d2, d3] }
  | _ => none }
def EraseNoneWrongFalsely : Prop := eraseNoneRow.holds Try.pinned (OpenSpec.ofChange eraseNoneWrong)

/-- 'cryostatlaw13.EraseTwice': WHATEVER THE INPUT: true; the input reads as it did. -/
def eraseTwiceSpec : ChangeSpec := { name := "eraseTwice", fn := fun _ => fun
  | [d1, d2] => { results := [.lit (.bool true)], args := [d1, d2] }
  | _ => none }
def eraseTwiceRow : OpenClaim := { program := "ytiemhjehieipdaa", sum := "1e2622bd104794d7835364f39ee748c6f70f7bff5aff67c6cf6155ea92207878", func := "cryostat/cryostatlaw13.EraseTwice", spec := "eraseTwice", unfollowed := true, recurses := true, apart := false }
def EraseTwiceSaid : Prop := eraseTwiceRow.holds Try.pinned (OpenSpec.ofChange eraseTwiceSpec)

/-- ITS FALSE NEIGHBOUR: 'it returns false'. Refute it at one input. -/
def eraseTwiceWrong : ChangeSpec := { name := "eraseTwice", fn := fun _ => fun
  | [d1, d2] => { results := [.lit (.bool false)], args := [d1, d2] }
  | _ => none }
def EraseTwiceWrongFalsely : Prop := eraseTwiceRow.holds Try.pinned (OpenSpec.ofChange eraseTwiceWrong)

/-- 'cryostatlaw13.EraseOrder': WHATEVER THE INPUT: true; the input reads as it did. -/
def eraseOrderSpec : ChangeSpec := { name := "eraseOrder", fn := fun _ => fun
  | [d1, d2, d3] => { results := [.lit (.bool true)], args := [d1, d2, d3] }
  | _ => none }
def eraseOrderRow : OpenClaim := { program := "ytiemhjehieipdaa", sum := "1e2622bd104794d7835364f39ee748c6f70f7bff5aff67c6cf6155ea92207878", func := "cryostat/cryostatlaw13.EraseOrder", spec := "eraseOrder", unfollowed := true, recurses := true, apart := false }
def EraseOrderSaid : Prop := eraseOrderRow.holds Try.pinned (OpenSpec.ofChange eraseOrderSpec)

/-- ITS FALSE NEIGHBOUR: 'it returns false'. Refute it at one input. -/
def eraseOrderWrong : ChangeSpec := { name := "eraseOrder", fn := fun _ => fun
  | [d1, d2, d3] => { results := [.lit (.bool false)], args := [d1, d2, d3] }
  | _ => none }
def EraseOrderWrongFalsely : Prop := eraseOrderRow.holds Try.pinned (OpenSpec.ofChange eraseOrderWrong)

/- THE SECOND FORM. 'bulk': how many values and letters a reading holds, each counted each time it is reached (what is shared counts as often as it is met; a slice's spare places count too). A statement '..UptoSaid' is the law's where the arguments, and the package variables that the reading takes, are together of bulk at most 1048576: NARROWER than '..Said'. Prove '..Said' where nothing that the law and all that it calls make is longer than what came in: it says more and counts as full. Else prove '..UptoSaid'. A law counts once. -/
mutual
def uptoBulk {H : Type} : DataW H → Nat
  | .lit (.string bytes) => bytes.length + 1
  | .lit _ => 1
  | .nil => 1
  | .ptr d => uptoBulk d + 1
  | .slice elems spare => uptoBulkAll elems + uptoBulkAll spare + 1
  | .agg parts => uptoBulkAll parts + 1
  | .iface _ d => uptoBulk d + 1
  | .map entries => uptoBulkEntries entries + 1
  | .held _ => 1
def uptoBulkAll {H : Type} : List (DataW H) → Nat
  | [] => 0
  | d :: r => uptoBulk d + uptoBulkAll r
def uptoBulkEntries {H : Type} : List (Lit × DataW H) → Nat
  | [] => 0
  | x :: r => uptoBulkEntry x + uptoBulkEntries r
def uptoBulkEntry {H : Type} : Lit × DataW H → Nat
  | (.string bytes, d) => bytes.length + uptoBulk d + 1
  | (_, d) => uptoBulk d + 1
 end
def uptoSmall : (H : Type) → List (DataW H) → Bool := fun _ ds => decide (uptoBulkAll ds ≤ 1048576)
def OpenSpec.upto (s : _root_.Go.ChangeSpec) : _root_.Go.OpenSpec := { _root_.Go.OpenSpec.ofChange s with cond := some uptoSmall }

/-- 'cryostatlaw9.NodeSlots', WHERE WHAT IT READS IS OF BULK AT MOST 1048576: true; the input reads as it did. -/
def nodeSlotsUptoRow : OpenClaim := { program := "ytiemhjehieipdaa", sum := "1e2622bd104794d7835364f39ee748c6f70f7bff5aff67c6cf6155ea92207878", func := "cryostat/cryostatlaw9.NodeSlots", spec := "nodeSlots", unfollowed := true, recurses := true, apart := false, narrowed := true }
def NodeSlotsUptoSaid : Prop := nodeSlotsUptoRow.holds Try.pinned (OpenSpec.upto nodeSlotsSpec)

/-- 'cryostatlaw10.SoundPages', WHERE WHAT IT READS IS OF BULK AT MOST 1048576: true; the input reads as it did. -/
def soundPagesUptoRow : OpenClaim := { program := "ytiemhjehieipdaa", sum := "1e2622bd104794d7835364f39ee748c6f70f7bff5aff67c6cf6155ea92207878", func := "cryostat/cryostatlaw10.SoundPages", spec := "soundPages", unfollowed := true, recurses := true, apart := false, narrowed := true }
def SoundPagesUptoSaid : Prop := soundPagesUptoRow.holds Try.pinned (OpenSpec.upto soundPagesSpec)

/-- 'cryostatlaw14.Scans', WHERE WHAT IT READS IS OF BULK AT MOST 1048576: true; the input reads as it did. -/
def scansUptoRow : OpenClaim := { program := "ytiemhjehieipdaa", sum := "1e2622bd104794d7835364f39ee748c6f70f7bff5aff67c6cf6155ea92207878", func := "cryostat/cryostatlaw14.Scans", spec := "scans", unfollowed := true, recurses := true, apart := false, narrowed := true }
def ScansUptoSaid : Prop := scansUptoRow.holds Try.pinned (OpenSpec.upto scansSpec)

/-- 'cryostatlaw14.ScanParts', WHERE WHAT IT READS IS OF BULK AT MOST 1048576: true; the input reads as it did. -/
def scanPartsUptoRow : OpenClaim := { program := "ytiemhjehieipdaa", sum := "1e2622bd104794d7835364f39ee748c6f70f7bff5aff67c6cf6155ea92207878", func := "cryostat/cryostatlaw14.ScanParts", spec := "scanParts", unfollowed := true, recurses := true, apart := false, narrowed := true }
def ScanPartsUptoSaid : Prop := scanPartsUptoRow.holds Try.pinned (OpenSpec.upto scanPartsSpec)

/-- 'cryostatlaw14.ScanRange', WHERE WHAT IT READS IS OF BULK AT MOST 1048576: true; the input reads as it did. -/
def scanRangeUptoRow : OpenClaim := { program := "ytiemhjehieipdaa", sum := "1e2622bd104794d7835364f39ee748c6f70f7bff5aff67c6cf6155ea92207878", func := "cryostat/cryostatlaw14.ScanRange", spec := "scanRange", unfollowed := true, recurses := true, apart := false, narrowed := true }
def ScanRangeUptoSaid : Prop := scanRangeUptoRow.holds Try.pinned (OpenSpec.upto scanRangeSpec)

/-- 'cryostatlaw14.ScanInserts', WHERE WHAT IT READS IS OF BULK AT MOST 1048576: true; the input reads as it did. -/
def scanInsertsUptoRow : OpenClaim := { program := "ytiemhjehieipdaa", sum := "1e2622bd104794d7835364f39ee748c6f70f7bff5aff67c6cf6155ea92207878", func := "cryostat/cryostatlaw14.ScanInserts", spec := "scanInserts", unfollowed := true, recurses := true, apart := false, narrowed := true }
def ScanInsertsUptoSaid : Prop := scanInsertsUptoRow.holds Try.pinned (OpenSpec.upto scanInsertsSpec)

/-- 'cryostatlaw11.Finds', WHERE WHAT IT READS IS OF BULK AT MOST 1048576: true; the input reads as it did. -/
def findsUptoRow : OpenClaim := { program := "ytiemhjehieipdaa", sum := "1e2622bd104794d7835364f39ee748c6f70f7bff5aff67c6cf6155ea92207878", func := "cryostat/cryostatlaw11.Finds", spec := "finds", unfollowed := true, recurses := true, apart := false, narrowed := true }
def FindsUptoSaid : Prop := findsUptoRow.holds Try.pinned (OpenSpec.upto findsSpec)

/-- 'cryostatlaw11.FindAll', WHERE WHAT IT READS IS OF BULK AT MOST 1048576: true; the input reads as it did. -/
def findAllUptoRow : OpenClaim := { program := "ytiemhjehieipdaa", sum := "1e2622bd104794d7835364f39ee748c6f70f7bff5aff67c6cf6155ea92207878", func := "cryostat/cryostatlaw11.FindAll", spec := "findAll", unfollowed := true, recurses := true, apart := false, narrowed := true }
def FindAllUptoSaid : Prop := findAllUptoRow.holds Try.pinned (OpenSpec.upto findAllSpec)

/-- 'cryostatlaw11.FindRow', WHERE WHAT IT READS IS OF BULK AT MOST 1048576: true; the input reads as it did. -/
def findRowUptoRow : OpenClaim := { program := "ytiemhjehieipdaa", sum := "1e2622bd104794d7835364f39ee748c6f70f7bff5aff67c6cf6155ea92207878", func := "cryostat/cryostatlaw11.FindRow", spec := "findRow", unfollowed := true, recurses := true, apart := false, narrowed := true }
def FindRowUptoSaid : Prop := findRowUptoRow.holds Try.pinned (OpenSpec.upto findRowSpec)

/-- 'cryostatlaw11.FindNext', WHERE WHAT IT READS IS OF BULK AT MOST 1048576: true; the input reads as it did. -/
def findNextUptoRow : OpenClaim := { program := "ytiemhjehieipdaa", sum := "1e2622bd104794d7835364f39ee748c6f70f7bff5aff67c6cf6155ea92207878", func := "cryostat/cryostatlaw11.FindNext", spec := "findNext", unfollowed := true, recurses := true, apart := false, narrowed := true }
def FindNextUptoSaid : Prop := findNextUptoRow.holds Try.pinned (OpenSpec.upto findNextSpec)

/-- 'cryostatlaw15.DiffBack', WHERE WHAT IT READS IS OF BULK AT MOST 1048576: true; the input reads as it did. -/
def diffBackUptoRow : OpenClaim := { program := "ytiemhjehieipdaa", sum := "1e2622bd104794d7835364f39ee748c6f70f7bff5aff67c6cf6155ea92207878", func := "cryostat/cryostatlaw15.DiffBack", spec := "diffBack", unfollowed := true, recurses := true, apart := false, narrowed := true }
def DiffBackUptoSaid : Prop := diffBackUptoRow.holds Try.pinned (OpenSpec.upto diffBackSpec)

/-- 'cryostatlaw15.DiffFew', WHERE WHAT IT READS IS OF BULK AT MOST 1048576: true; the input reads as it did. -/
def diffFewUptoRow : OpenClaim := { program := "ytiemhjehieipdaa", sum := "1e2622bd104794d7835364f39ee748c6f70f7bff5aff67c6cf6155ea92207878", func := "cryostat/cryostatlaw15.DiffFew", spec := "diffFew", unfollowed := true, recurses := true, apart := false, narrowed := true }
def DiffFewUptoSaid : Prop := diffFewUptoRow.holds Try.pinned (OpenSpec.upto diffFewSpec)

/-- 'cryostatlaw15.DiffStays', WHERE WHAT IT READS IS OF BULK AT MOST 1048576: true; the input reads as it did. -/
def diffStaysUptoRow : OpenClaim := { program := "ytiemhjehieipdaa", sum := "1e2622bd104794d7835364f39ee748c6f70f7bff5aff67c6cf6155ea92207878", func := "cryostat/cryostatlaw15.DiffStays", spec := "diffStays", unfollowed := true, recurses := true, apart := false, narrowed := true }
def DiffStaysUptoSaid : Prop := diffStaysUptoRow.holds Try.pinned (OpenSpec.upto diffStaysSpec)

/-- 'cryostatlaw13.Erases', WHERE WHAT IT READS IS OF BULK AT MOST 1048576: true; the input reads as it did. -/
def erasesUptoRow : OpenClaim := { program := "ytiemhjehieipdaa", sum := "1e2622bd104794d7835364f39ee748c6f70f7bff5aff67c6cf6155ea92207878", func := "cryostat/cryostatlaw13.Erases", spec := "erases", unfollowed := true, recurses := true, apart := false, narrowed := true }
def ErasesUptoSaid : Prop := erasesUptoRow.holds Try.pinned (OpenSpec.upto erasesSpec)

/-- 'cryostatlaw13.EraseNone', WHERE WHAT IT READS IS OF BULK AT MOST 1048576: true; the input reads as it did. -/
def eraseNoneUptoRow : OpenClaim := { program := "ytiemhjehieipdaa", sum := "1e2622bd104794d7835364f39ee748c6f70f7bff5aff67c6cf6155ea92207878", func := "cryostat/cryostatlaw13.EraseNone", spec := "eraseNone", unfollowed := true, recurses := true, apart := false, narrowed := true }
def EraseNoneUptoSaid : Prop := eraseNoneUptoRow.holds Try.pinned (OpenSpec.upto eraseNoneSpec)

/-- 'cryostatlaw13.EraseTwice', WHERE WHAT IT READS IS OF BULK AT MOST 1048576: true; the input reads as it did. -/
def eraseTwiceUptoRow : OpenClaim := { program := "ytiemhjehieipdaa", sum := "1e2622bd104794d7835364f39ee748c6f70f7bff5aff67c6cf6155ea92207878", func := "cryostat/cryostatlaw13.EraseTwice", spec := "eraseTwice", unfollowed := true, recurses := true, apart := false, narrowed := true }
def EraseTwiceUptoSaid : Prop := eraseTwiceUptoRow.holds Try.pinned (OpenSpec.upto eraseTwiceSpec)

/-- 'cryostatlaw13.EraseOrder', WHERE WHAT IT READS IS OF BULK AT MOST 1048576: true; the input reads as it did. -/
def eraseOrderUptoRow : OpenClaim := { program := "ytiemhjehieipdaa", sum := "1e2622bd104794d7835364f39ee748c6f70f7bff5aff67c6cf6155ea92207878", func := "cryostat/cryostatlaw13.EraseOrder", spec := "eraseOrder", unfollowed := true, recurses := true, apart := false, narrowed := true }
def EraseOrderUptoSaid : Prop := eraseOrderUptoRow.holds Try.pinned (OpenSpec.upto eraseOrderSpec)

end Rows
end Go.Proofs.Ytiemhjehieipdaa
