/-
  No cell of these rows narrows 'for every input' (looked for: loops, veiled, ifaces, maps, wideKeys, modest, calm, conditions, laid).
  DERIVED. THE GIVEN ROWS OF THIS SEAT. 11 by the template 'for every input the law returns true; each argument reads behind the call as it read before'; 0 by the template 'total and deterministic' (their statements: YtjbgjfikgpffmaaGreatTotals.lean).
  GIVEN WITH THE SEED: the statements are not yours to turn. If you find one false, say at which input.
  Laid BY PROGRAM, IN A SANDBOX (cutbox-rows.mjs): the forced cells as the released guide's own fill.sh prints them over the translation e1cb4a5bb62645e3… (all of the seat's roots in one cut). By AI agents, Wed Nov 11 2026. No macro, syntax, notation, axiom, sorry.
-/
import Derived.Test.YtjbgjfikgpffmaaGreatChecked
import GoSem.Claim
import GoSem.ClaimJoined
import GoSem.ClaimMapViews
import Derived.JoinedTies
import Derived.KernelRfl
namespace Go.Proofs.YtjbgjfikgpffmaaGreat
/- THE CELL 'sum', in the pinned program and in every row, IS THE sha256 OF THE DUMP (.gsa) THAT YtjbgjfikgpffmaaGreatProg.lean LOADS. Nothing in Lean hashes anything: it is a label: what it is worth is what the hold of that sum in a sandbox is worth. -/
noncomputable def Tryz.pinned : Pinned := { name := "ytjbgjfikgpffmaagreat", sum := "e1cb4a5bb62645e3c2120a3056e6f024f7c9c33691696b81b851289c38ab05b5", checked := Tryz.checked }
namespace Rows
def none {H : Type} : Left H := { results := [], args := [] }

/-- 'cryostatlaw21.Files': WHATEVER THE INPUT: true; the input reads as it did. -/
def filesSpec : ChangeSpec := { name := "files", fn := fun _ => fun
  | [d1, d2, d3, d4] => { results := [.lit (.bool true)], args := [d1, d2, d3, d4] }
  | _ => none }
def filesRow : OpenClaim := { program := "ytjbgjfikgpffmaagreat", sum := "e1cb4a5bb62645e3c2120a3056e6f024f7c9c33691696b81b851289c38ab05b5", func := "cryostat/cryostatlaw21.Files", spec := "files", inPlace := ["internal/bytealg.abigen_runtime_cmpstring", "slices.overlaps[cryostat/api.File]", "slices.overlaps[string]", "slices.overlaps[int]"], unfollowed := true, recurses := true, plainKeys := false, apart := false }
def FilesSaid : Prop := filesRow.holds Tryz.pinned (OpenSpec.ofChange filesSpec)

/-- ITS FALSE NEIGHBOUR: 'it returns false'. Refute it at one input. -/
def filesWrong : ChangeSpec := { name := "files", fn := fun _ => fun
  | [d1, d2, d3, d4] => { results := [.lit (.bool false)], args := [d1, d2, d3, d4] }
  | _ => none }
def FilesWrongFalsely : Prop := filesRow.holds Tryz.pinned (OpenSpec.ofChange filesWrong)

/-- 'cryostatlaw21.FilesReads': WHATEVER THE INPUT: true; the input reads as it did. -/
def filesReadsSpec : ChangeSpec := { name := "filesReads", fn := fun _ => fun
  | [d1, d2, d3, d4, d5, d6] => { results := [.lit (.bool true)], args := [d1, d2, d3, d4, d5, d6] }
  | _ => none }
def filesReadsRow : OpenClaim := { program := "ytjbgjfikgpffmaagreat", sum := "e1cb4a5bb62645e3c2120a3056e6f024f7c9c33691696b81b851289c38ab05b5", func := "cryostat/cryostatlaw21.FilesReads", spec := "filesReads", inPlace := ["internal/bytealg.abigen_runtime_cmpstring", "slices.overlaps[cryostat/api.File]", "slices.overlaps[string]", "slices.overlaps[int]"], unfollowed := true, recurses := true, plainKeys := false, apart := false }
def FilesReadsSaid : Prop := filesReadsRow.holds Tryz.pinned (OpenSpec.ofChange filesReadsSpec)

/-- ITS FALSE NEIGHBOUR: 'it returns false'. Refute it at one input. -/
def filesReadsWrong : ChangeSpec := { name := "filesReads", fn := fun _ => fun
  | [d1, d2, d3, d4, d5, d6] => { results := [.lit (.bool false)], args := [d1, d2, d3, d4, d5, d6] }
  | _ => none }
def FilesReadsWrongFalsely : Prop := filesReadsRow.holds Tryz.pinned (OpenSpec.ofChange filesReadsWrong)

/-- 'cryostatlaw21.FilesErrors': WHATEVER THE INPUT: true; the input reads as it did. -/
def filesErrorsSpec : ChangeSpec := { name := "filesErrors", fn := fun _ => fun
  | [d] => { results := [.lit (.bool true)], args := [d] }
  | _ => none }
def filesErrorsRow : OpenClaim := { program := "ytjbgjfikgpffmaagreat", sum := "e1cb4a5bb62645e3c2120a3056e6f024f7c9c33691696b81b851289c38ab05b5", func := "cryostat/cryostatlaw21.FilesErrors", spec := "filesErrors", inPlace := ["internal/bytealg.abigen_runtime_cmpstring", "slices.overlaps[cryostat/api.File]", "slices.overlaps[string]", "slices.overlaps[int]"], unfollowed := true, recurses := true, plainKeys := false, apart := false }
def FilesErrorsSaid : Prop := filesErrorsRow.holds Tryz.pinned (OpenSpec.ofChange filesErrorsSpec)

/-- ITS FALSE NEIGHBOUR: 'it returns false'. Refute it at one input. -/
def filesErrorsWrong : ChangeSpec := { name := "filesErrors", fn := fun _ => fun
  | [d] => { results := [.lit (.bool false)], args := [d] }
  | _ => none }
def FilesErrorsWrongFalsely : Prop := filesErrorsRow.holds Tryz.pinned (OpenSpec.ofChange filesErrorsWrong)

/-- 'cryostatlaw21.FilesBreak': WHATEVER THE INPUT: true; the input reads as it did. -/
def filesBreakSpec : ChangeSpec := { name := "filesBreak", fn := fun _ => fun
  | [d1, d2, d3, d4, d5] => { results := [.lit (.bool true)], args := [d1, d2, d3, d4, d5] }
  | _ => none }
def filesBreakRow : OpenClaim := { program := "ytjbgjfikgpffmaagreat", sum := "e1cb4a5bb62645e3c2120a3056e6f024f7c9c33691696b81b851289c38ab05b5", func := "cryostat/cryostatlaw21.FilesBreak", spec := "filesBreak", inPlace := ["internal/bytealg.abigen_runtime_cmpstring", "slices.overlaps[cryostat/api.File]", "slices.overlaps[string]", "slices.overlaps[int]"], unfollowed := true, recurses := true, plainKeys := false, apart := false }
def FilesBreakSaid : Prop := filesBreakRow.holds Tryz.pinned (OpenSpec.ofChange filesBreakSpec)

/-- ITS FALSE NEIGHBOUR: 'it returns false'. Refute it at one input. -/
def filesBreakWrong : ChangeSpec := { name := "filesBreak", fn := fun _ => fun
  | [d1, d2, d3, d4, d5] => { results := [.lit (.bool false)], args := [d1, d2, d3, d4, d5] }
  | _ => none }
def FilesBreakWrongFalsely : Prop := filesBreakRow.holds Tryz.pinned (OpenSpec.ofChange filesBreakWrong)

/-- 'cryostatlaw21.FilesSame': WHATEVER THE INPUT: true; the input reads as it did. -/
def filesSameSpec : ChangeSpec := { name := "filesSame", fn := fun _ => fun
  | [d1, d2, d3, d4] => { results := [.lit (.bool true)], args := [d1, d2, d3, d4] }
  | _ => none }
def filesSameRow : OpenClaim := { program := "ytjbgjfikgpffmaagreat", sum := "e1cb4a5bb62645e3c2120a3056e6f024f7c9c33691696b81b851289c38ab05b5", func := "cryostat/cryostatlaw21.FilesSame", spec := "filesSame", inPlace := ["internal/bytealg.abigen_runtime_cmpstring", "slices.overlaps[cryostat/api.File]", "slices.overlaps[string]", "slices.overlaps[int]"], unfollowed := true, recurses := true, plainKeys := false, apart := false }
def FilesSameSaid : Prop := filesSameRow.holds Tryz.pinned (OpenSpec.ofChange filesSameSpec)

/-- ITS FALSE NEIGHBOUR: 'it returns false'. Refute it at one input. -/
def filesSameWrong : ChangeSpec := { name := "filesSame", fn := fun _ => fun
  | [d1, d2, d3, d4] => { results := [.lit (.bool false)], args := [d1, d2, d3, d4] }
  | _ => none }
def FilesSameWrongFalsely : Prop := filesSameRow.holds Tryz.pinned (OpenSpec.ofChange filesSameWrong)

/-- 'cryostatlaw21.FilesRow': WHATEVER THE INPUT: true; the input reads as it did. -/
def filesRowSpec : ChangeSpec := { name := "filesRow", fn := fun _ => fun
  | [d1, d2] => { results := [.lit (.bool true)], args := [d1, d2] }
  | _ => none }
def filesRowRow : OpenClaim := { program := "ytjbgjfikgpffmaagreat", sum := "e1cb4a5bb62645e3c2120a3056e6f024f7c9c33691696b81b851289c38ab05b5", func := "cryostat/cryostatlaw21.FilesRow", spec := "filesRow", inPlace := ["internal/bytealg.abigen_runtime_cmpstring", "slices.overlaps[cryostat/api.File]", "slices.overlaps[string]", "slices.overlaps[int]"], unfollowed := true, recurses := true, plainKeys := false, apart := false }
def FilesRowSaid : Prop := filesRowRow.holds Tryz.pinned (OpenSpec.ofChange filesRowSpec)

/-- ITS FALSE NEIGHBOUR: 'it returns false'. Refute it at one input. -/
def filesRowWrong : ChangeSpec := { name := "filesRow", fn := fun _ => fun
  | [d1, d2] => { results := [.lit (.bool false)], args := [d1, d2] }
  | _ => none }
def FilesRowWrongFalsely : Prop := filesRowRow.holds Tryz.pinned (OpenSpec.ofChange filesRowWrong)

/-- 'cryostatlaw20.Stores': WHATEVER THE INPUT: true; the input reads as it did. -/
def storesSpec : ChangeSpec := { name := "stores", fn := fun _ => fun
  | [d1, d2, d3, d4, d5] => { results := [.lit (.bool true)], args := [d1, d2, d3, d4, d5] }
  | _ => none }
def storesRow : OpenClaim := { program := "ytjbgjfikgpffmaagreat", sum := "e1cb4a5bb62645e3c2120a3056e6f024f7c9c33691696b81b851289c38ab05b5", func := "cryostat/cryostatlaw20.Stores", spec := "stores", inPlace := ["internal/bytealg.abigen_runtime_cmpstring", "slices.overlaps[cryostat/api.File]", "slices.overlaps[cryostat/api.Info]", "maps.clone", "slices.overlaps[string]", "slices.overlaps[int]"], unfollowed := true, recurses := true, plainKeys := false, apart := false }
def StoresSaid : Prop := storesRow.holds Tryz.pinned (OpenSpec.ofChange storesSpec)

/-- ITS FALSE NEIGHBOUR: 'it returns false'. Refute it at one input. -/
def storesWrong : ChangeSpec := { name := "stores", fn := fun _ => fun
  | [d1, d2, d3, d4, d5] => { results := [.lit (.bool false)], args := [d1, d2, d3, d4, d5] }
  | _ => none }
def StoresWrongFalsely : Prop := storesRow.holds Tryz.pinned (OpenSpec.ofChange storesWrong)

/-- 'cryostatlaw20.StoreForms': WHATEVER THE INPUT: true; the input reads as it did. -/
def storeFormsSpec : ChangeSpec := { name := "storeForms", fn := fun _ => fun
  | [d] => { results := [.lit (.bool true)], args := [d] }
  | _ => none }
def storeFormsRow : OpenClaim := { program := "ytjbgjfikgpffmaagreat", sum := "e1cb4a5bb62645e3c2120a3056e6f024f7c9c33691696b81b851289c38ab05b5", func := "cryostat/cryostatlaw20.StoreForms", spec := "storeForms", inPlace := ["internal/bytealg.abigen_runtime_cmpstring", "slices.overlaps[cryostat/api.File]", "slices.overlaps[cryostat/api.Info]", "maps.clone", "slices.overlaps[string]", "slices.overlaps[int]"], unfollowed := true, recurses := true, plainKeys := false, apart := false }
def StoreFormsSaid : Prop := storeFormsRow.holds Tryz.pinned (OpenSpec.ofChange storeFormsSpec)

/-- ITS FALSE NEIGHBOUR: 'it returns false'. Refute it at one input. -/
def storeFormsWrong : ChangeSpec := { name := "storeForms", fn := fun _ => fun
  | [d] => { results := [.lit (.bool false)], args := [d] }
  | _ => none }
def StoreFormsWrongFalsely : Prop := storeFormsRow.holds Tryz.pinned (OpenSpec.ofChange storeFormsWrong)

/-- 'cryostatlaw20.StoreOrphans': WHATEVER THE INPUT: true; the input reads as it did. -/
def storeOrphansSpec : ChangeSpec := { name := "storeOrphans", fn := fun _ => fun
  | [d1, d2, d3] => { results := [.lit (.bool true)], args := [d1, d2, d3] }
  | _ => none }
def storeOrphansRow : OpenClaim := { program := "ytjbgjfikgpffmaagreat", sum := "e1cb4a5bb62645e3c2120a3056e6f024f7c9c33691696b81b851289c38ab05b5", func := "cryostat/cryostatlaw20.StoreOrphans", spec := "storeOrphans", inPlace := ["internal/bytealg.abigen_runtime_cmpstring", "slices.overlaps[cryostat/api.File]", "slices.overlaps[cryostat/api.Info]", "maps.clone", "slices.overlaps[string]", "slices.overlaps[int]"], unfollowed := true, recurses := true, plainKeys := false, apart := false }
def StoreOrphansSaid : Prop := storeOrphansRow.holds Tryz.pinned (OpenSpec.ofChange storeOrphansSpec)

/-- ITS FALSE NEIGHBOUR: 'it returns false'. Refute it at one input. -/
def storeOrphansWrong : ChangeSpec := { name := "storeOrphans", fn := fun _ => fun
  | [d1, d2, d3] => { results := [.lit (.bool false)], args := [d1, d2, d3] }
  | _ => none }
def StoreOrphansWrongFalsely : Prop := storeOrphansRow.holds Tryz.pinned (OpenSpec.ofChange storeOrphansWrong)

/-- 'cryostatlaw20.StoreLabels': WHATEVER THE INPUT: true; the input reads as it did. -/
def storeLabelsSpec : ChangeSpec := { name := "storeLabels", fn := fun _ => fun
  | [d1, d2, d3, d4] => { results := [.lit (.bool true)], args := [d1, d2, d3, d4] }
  | _ => none }
def storeLabelsRow : OpenClaim := { program := "ytjbgjfikgpffmaagreat", sum := "e1cb4a5bb62645e3c2120a3056e6f024f7c9c33691696b81b851289c38ab05b5", func := "cryostat/cryostatlaw20.StoreLabels", spec := "storeLabels", inPlace := ["internal/bytealg.abigen_runtime_cmpstring", "slices.overlaps[cryostat/api.File]", "slices.overlaps[cryostat/api.Info]", "maps.clone", "slices.overlaps[string]", "slices.overlaps[int]"], unfollowed := true, recurses := true, plainKeys := false, apart := false }
def StoreLabelsSaid : Prop := storeLabelsRow.holds Tryz.pinned (OpenSpec.ofChange storeLabelsSpec)

/-- ITS FALSE NEIGHBOUR: 'it returns false'. Refute it at one input. -/
def storeLabelsWrong : ChangeSpec := { name := "storeLabels", fn := fun _ => fun
  | [d1, d2, d3, d4] => { results := [.lit (.bool false)], args := [d1, d2, d3, d4] }
  | _ => none }
def StoreLabelsWrongFalsely : Prop := storeLabelsRow.holds Tryz.pinned (OpenSpec.ofChange storeLabelsWrong)

/-- 'cryostatlaw20.StoreRow': WHATEVER THE INPUT: true; the input reads as it did. -/
def storeRowSpec : ChangeSpec := { name := "storeRow", fn := fun _ => fun
  | [d] => { results := [.lit (.bool true)], args := [d] }
  | _ => none }
def storeRowRow : OpenClaim := { program := "ytjbgjfikgpffmaagreat", sum := "e1cb4a5bb62645e3c2120a3056e6f024f7c9c33691696b81b851289c38ab05b5", func := "cryostat/cryostatlaw20.StoreRow", spec := "storeRow", inPlace := ["internal/bytealg.abigen_runtime_cmpstring", "slices.overlaps[cryostat/api.File]", "slices.overlaps[cryostat/api.Info]", "maps.clone", "slices.overlaps[string]", "slices.overlaps[int]"], unfollowed := true, recurses := true, plainKeys := false, apart := false }
def StoreRowSaid : Prop := storeRowRow.holds Tryz.pinned (OpenSpec.ofChange storeRowSpec)

/-- ITS FALSE NEIGHBOUR: 'it returns false'. Refute it at one input. -/
def storeRowWrong : ChangeSpec := { name := "storeRow", fn := fun _ => fun
  | [d] => { results := [.lit (.bool false)], args := [d] }
  | _ => none }
def StoreRowWrongFalsely : Prop := storeRowRow.holds Tryz.pinned (OpenSpec.ofChange storeRowWrong)

/- THE SECOND FORM. 'bulk': how many values and letters a reading holds, each counted each time it is reached (what is shared counts as often as it is met; a slice's spare places count too). A statement '..UptoSaid' is the law's where the arguments, and the package variables that the reading takes, are together of bulk at most 1048576: NARROWER than '..Said'. Prove '..Said' where nothing that the law and all that it calls make is longer than what came in: it says more and counts as full. Else prove '..UptoSaid'. A law counts once. -/
mutual
def uptoBulk {H : Type} : DataW H → Nat
  | .lit (.string bytes) => bytes.length + 1
  | .lit _ => 1
  | .nil => 1
  | .ptr d => uptoBulk d + 1
  | .slice elems spare => uptoBulkAll elems + uptoBulkAll spare + 1
  | .agg parts => uptoBulkAll parts + 1
  | .iface _ d => uptoBulk d + 1
  | .map entries => uptoBulkEntries entries + 1
  | .held _ => 1
def uptoBulkAll {H : Type} : List (DataW H) → Nat
  | [] => 0
  | d :: r => uptoBulk d + uptoBulkAll r
def uptoBulkEntries {H : Type} : List (Lit × DataW H) → Nat
  | [] => 0
  | x :: r => uptoBulkEntry x + uptoBulkEntries r
def uptoBulkEntry {H : Type} : Lit × DataW H → Nat
  | (.string bytes, d) => bytes.length + uptoBulk d + 1
  | (_, d) => uptoBulk d + 1
 end
def uptoSmall : (H : Type) → List (DataW H) → Bool := fun _ ds => decide (uptoBulkAll ds ≤ 1048576)
def OpenSpec.upto (s : _root_.Go.ChangeSpec) : _root_.Go.OpenSpec := { _root_.Go.OpenSpec.ofChange s with cond := some uptoSmall }

/-- 'cryostatlaw21.Files', WHERE WHAT IT READS IS OF BULK AT MOST 1048576: true; the input reads as it did. -/
def filesUptoRow : OpenClaim := { program := "ytjbgjfikgpffmaagreat", sum := "e1cb4a5bb62645e3c2120a3056e6f024f7c9c33691696b81b851289c38ab05b5", func := "cryostat/cryostatlaw21.Files", spec := "files", inPlace := ["internal/bytealg.abigen_runtime_cmpstring", "slices.overlaps[cryostat/api.File]", "slices.overlaps[string]", "slices.overlaps[int]"], unfollowed := true, recurses := true, plainKeys := false, apart := false, narrowed := true }
def FilesUptoSaid : Prop := filesUptoRow.holds Tryz.pinned (OpenSpec.upto filesSpec)

/-- 'cryostatlaw21.FilesReads', WHERE WHAT IT READS IS OF BULK AT MOST 1048576: true; the input reads as it did. -/
def filesReadsUptoRow : OpenClaim := { program := "ytjbgjfikgpffmaagreat", sum := "e1cb4a5bb62645e3c2120a3056e6f024f7c9c33691696b81b851289c38ab05b5", func := "cryostat/cryostatlaw21.FilesReads", spec := "filesReads", inPlace := ["internal/bytealg.abigen_runtime_cmpstring", "slices.overlaps[cryostat/api.File]", "slices.overlaps[string]", "slices.overlaps[int]"], unfollowed := true, recurses := true, plainKeys := false, apart := false, narrowed := true }
def FilesReadsUptoSaid : Prop := filesReadsUptoRow.holds Tryz.pinned (OpenSpec.upto filesReadsSpec)

/-- 'cryostatlaw21.FilesErrors', WHERE WHAT IT READS IS OF BULK AT MOST 1048576: true; the input reads as it did. -/
def filesErrorsUptoRow : OpenClaim := { program := "ytjbgjfikgpffmaagreat", sum := "e1cb4a5bb62645e3c2120a3056e6f024f7c9c33691696b81b851289c38ab05b5", func := "cryostat/cryostatlaw21.FilesErrors", spec := "filesErrors", inPlace := ["internal/bytealg.abigen_runtime_cmpstring", "slices.overlaps[cryostat/api.File]", "slices.overlaps[string]", "slices.overlaps[int]"], unfollowed := true, recurses := true, plainKeys := false, apart := false, narrowed := true }
def FilesErrorsUptoSaid : Prop := filesErrorsUptoRow.holds Tryz.pinned (OpenSpec.upto filesErrorsSpec)

/-- 'cryostatlaw21.FilesBreak', WHERE WHAT IT READS IS OF BULK AT MOST 1048576: true; the input reads as it did. -/
def filesBreakUptoRow : OpenClaim := { program := "ytjbgjfikgpffmaagreat", sum := "e1cb4a5bb62645e3c2120a3056e6f024f7c9c33691696b81b851289c38ab05b5", func := "cryostat/cryostatlaw21.FilesBreak", spec := "filesBreak", inPlace := ["internal/bytealg.abigen_runtime_cmpstring", "slices.overlaps[cryostat/api.File]", "slices.overlaps[string]", "slices.overlaps[int]"], unfollowed := true, recurses := true, plainKeys := false, apart := false, narrowed := true }
def FilesBreakUptoSaid : Prop := filesBreakUptoRow.holds Tryz.pinned (OpenSpec.upto filesBreakSpec)

/-- 'cryostatlaw21.FilesSame', WHERE WHAT IT READS IS OF BULK AT MOST 1048576: true; the input reads as it did. -/
def filesSameUptoRow : OpenClaim := { program := "ytjbgjfikgpffmaagreat", sum := "e1cb4a5bb62645e3c2120a3056e6f024f7c9c33691696b81b851289c38ab05b5", func := "cryostat/cryostatlaw21.FilesSame", spec := "filesSame", inPlace := ["internal/bytealg.abigen_runtime_cmpstring", "slices.overlaps[cryostat/api.File]", "slices.overlaps[string]", "slices.overlaps[int]"], unfollowed := true, recurses := true, plainKeys := false, apart := false, narrowed := true }
def FilesSameUptoSaid : Prop := filesSameUptoRow.holds Tryz.pinned (OpenSpec.upto filesSameSpec)

/-- 'cryostatlaw21.FilesRow', WHERE WHAT IT READS IS OF BULK AT MOST 1048576: true; the input reads as it did. -/
def filesRowUptoRow : OpenClaim := { program := "ytjbgjfikgpffmaagreat", sum := "e1cb4a5bb62645e3c2120a3056e6f024f7c9c33691696b81b851289c38ab05b5", func := "cryostat/cryostatlaw21.FilesRow", spec := "filesRow", inPlace := ["internal/bytealg.abigen_runtime_cmpstring", "slices.overlaps[cryostat/api.File]", "slices.overlaps[string]", "slices.overlaps[int]"], unfollowed := true, recurses := true, plainKeys := false, apart := false, narrowed := true }
def FilesRowUptoSaid : Prop := filesRowUptoRow.holds Tryz.pinned (OpenSpec.upto filesRowSpec)

/-- 'cryostatlaw20.Stores', WHERE WHAT IT READS IS OF BULK AT MOST 1048576: true; the input reads as it did. -/
def storesUptoRow : OpenClaim := { program := "ytjbgjfikgpffmaagreat", sum := "e1cb4a5bb62645e3c2120a3056e6f024f7c9c33691696b81b851289c38ab05b5", func := "cryostat/cryostatlaw20.Stores", spec := "stores", inPlace := ["internal/bytealg.abigen_runtime_cmpstring", "slices.overlaps[cryostat/api.File]", "slices.overlaps[cryostat/api.Info]", "maps.clone", "slices.overlaps[string]", "slices.overlaps[int]"], unfollowed := true, recurses := true, plainKeys := false, apart := false, narrowed := true }
def StoresUptoSaid : Prop := storesUptoRow.holds Tryz.pinned (OpenSpec.upto storesSpec)

/-- 'cryostatlaw20.StoreForms', WHERE WHAT IT READS IS OF BULK AT MOST 1048576: true; the input reads as it did. -/
def storeFormsUptoRow : OpenClaim := { program := "ytjbgjfikgpffmaagreat", sum := "e1cb4a5bb62645e3c2120a3056e6f024f7c9c33691696b81b851289c38ab05b5", func := "cryostat/cryostatlaw20.StoreForms", spec := "storeForms", inPlace := ["internal/bytealg.abigen_runtime_cmpstring", "slices.overlaps[cryostat/api.File]", "slices.overlaps[cryostat/api.Info]", "maps.clone", "slices.overlaps[string]", "slices.overlaps[int]"], unfollowed := true, recurses := true, plainKeys := false, apart := false, narrowed := true }
def StoreFormsUptoSaid : Prop := storeFormsUptoRow.holds Tryz.pinned (OpenSpec.upto storeFormsSpec)

/-- 'cryostatlaw20.StoreOrphans', WHERE WHAT IT READS IS OF BULK AT MOST 1048576: true; the input reads as it did. -/
def storeOrphansUptoRow : OpenClaim := { program := "ytjbgjfikgpffmaagreat", sum := "e1cb4a5bb62645e3c2120a3056e6f024f7c9c33691696b81b851289c38ab05b5", func := "cryostat/cryostatlaw20.StoreOrphans", spec := "storeOrphans", inPlace := ["internal/bytealg.abigen_runtime_cmpstring", "slices.overlaps[cryostat/api.File]", "slices.overlaps[cryostat/api.Info]", "maps.clone", "slices.overlaps[string]", "slices.overlaps[int]"], unfollowed := true, recurses := true, plainKeys := false, apart := false, narrowed := true }
def StoreOrphansUptoSaid : Prop := storeOrphansUptoRow.holds Tryz.pinned (OpenSpec.upto storeOrphansSpec)

/-- 'cryostatlaw20.StoreLabels', WHERE WHAT IT READS IS OF BULK AT MOST 1048576: true; the input reads as it did. -/
def storeLabelsUptoRow : OpenClaim := { program := "ytjbgjfikgpffmaagreat", sum := "e1cb4a5bb62645e3c2120a3056e6f024f7c9c33691696b81b851289c38ab05b5", func := "cryostat/cryostatlaw20.StoreLabels", spec := "storeLabels", inPlace := ["internal/bytealg.abigen_runtime_cmpstring", "slices.overlaps[cryostat/api.File]", "slices.overlaps[cryostat/api.Info]", "maps.clone", "slices.overlaps[string]", "slices.overlaps[int]"], unfollowed := true, recurses := true, plainKeys := false, apart := false, narrowed := true }
def StoreLabelsUptoSaid : Prop := storeLabelsUptoRow.holds Tryz.pinned (OpenSpec.upto storeLabelsSpec)

/-- 'cryostatlaw20.StoreRow', WHERE WHAT IT READS IS OF BULK AT MOST 1048576: true; the input reads as it did. -/
def storeRowUptoRow : OpenClaim := { program := "ytjbgjfikgpffmaagreat", sum := "e1cb4a5bb62645e3c2120a3056e6f024f7c9c33691696b81b851289c38ab05b5", func := "cryostat/cryostatlaw20.StoreRow", spec := "storeRow", inPlace := ["internal/bytealg.abigen_runtime_cmpstring", "slices.overlaps[cryostat/api.File]", "slices.overlaps[cryostat/api.Info]", "maps.clone", "slices.overlaps[string]", "slices.overlaps[int]"], unfollowed := true, recurses := true, plainKeys := false, apart := false, narrowed := true }
def StoreRowUptoSaid : Prop := storeRowUptoRow.holds Tryz.pinned (OpenSpec.upto storeRowSpec)

end Rows
end Go.Proofs.YtjbgjfikgpffmaaGreat
