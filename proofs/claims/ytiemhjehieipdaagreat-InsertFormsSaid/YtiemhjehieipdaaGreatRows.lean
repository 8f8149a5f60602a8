/-
  No cell of these rows narrows 'for every input' (looked for: loops, veiled, ifaces, maps, wideKeys, modest, calm, conditions, laid).
  DERIVED. THE GIVEN ROWS OF THIS SEAT. 5 by the template 'for every input the law returns true; each argument reads behind the call as it read before'; 0 by the template 'total and deterministic' (their statements: YtiemhjehieipdaaGreatTotals.lean).
  GIVEN WITH THE SEED: the statements are not yours to turn. If you find one false, say at which input.
  Laid BY PROGRAM, IN A SANDBOX (cutbox-rows.mjs): the forced cells as the released guide's own fill.sh prints them over the translation 1c68a6cd21dac1e0… (all of the seat's roots in one cut). By AI agents, Wed Nov 11 2026. No macro, syntax, notation, axiom, sorry.
-/
import Derived.Test.YtiemhjehieipdaaGreatChecked
import GoSem.Claim
import GoSem.ClaimJoined
import GoSem.ClaimMapViews
import Derived.JoinedTies
import Derived.KernelRfl
namespace Go.Proofs.YtiemhjehieipdaaGreat
/- THE CELL 'sum', in the pinned program and in every row, IS THE sha256 OF THE DUMP (.gsa) THAT YtiemhjehieipdaaGreatProg.lean LOADS. Nothing in Lean hashes anything: it is a label: what it is worth is what the hold of that sum in a sandbox is worth. -/
noncomputable def Tryz.pinned : Pinned := { name := "ytiemhjehieipdaagreat", sum := "1c68a6cd21dac1e0ec90f21a9ebbd3a340a459defbd48bb6e735f5cd4ff60246", checked := Tryz.checked }
namespace Rows
def none {H : Type} : Left H := { results := [], args := [] }

/-- 'cryostatlaw15.Diffs': WHATEVER THE INPUT: true; the input reads as it did. -/
def diffsSpec : ChangeSpec := { name := "diffs", fn := fun _ => fun
  | [d1, d2, d3] => { results := [.lit (.bool true)], args := [d1, d2, d3] }
  | _ => none }
def diffsRow : OpenClaim := { program := "ytiemhjehieipdaagreat", sum := "1c68a6cd21dac1e0ec90f21a9ebbd3a340a459defbd48bb6e735f5cd4ff60246", func := "cryostat/cryostatlaw15.Diffs", spec := "diffs", unfollowed := true, recurses := true, apart := false }
def DiffsSaid : Prop := diffsRow.holds Tryz.pinned (OpenSpec.ofChange diffsSpec)

/-- ITS FALSE NEIGHBOUR: 'it returns false'. Refute it at one input. -/
def diffsWrong : ChangeSpec := { name := "diffs", fn := fun _ => fun
  | [d1, d2, d3] => { results := [.lit (.bool false)], args := [d1, d2, d3] }
  | _ => none }
def DiffsWrongFalsely : Prop := diffsRow.holds Tryz.pinned (OpenSpec.ofChange diffsWrong)

/-- 'cryostatlaw12.Inserts': WHATEVER THE INPUT: true; the input reads as it did. -/
def insertsSpec : ChangeSpec := { name := "inserts", fn := fun _ => fun
  | [d1, d2, d3] => { results := [.lit (.bool true)], args := [d1, d2, d3] }
  | _ => none }
def insertsRow : OpenClaim := { program := "ytiemhjehieipdaagreat", sum := "1c68a6cd21dac1e0ec90f21a9ebbd3a340a459defbd48bb6e735f5cd4ff60246", func := "cryostat/cryostatlaw12.Inserts", spec := "inserts", inPlace := ["slices.overlaps[string]", "slices.overlaps[int]"], unfollowed := true, recurses := true, apart := false }
def InsertsSaid : Prop := insertsRow.holds Tryz.pinned (OpenSpec.ofChange insertsSpec)

/-- ITS FALSE NEIGHBOUR: 'it returns false'. Refute it at one input. -/
def insertsWrong : ChangeSpec := { name := "inserts", fn := fun _ => fun
  | [d1, d2, d3] => { results := [.lit (.bool false)], args := [d1, d2, d3] }
  | _ => none }
def InsertsWrongFalsely : Prop := insertsRow.holds Tryz.pinned (OpenSpec.ofChange insertsWrong)

/-- 'cryostatlaw12.InsertSame': WHATEVER THE INPUT: true; the input reads as it did. -/
def insertSameSpec : ChangeSpec := { name := "insertSame", fn := fun _ => fun
  | [d1, d2, d3] => { results := [.lit (.bool true)], args := [d1, d2, d3] }
  | _ => none }
def insertSameRow : OpenClaim := { program := "ytiemhjehieipdaagreat", sum := "1c68a6cd21dac1e0ec90f21a9ebbd3a340a459defbd48bb6e735f5cd4ff60246", func := "cryostat/cryostatlaw12.InsertSame", spec := "insertSame", inPlace := ["slices.overlaps[string]", "slices.overlaps[int]"], unfollowed := true, recurses := true, apart := false }
def InsertSameSaid : Prop := insertSameRow.holds Tryz.pinned (OpenSpec.ofChange insertSameSpec)

/-- ITS FALSE NEIGHBOUR: 'it returns false'. Refute it at one input. -/
def insertSameWrong : ChangeSpec := { name := "insertSame", fn := fun _ => fun
  | [d1, d2, d3] => { results := [.lit (.bool false)], args := [d1, d2, d3] }
  | _ => none }
def InsertSameWrongFalsely : Prop := insertSameRow.holds Tryz.pinned (OpenSpec.ofChange insertSameWrong)

/-- 'cryostatlaw12.InsertForms': WHATEVER THE INPUT: true; the input reads as it did. -/
def insertFormsSpec : ChangeSpec := { name := "insertForms", fn := fun _ => fun
  | [d1, d2] => { results := [.lit (.bool true)], args := [d1, d2] }
  | _ => none }
def insertFormsRow : OpenClaim := { program := "ytiemhjehieipdaagreat", sum := "1c68a6cd21dac1e0ec90f21a9ebbd3a340a459defbd48bb6e735f5cd4ff60246", func := "cryostat/cryostatlaw12.InsertForms", spec := "insertForms", inPlace := ["slices.overlaps[string]", "slices.overlaps[int]"], unfollowed := true, recurses := true, apart := false }
def InsertFormsSaid : Prop := insertFormsRow.holds Tryz.pinned (OpenSpec.ofChange insertFormsSpec)

/-- ITS FALSE NEIGHBOUR: 'it returns false'. Refute it at one input. -/
def insertFormsWrong : ChangeSpec := { name := "insertForms", fn := fun _ => fun
  | [d1, d2] => { results := [.lit (.bool false)], args := [d1, d2] }
  | _ => none }
def InsertFormsWrongFalsely : Prop := insertFormsRow.holds Tryz.pinned (OpenSpec.ofChange insertFormsWrong)

/-- 'cryostatlaw13.EraseBack': WHATEVER THE INPUT: true; the input reads as it did. -/
def eraseBackSpec : ChangeSpec := { name := "eraseBack", fn := fun _ => fun
  | [d1, d2, d3] => { results := [.lit (.bool true)], args := [d1, d2, d3] }
  | _ => none }
def eraseBackRow : OpenClaim := { program := "ytiemhjehieipdaagreat", sum := "1c68a6cd21dac1e0ec90f21a9ebbd3a340a459defbd48bb6e735f5cd4ff60246", func := "cryostat/cryostatlaw13.EraseBack", spec := "eraseBack", inPlace := ["slices.overlaps[string]", "slices.overlaps[int]"], unfollowed := true, recurses := true, apart := false }
def EraseBackSaid : Prop := eraseBackRow.holds Tryz.pinned (OpenSpec.ofChange eraseBackSpec)

/-- ITS FALSE NEIGHBOUR: 'it returns false'. Refute it at one input. -/
def eraseBackWrong : ChangeSpec := { name := "eraseBack", fn := fun _ => fun
  | [d1, d2, d3] => { results := [.lit (.bool false)], args := [d1, d2, d3] }
  | _ => none }
def EraseBackWrongFalsely : Prop := eraseBackRow.holds Tryz.pinned (OpenSpec.ofChange eraseBackWrong)

/- THE SECOND FORM. 'bulk': how many values and letters a reading holds, each counted each time it is reached (what is shared counts as often as it is met; a slice's spare places count too). A statement '..UptoSaid' is the law's where the arguments, and the package variables that the reading takes, are together of bulk at most 1048576: NARROWER than '..Said'. Prove '..Said' where nothing that the law and all that it calls make is longer than what came in: it says more and counts as full. Else prove '..UptoSaid'. A law counts once. -/
mutual
def uptoBulk {H : Type} : DataW H → Nat
  | .lit (.string bytes) => bytes.length + 1
  | .lit _ => 1
  | .nil => 1
  | .ptr d => uptoBulk d + 1
  | .slice elems spare => uptoBulkAll elems + uptoBulkAll spare + 1
  | .agg parts => uptoBulkAll parts + 1
  | .iface _ d => uptoBulk d + 1
  | .map entries => uptoBulkEntries entries + 1
  | .held _ => 1
def uptoBulkAll {H : Type} : List (DataW H) → Nat
  | [] => 0
  | d :: r => uptoBulk d + uptoBulkAll r
def uptoBulkEntries {H : Type} : List (Lit × DataW H) → Nat
  | [] => 0
  | x :: r => uptoBulkEntry x + uptoBulkEntries r
def uptoBulkEntry {H : Type} : Lit × DataW H → Nat
  | (.string bytes, d) => bytes.length + uptoBulk d + 1
  | (_, d) => uptoBulk d + 1
 end
def uptoSmall : (H : Type) → List (DataW H) → Bool := fun _ ds => decide (uptoBulkAll ds ≤ 1048576)
def OpenSpec.upto (s : _root_.Go.ChangeSpec) : _root_.Go.OpenSpec := { _root_.Go.OpenSpec.ofChange s with cond := some uptoSmall }

/-- 'cryostatlaw15.Diffs', WHERE WHAT IT READS IS OF BULK AT MOST 1048576: true; the input reads as it did. -/
def diffsUptoRow : OpenClaim := { program := "ytiemhjehieipdaagreat", sum := "1c68a6cd21dac1e0ec90f21a9ebbd3a340a459defbd48bb6e735f5cd4ff60246", func := "cryostat/cryostatlaw15.Diffs", spec := "diffs", unfollowed := true, recurses := true, apart := false, narrowed := true }
def DiffsUptoSaid : Prop := diffsUptoRow.holds Tryz.pinned (OpenSpec.upto diffsSpec)

/-- 'cryostatlaw12.Inserts', WHERE WHAT IT READS IS OF BULK AT MOST 1048576: true; the input reads as it did. -/
def insertsUptoRow : OpenClaim := { program := "ytiemhjehieipdaagreat", sum := "1c68a6cd21dac1e0ec90f21a9ebbd3a340a459defbd48bb6e735f5cd4ff60246", func := "cryostat/cryostatlaw12.Inserts", spec := "inserts", inPlace := ["slices.overlaps[string]", "slices.overlaps[int]"], unfollowed := true, recurses := true, apart := false, narrowed := true }
def InsertsUptoSaid : Prop := insertsUptoRow.holds Tryz.pinned (OpenSpec.upto insertsSpec)

/-- 'cryostatlaw12.InsertSame', WHERE WHAT IT READS IS OF BULK AT MOST 1048576: true; the input reads as it did. -/
def insertSameUptoRow : OpenClaim := { program := "ytiemhjehieipdaagreat", sum := "1c68a6cd21dac1e0ec90f21a9ebbd3a340a459defbd48bb6e735f5cd4ff60246", func := "cryostat/cryostatlaw12.InsertSame", spec := "insertSame", inPlace := ["slices.overlaps[string]", "slices.overlaps[int]"], unfollowed := true, recurses := true, apart := false, narrowed := true }
def InsertSameUptoSaid : Prop := insertSameUptoRow.holds Tryz.pinned (OpenSpec.upto insertSameSpec)

/-- 'cryostatlaw12.InsertForms', WHERE WHAT IT READS IS OF BULK AT MOST 1048576: true; the input reads as it did. -/
def insertFormsUptoRow : OpenClaim := { program := "ytiemhjehieipdaagreat", sum := "1c68a6cd21dac1e0ec90f21a9ebbd3a340a459defbd48bb6e735f5cd4ff60246", func := "cryostat/cryostatlaw12.InsertForms", spec := "insertForms", inPlace := ["slices.overlaps[string]", "slices.overlaps[int]"], unfollowed := true, recurses := true, apart := false, narrowed := true }
def InsertFormsUptoSaid : Prop := insertFormsUptoRow.holds Tryz.pinned (OpenSpec.upto insertFormsSpec)

/-- 'cryostatlaw13.EraseBack', WHERE WHAT IT READS IS OF BULK AT MOST 1048576: true; the input reads as it did. -/
def eraseBackUptoRow : OpenClaim := { program := "ytiemhjehieipdaagreat", sum := "1c68a6cd21dac1e0ec90f21a9ebbd3a340a459defbd48bb6e735f5cd4ff60246", func := "cryostat/cryostatlaw13.EraseBack", spec := "eraseBack", inPlace := ["slices.overlaps[string]", "slices.overlaps[int]"], unfollowed := true, recurses := true, apart := false, narrowed := true }
def EraseBackUptoSaid : Prop := eraseBackUptoRow.holds Tryz.pinned (OpenSpec.upto eraseBackSpec)

end Rows
end Go.Proofs.YtiemhjehieipdaaGreat
