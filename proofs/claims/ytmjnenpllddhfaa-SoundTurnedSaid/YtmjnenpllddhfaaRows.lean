/-
  No cell of these rows narrows 'for every input' (looked for: loops, veiled, ifaces, maps, wideKeys, modest, calm, conditions, laid).
  DERIVED. THE GIVEN ROWS OF THIS SEAT. 11 by the template 'for every input the law returns true; each argument reads behind the call as it read before'; 0 by the template 'total and deterministic' (their statements: YtmjnenpllddhfaaTotals.lean).
  GIVEN WITH THE SEED: the statements are not yours to turn. If you find one false, say at which input.
  Laid BY PROGRAM, IN A SANDBOX (cutbox-rows.mjs): the forced cells as the released guide's own fill.sh prints them over the translation 957e52501bf6d16b… (all of the seat's roots in one cut). By AI agents, Wed Nov 11 2026. No macro, syntax, notation, axiom, sorry.
-/
import Derived.Test.YtmjnenpllddhfaaChecked
import GoSem.Claim
import GoSem.ClaimJoined
import GoSem.ClaimMapViews
import Derived.JoinedTies
import Derived.KernelRfl
namespace Go.Proofs.Ytmjnenpllddhfaa
/- THE CELL 'sum', in the pinned program and in every row, IS THE sha256 OF THE DUMP (.gsa) THAT YtmjnenpllddhfaaProg.lean LOADS. Nothing in Lean hashes anything: it is a label: what it is worth is what the hold of that sum in a sandbox is worth. -/
noncomputable def Try.pinned : Pinned := { name := "ytmjnenpllddhfaa", sum := "957e52501bf6d16b9e0a98237cb3fc5ac3dfce02ceb3b75d03a5e93ea28e4599", checked := Try.checked }
namespace Rows
def none {H : Type} : Left H := { results := [], args := [] }

/-- 'cryostatlaw10.Sounds': WHATEVER THE INPUT: true; the input reads as it did. -/
def soundsSpec : ChangeSpec := { name := "sounds", fn := fun _ => fun
  | [d] => { results := [.lit (.bool true)], args := [d] }
  | _ => none }
def soundsRow : OpenClaim := { program := "ytmjnenpllddhfaa", sum := "957e52501bf6d16b9e0a98237cb3fc5ac3dfce02ceb3b75d03a5e93ea28e4599", func := "cryostat/cryostatlaw10.Sounds", spec := "sounds", unfollowed := true, recurses := true, apart := false }
def SoundsSaid : Prop := soundsRow.holds Try.pinned (OpenSpec.ofChange soundsSpec)

/-- ITS FALSE NEIGHBOUR: 'it returns false'. Refute it at one input. -/
def soundsWrong : ChangeSpec := { name := "sounds", fn := fun _ => fun
  | [d] => { results := [.lit (.bool false)], args := [d] }
  | _ => none }
def SoundsWrongFalsely : Prop := soundsRow.holds Try.pinned (OpenSpec.ofChange soundsWrong)

/-- 'cryostatlaw10.SoundTurned': WHATEVER THE INPUT: true; the input reads as it did. -/
def soundTurnedSpec : ChangeSpec := { name := "soundTurned", fn := fun _ => fun
  | [d] => { results := [.lit (.bool true)], args := [d] }
  | _ => none }
def soundTurnedRow : OpenClaim := { program := "ytmjnenpllddhfaa", sum := "957e52501bf6d16b9e0a98237cb3fc5ac3dfce02ceb3b75d03a5e93ea28e4599", func := "cryostat/cryostatlaw10.SoundTurned", spec := "soundTurned", unfollowed := true, recurses := true, apart := false }
def SoundTurnedSaid : Prop := soundTurnedRow.holds Try.pinned (OpenSpec.ofChange soundTurnedSpec)

/-- ITS FALSE NEIGHBOUR: 'it returns false'. Refute it at one input. -/
def soundTurnedWrong : ChangeSpec := { name := "soundTurned", fn := fun _ => fun
  | [d] => { results := [.lit (.bool false)], args := [d] }
  | _ => none }
def SoundTurnedWrongFalsely : Prop := soundTurnedRow.holds Try.pinned (OpenSpec.ofChange soundTurnedWrong)

/-- 'cryostatlaw10.SoundForms': WHATEVER THE INPUT: true; the input reads as it did. -/
def soundFormsSpec : ChangeSpec := { name := "soundForms", fn := fun _ => fun
  | [d] => { results := [.lit (.bool true)], args := [d] }
  | _ => none }
def soundFormsRow : OpenClaim := { program := "ytmjnenpllddhfaa", sum := "957e52501bf6d16b9e0a98237cb3fc5ac3dfce02ceb3b75d03a5e93ea28e4599", func := "cryostat/cryostatlaw10.SoundForms", spec := "soundForms", unfollowed := true, recurses := true, apart := false }
def SoundFormsSaid : Prop := soundFormsRow.holds Try.pinned (OpenSpec.ofChange soundFormsSpec)

/-- ITS FALSE NEIGHBOUR: 'it returns false'. Refute it at one input. -/
def soundFormsWrong : ChangeSpec := { name := "soundForms", fn := fun _ => fun
  | [d] => { results := [.lit (.bool false)], args := [d] }
  | _ => none }
def SoundFormsWrongFalsely : Prop := soundFormsRow.holds Try.pinned (OpenSpec.ofChange soundFormsWrong)

/-- 'cryostatlaw10.SoundFull': WHATEVER THE INPUT: true; the input reads as it did. -/
def soundFullSpec : ChangeSpec := { name := "soundFull", fn := fun _ => fun
  | [d] => { results := [.lit (.bool true)], args := [d] }
  | _ => none }
def soundFullRow : OpenClaim := { program := "ytmjnenpllddhfaa", sum := "957e52501bf6d16b9e0a98237cb3fc5ac3dfce02ceb3b75d03a5e93ea28e4599", func := "cryostat/cryostatlaw10.SoundFull", spec := "soundFull", unfollowed := true, recurses := true, apart := false }
def SoundFullSaid : Prop := soundFullRow.holds Try.pinned (OpenSpec.ofChange soundFullSpec)

/-- ITS FALSE NEIGHBOUR: 'it returns false'. Refute it at one input. -/
def soundFullWrong : ChangeSpec := { name := "soundFull", fn := fun _ => fun
  | [d] => { results := [.lit (.bool false)], args := [d] }
  | _ => none }
def SoundFullWrongFalsely : Prop := soundFullRow.holds Try.pinned (OpenSpec.ofChange soundFullWrong)

/-- 'cryostatlaw10.SoundPages': WHATEVER THE INPUT: true; the input reads as it did. -/
def soundPagesSpec : ChangeSpec := { name := "soundPages", fn := fun _ => fun
  | [d] => { results := [.lit (.bool true)], args := [d] }
  | _ => none }
def soundPagesRow : OpenClaim := { program := "ytmjnenpllddhfaa", sum := "957e52501bf6d16b9e0a98237cb3fc5ac3dfce02ceb3b75d03a5e93ea28e4599", func := "cryostat/cryostatlaw10.SoundPages", spec := "soundPages", unfollowed := true, recurses := true, apart := false }
def SoundPagesSaid : Prop := soundPagesRow.holds Try.pinned (OpenSpec.ofChange soundPagesSpec)

/-- ITS FALSE NEIGHBOUR: 'it returns false'. Refute it at one input. -/
def soundPagesWrong : ChangeSpec := { name := "soundPages", fn := fun _ => fun
  | [d] => { results := [.lit (.bool false)], args := [d] }
  | _ => none }
def SoundPagesWrongFalsely : Prop := soundPagesRow.holds Try.pinned (OpenSpec.ofChange soundPagesWrong)

/-- 'cryostatlaw14.Scans': WHATEVER THE INPUT: true; the input reads as it did. -/
def scansSpec : ChangeSpec := { name := "scans", fn := fun _ => fun
  | [d1, d2, d3] => { results := [.lit (.bool true)], args := [d1, d2, d3] }
  | _ => none }
def scansRow : OpenClaim := { program := "ytmjnenpllddhfaa", sum := "957e52501bf6d16b9e0a98237cb3fc5ac3dfce02ceb3b75d03a5e93ea28e4599", func := "cryostat/cryostatlaw14.Scans", spec := "scans", unfollowed := true, recurses := true, apart := false }
def ScansSaid : Prop := scansRow.holds Try.pinned (OpenSpec.ofChange scansSpec)

/-- ITS FALSE NEIGHBOUR: 'it returns false'. Refute it at one input. -/
def scansWrong : ChangeSpec := { name := "scans", fn := fun _ => fun
  | [d1, d2, d3] => { results := [.lit (.bool false)], args := [d1, d2, d3] }
  | _ => none }
def ScansWrongFalsely : Prop := scansRow.holds Try.pinned (OpenSpec.ofChange scansWrong)

/-- 'cryostatlaw14.ScanParts': WHATEVER THE INPUT: true; the input reads as it did. -/
def scanPartsSpec : ChangeSpec := { name := "scanParts", fn := fun _ => fun
  | [d1, d2] => { results := [.lit (.bool true)], args := [d1, d2] }
  | _ => none }
def scanPartsRow : OpenClaim := { program := "ytmjnenpllddhfaa", sum := "957e52501bf6d16b9e0a98237cb3fc5ac3dfce02ceb3b75d03a5e93ea28e4599", func := "cryostat/cryostatlaw14.ScanParts", spec := "scanParts", unfollowed := true, recurses := true, apart := false }
def ScanPartsSaid : Prop := scanPartsRow.holds Try.pinned (OpenSpec.ofChange scanPartsSpec)

/-- ITS FALSE NEIGHBOUR: 'it returns false'. Refute it at one input. -/
def scanPartsWrong : ChangeSpec := { name := "scanParts", fn := fun _ => fun
  | [d1, d2] => { results := [.lit (.bool false)], args := [d1, d2] }
  | _ => none }
def ScanPartsWrongFalsely : Prop := scanPartsRow.holds Try.pinned (OpenSpec.ofChange scanPartsWrong)

/-- 'cryostatlaw14.ScanRange': WHATEVER THE INPUT: true; the input reads as it did. -/
def scanRangeSpec : ChangeSpec := { name := "scanRange", fn := fun _ => fun
  | [d1, d2, d3] => { results := [.lit (.bool true)], args := [d1, d2, d3] }
  | _ => none }
def scanRangeRow : OpenClaim := { program := "ytmjnenpllddhfaa", sum := "957e52501bf6d16b9e0a98237cb3fc5ac3dfce02ceb3b75d03a5e93ea28e4599", func := "cryostat/cryostatlaw14.ScanRange", spec := "scanRange", unfollowed := true, recurses := true, apart := false }
def ScanRangeSaid : Prop := scanRangeRow.holds Try.pinned (OpenSpec.ofChange scanRangeSpec)

/-- ITS FALSE NEIGHBOUR: 'it returns false'. Refute it at one input. -/
def scanRangeWrong : ChangeSpec := { name := "scanRange", fn := fun _ => fun
  | [d1, d2, d3] => { results := [.lit (.bool false)], args := [d1, d2, d3] }
  | _ => none }
def ScanRangeWrongFalsely : Prop := scanRangeRow.holds Try.pinned (OpenSpec.ofChange scanRangeWrong)

/-- 'cryostatlaw11.Finds': WHATEVER THE INPUT: true; the input reads as it did. -/
def findsSpec : ChangeSpec := { name := "finds", fn := fun _ => fun
  | [d1, d2] => { results := [.lit (.bool true)], args := [d1, d2] }
  | _ => none }
def findsRow : OpenClaim := { program := "ytmjnenpllddhfaa", sum := "957e52501bf6d16b9e0a98237cb3fc5ac3dfce02ceb3b75d03a5e93ea28e4599", func := "cryostat/cryostatlaw11.Finds", spec := "finds", unfollowed := true, recurses := true, apart := false }
def FindsSaid : Prop := findsRow.holds Try.pinned (OpenSpec.ofChange findsSpec)

/-- ITS FALSE NEIGHBOUR: 'it returns false'. Refute it at one input. -/
def findsWrong : ChangeSpec := { name := "finds", fn := fun _ => fun
  | [d1, d2] => { results := [.lit (.bool false)], args := [d1, d2] }
  | _ => none }
def FindsWrongFalsely : Prop := findsRow.holds Try.pinned (OpenSpec.ofChange findsWrong)

/-- 'cryostatlaw11.FindAll': WHATEVER THE INPUT: true; the input reads as it did. -/
def findAllSpec : ChangeSpec := { name := "findAll", fn := fun _ => fun
  | [d1, d2] => { results := [.lit (.bool true)], args := [d1, d2] }
  | _ => none }
def findAllRow : OpenClaim := { program := "ytmjnenpllddhfaa", sum := "957e52501bf6d16b9e0a98237cb3fc5ac3dfce02ceb3b75d03a5e93ea28e4599", func := "cryostat/cryostatlaw11.FindAll", spec := "findAll", unfollowed := true, recurses := true, apart := false }
def FindAllSaid : Prop := findAllRow.holds Try.pinned (OpenSpec.ofChange findAllSpec)

/-- ITS FALSE NEIGHBOUR: 'it returns false'. Refute it at one input. -/
def findAllWrong : ChangeSpec := { name := "findAll", fn := fun _ => fun
  | [d1, d2] => { results := [.lit (.bool false)], args := [d1, d2] }
  | _ => none }
def FindAllWrongFalsely : Prop := findAllRow.holds Try.pinned (OpenSpec.ofChange findAllWrong)

/-- 'cryostatlaw11.FindRow': WHATEVER THE INPUT: true; the input reads as it did. -/
def findRowSpec : ChangeSpec := { name := "findRow", fn := fun _ => fun
  | [d1, d2] => { results := [.lit (.bool true)], args := [d1, d2] }
  | _ => none }
def findRowRow : OpenClaim := { program := "ytmjnenpllddhfaa", sum := "957e52501bf6d16b9e0a98237cb3fc5ac3dfce02ceb3b75d03a5e93ea28e4599", func := "cryostat/cryostatlaw11.FindRow", spec := "findRow", unfollowed := true, recurses := true, apart := false }
def FindRowSaid : Prop := findRowRow.holds Try.pinned (OpenSpec.ofChange findRowSpec)

/-- ITS FALSE NEIGHBOUR: 'it returns false'. Refute it at one input. -/
def findRowWrong : ChangeSpec := { name := "findRow", fn := fun _ => fun
  | [d1, d2] => { results := [.lit (.bool false)], args := [d1, d2] }
  | _ => none }
def FindRowWrongFalsely : Prop := findRowRow.holds Try.pinned (OpenSpec.ofChange findRowWrong)

/- THE SECOND FORM. 'bulk': how many values and letters a reading holds, each counted each time it is reached (what is shared counts as often as it is met; a slice's spare places count too). A statement '..UptoSaid' is the law's where the arguments, and the package variables that the reading takes, are together of bulk at most 1048576: NARROWER than '..Said'. Prove '..Said' where nothing that the law and all that it calls make is longer than what came in: it says more and counts as full. Else prove '..UptoSaid'. A law counts once. -/
mutual
def uptoBulk {H : Type} : DataW H → Nat
  | .lit (.string bytes) => bytes.length + 1
  | .lit _ => 1
  | .nil => 1
  | .ptr d => uptoBulk d + 1
  | .slice elems spare => uptoBulkAll elems + uptoBulkAll spare + 1
  | .agg parts => uptoBulkAll parts + 1
  | .iface _ d => uptoBulk d + 1
  | .map entries => uptoBulkEntries entries + 1
  | .held _ => 1
def uptoBulkAll {H : Type} : List (DataW H) → Nat
  | [] => 0
  | d :: r => uptoBulk d + uptoBulkAll r
def uptoBulkEntries {H : Type} : List (Lit × DataW H) → Nat
  | [] => 0
  | x :: r => uptoBulkEntry x + uptoBulkEntries r
def uptoBulkEntry {H : Type} : Lit × DataW H → Nat
  | (.string bytes, d) => bytes.length + uptoBulk d + 1
  | (_, d) => uptoBulk d + 1
 end
def uptoSmall : (H : Type) → List (DataW H) → Bool := fun _ ds => decide (uptoBulkAll ds ≤ 1048576)
def OpenSpec.upto (s : _root_.Go.ChangeSpec) : _root_.Go.OpenSpec := { _root_.Go.OpenSpec.ofChange s with cond := some uptoSmall }

/-- 'cryostatlaw10.Sounds', WHERE WHAT IT READS IS OF BULK AT MOST 1048576: true; the input reads as it did. -/
def soundsUptoRow : OpenClaim := { program := "ytmjnenpllddhfaa", sum := "957e52501bf6d16b9e0a98237cb3fc5ac3dfce02ceb3b75d03a5e93ea28e4599", func := "cryostat/cryostatlaw10.Sounds", spec := "sounds", unfollowed := true, recurses := true, apart := false, narrowed := true }
def SoundsUptoSaid : Prop := soundsUptoRow.holds Try.pinned (OpenSpec.upto soundsSpec)

/-- 'cryostatlaw10.SoundTurned', WHERE WHAT IT READS IS OF BULK AT MOST 1048576: true; the input reads as it did. -/
def soundTurnedUptoRow : OpenClaim := { program := "ytmjnenpllddhfaa", sum := "957e52501bf6d16b9e0a98237cb3fc5ac3dfce02ceb3b75d03a5e93ea28e4599", func := "cryostat/cryostatlaw10.SoundTurned", spec := "soundTurned", unfollowed := true, recurses := true, apart := false, narrowed := true }
def SoundTurnedUptoSaid : Prop := soundTurnedUptoRow.holds Try.pinned (OpenSpec.upto soundTurnedSpec)

/-- 'cryostatlaw10.SoundForms', WHERE WHAT IT READS IS OF BULK AT MOST 1048576: true; the input reads as it did. -/
def soundFormsUptoRow : OpenClaim := { program := "ytmjnenpllddhfaa", sum := "957e52501bf6d16b9e0a98237cb3fc5ac3dfce02ceb3b75d03a5e93ea28e4599", func := "cryostat/cryostatlaw10.SoundForms", spec := "soundForms", unfollowed := true, recurses := true, apart := false, narrowed := true }
def SoundFormsUptoSaid : Prop := soundFormsUptoRow.holds Try.pinned (OpenSpec.upto soundFormsSpec)

/-- 'cryostatlaw10.SoundFull', WHERE WHAT IT READS IS OF BULK AT MOST 1048576: true; the input reads as it did. -/
def soundFullUptoRow : OpenClaim := { program := "ytmjnenpllddhfaa", sum := "957e52501bf6d16b9e0a98237cb3fc5ac3dfce02ceb3b75d03a5e93ea28e4599", func := "cryostat/cryostatlaw10.SoundFull", spec := "soundFull", unfollowed := true, recurses := true, apart := false, narrowed := true }
def SoundFullUptoSaid : Prop := soundFullUptoRow.holds Try.pinned (OpenSpec.upto soundFullSpec)

/-- 'cryostatlaw10.SoundPages', WHERE WHAT IT READS IS OF BULK AT MOST 1048576: true; the input reads as it did. -/
def soundPagesUptoRow : OpenClaim := { program := "ytmjnenpllddhfaa", sum := "957e52501bf6d16b9e0a98237cb3fc5ac3dfce02ceb3b75d03a5e93ea28e4599", func := "cryostat/cryostatlaw10.SoundPages", spec := "soundPages", unfollowed := true, recurses := true, apart := false, narrowed := true }
def SoundPagesUptoSaid : Prop := soundPagesUptoRow.holds Try.pinned (OpenSpec.upto soundPagesSpec)

/-- 'cryostatlaw14.Scans', WHERE WHAT IT READS IS OF BULK AT MOST 1048576: true; the input reads as it did. -/
def scansUptoRow : OpenClaim := { program := "ytmjnenpllddhfaa", sum := "957e52501bf6d16b9e0a98237cb3fc5ac3dfce02ceb3b75d03a5e93ea28e4599", func := "cryostat/cryostatlaw14.Scans", spec := "scans", unfollowed := true, recurses := true, apart := false, narrowed := true }
def ScansUptoSaid : Prop := scansUptoRow.holds Try.pinned (OpenSpec.upto scansSpec)

/-- 'cryostatlaw14.ScanParts', WHERE WHAT IT READS IS OF BULK AT MOST 1048576: true; the input reads as it did. -/
def scanPartsUptoRow : OpenClaim := { program := "ytmjnenpllddhfaa", sum := "957e52501bf6d16b9e0a98237cb3fc5ac3dfce02ceb3b75d03a5e93ea28e4599", func := "cryostat/cryostatlaw14.ScanParts", spec := "scanParts", unfollowed := true, recurses := true, apart := false, narrowed := true }
def ScanPartsUptoSaid : Prop := scanPartsUptoRow.holds Try.pinned (OpenSpec.upto scanPartsSpec)

/-- 'cryostatlaw14.ScanRange', WHERE WHAT IT READS IS OF BULK AT MOST 1048576: true; the input reads as it did. -/
def scanRangeUptoRow : OpenClaim := { program := "ytmjnenpllddhfaa", sum := "957e52501bf6d16b9e0a98237cb3fc5ac3dfce02ceb3b75d03a5e93ea28e4599", func := "cryostat/cryostatlaw14.ScanRange", spec := "scanRange", unfollowed := true, recurses := true, apart := false, narrowed := true }
def ScanRangeUptoSaid : Prop := scanRangeUptoRow.holds Try.pinned (OpenSpec.upto scanRangeSpec)

/-- 'cryostatlaw11.Finds', WHERE WHAT IT READS IS OF BULK AT MOST 1048576: true; the input reads as it did. -/
def findsUptoRow : OpenClaim := { program := "ytmjnenpllddhfaa", sum := "957e52501bf6d16b9e0a98237cb3fc5ac3dfce02ceb3b75d03a5e93ea28e4599", func := "cryostat/cryostatlaw11.Finds", spec := "finds", unfollowed := true, recurses := true, apart := false, narrowed := true }
def FindsUptoSaid : Prop := findsUptoRow.holds Try.pinned (OpenSpec.upto findsSpec)

/-- 'cryostatlaw11.FindAll', WHERE WHAT IT READS IS OF BULK AT MOST 1048576: true; the input reads as it did. -/
def findAllUptoRow : OpenClaim := { program := "ytmjnenpllddhfaa", sum := "957e52501bf6d16b9e0a98237cb3fc5ac3dfce02ceb3b75d03a5e93ea28e4599", func := "cryostat/cryostatlaw11.FindAll", spec := "findAll", unfollowed := true, recurses := true, apart := false, narrowed := true }
def FindAllUptoSaid : Prop := findAllUptoRow.holds Try.pinned (OpenSpec.upto findAllSpec)

/-- 'cryostatlaw11.FindRow', WHERE WHAT IT READS IS OF BULK AT MOST 1048576: true; the input reads as it did. -/
def findRowUptoRow : OpenClaim := { program := "ytmjnenpllddhfaa", sum := "957e52501bf6d16b9e0a98237cb3fc5ac3dfce02ceb3b75d03a5e93ea28e4599", func := "cryostat/cryostatlaw11.FindRow", spec := "findRow", unfollowed := true, recurses := true, apart := false, narrowed := true }
def FindRowUptoSaid : Prop := findRowUptoRow.holds Try.pinned (OpenSpec.upto findRowSpec)

end Rows
end Go.Proofs.Ytmjnenpllddhfaa
