/-
  No cell of these rows narrows 'for every input' (looked for: loops, veiled, ifaces, maps, wideKeys, modest, calm, conditions, laid).
  DERIVED. THE GIVEN ROWS OF THIS SEAT. 5 by the template 'for every input the law returns true; each argument reads behind the call as it read before'; 0 by the template 'total and deterministic' (their statements: YtdfongaafdnljaaGreatTotals.lean).
  GIVEN WITH THE SEED: the statements are not yours to turn. If you find one false, say at which input.
  Laid BY PROGRAM, IN A SANDBOX (cutbox-rows.mjs): the forced cells as the released guide's own fill.sh prints them over the translation 02e8e2e5c2eb7bd0… (all of the seat's roots in one cut). By AI agents, Wed Nov 11 2026. No macro, syntax, notation, axiom, sorry.
-/
import Derived.Test.YtdfongaafdnljaaGreatChecked
import GoSem.Claim
import GoSem.ClaimJoined
import GoSem.ClaimMapViews
import Derived.JoinedTies
import Derived.KernelRfl
namespace Go.Proofs.YtdfongaafdnljaaGreat
/- THE CELL 'sum', in the pinned program and in every row, IS THE sha256 OF THE DUMP (.gsa) THAT YtdfongaafdnljaaGreatProg.lean LOADS. Nothing in Lean hashes anything: it is a label: what it is worth is what the hold of that sum in a sandbox is worth. -/
noncomputable def Tryz.pinned : Pinned := { name := "ytdfongaafdnljaagreat", sum := "02e8e2e5c2eb7bd09aad6cacc99cb7b33b4132886d27d6ecba8baa5fba3037d6", checked := Tryz.checked }
namespace Rows
def none {H : Type} : Left H := { results := [], args := [] }

/-- 'cryostatlaw22.Cleans': WHATEVER THE INPUT: true; the input reads as it did. -/
def cleansSpec : ChangeSpec := { name := "cleans", fn := fun _ => fun
  | [d] => { results := [.lit (.bool true)], args := [d] }
  | _ => none }
def cleansRow : OpenClaim := { program := "ytdfongaafdnljaagreat", sum := "02e8e2e5c2eb7bd09aad6cacc99cb7b33b4132886d27d6ecba8baa5fba3037d6", func := "cryostat/cryostatlaw22.Cleans", spec := "cleans", inPlace := ["internal/bytealg.abigen_runtime_cmpstring", "slices.overlaps[cryostat/api.File]", "slices.overlaps[string]", "slices.overlaps[int]"], unfollowed := true, recurses := true, plainKeys := false, apart := false }
def CleansSaid : Prop := cleansRow.holds Tryz.pinned (OpenSpec.ofChange cleansSpec)

/-- ITS FALSE NEIGHBOUR: 'it returns false'. Refute it at one input. -/
def cleansWrong : ChangeSpec := { name := "cleans", fn := fun _ => fun
  | [d] => { results := [.lit (.bool false)], args := [d] }
  | _ => none }
def CleansWrongFalsely : Prop := cleansRow.holds Tryz.pinned (OpenSpec.ofChange cleansWrong)

/-- 'cryostatlaw22.CleanNone': WHATEVER THE INPUT: true; the input reads as it did. -/
def cleanNoneSpec : ChangeSpec := { name := "cleanNone", fn := fun _ => fun
  | [d] => { results := [.lit (.bool true)], args := [d] }
  | _ => none }
def cleanNoneRow : OpenClaim := { program := "ytdfongaafdnljaagreat", sum := "02e8e2e5c2eb7bd09aad6cacc99cb7b33b4132886d27d6ecba8baa5fba3037d6", func := "cryostat/cryostatlaw22.CleanNone", spec := "cleanNone", inPlace := ["internal/bytealg.abigen_runtime_cmpstring", "slices.overlaps[cryostat/api.File]", "slices.overlaps[string]", "slices.overlaps[int]"], unfollowed := true, recurses := true, plainKeys := false, apart := false }
def CleanNoneSaid : Prop := cleanNoneRow.holds Tryz.pinned (OpenSpec.ofChange cleanNoneSpec)

/-- ITS FALSE NEIGHBOUR: 'it returns false'. Refute it at one input. -/
def cleanNoneWrong : ChangeSpec := { name := "cleanNone", fn := fun _ => fun
  | [d] => { results := [.lit (.bool false)], args := [d] }
  | _ => none }
def CleanNoneWrongFalsely : Prop := cleanNoneRow.holds Tryz.pinned (OpenSpec.ofChange cleanNoneWrong)

/-- 'cryostatlaw22.CleanTwice': WHATEVER THE INPUT: true; the input reads as it did. -/
def cleanTwiceSpec : ChangeSpec := { name := "cleanTwice", fn := fun _ => fun
  | [d] => { results := [.lit (.bool true)], args := [d] }
  | _ => none }
def cleanTwiceRow : OpenClaim := { program := "ytdfongaafdnljaagreat", sum := "02e8e2e5c2eb7bd09aad6cacc99cb7b33b4132886d27d6ecba8baa5fba3037d6", func := "cryostat/cryostatlaw22.CleanTwice", spec := "cleanTwice", inPlace := ["internal/bytealg.abigen_runtime_cmpstring", "slices.overlaps[cryostat/api.File]", "slices.overlaps[string]", "slices.overlaps[int]"], unfollowed := true, recurses := true, plainKeys := false, apart := false }
def CleanTwiceSaid : Prop := cleanTwiceRow.holds Tryz.pinned (OpenSpec.ofChange cleanTwiceSpec)

/-- ITS FALSE NEIGHBOUR: 'it returns false'. Refute it at one input. -/
def cleanTwiceWrong : ChangeSpec := { name := "cleanTwice", fn := fun _ => fun
  | [d] => { results := [.lit (.bool false)], args := [d] }
  | _ => none }
def CleanTwiceWrongFalsely : Prop := cleanTwiceRow.holds Tryz.pinned (OpenSpec.ofChange cleanTwiceWrong)

/-- 'cryostatlaw22.CleanLess': WHATEVER THE INPUT: true; the input reads as it did. -/
def cleanLessSpec : ChangeSpec := { name := "cleanLess", fn := fun _ => fun
  | [d] => { results := [.lit (.bool true)], args := [d] }
  | _ => none }
def cleanLessRow : OpenClaim := { program := "ytdfongaafdnljaagreat", sum := "02e8e2e5c2eb7bd09aad6cacc99cb7b33b4132886d27d6ecba8baa5fba3037d6", func := "cryostat/cryostatlaw22.CleanLess", spec := "cleanLess", inPlace := ["internal/bytealg.abigen_runtime_cmpstring", "slices.overlaps[cryostat/api.File]", "slices.overlaps[string]", "slices.overlaps[int]"], unfollowed := true, recurses := true, plainKeys := false, apart := false }
def CleanLessSaid : Prop := cleanLessRow.holds Tryz.pinned (OpenSpec.ofChange cleanLessSpec)

/-- ITS FALSE NEIGHBOUR: 'it returns false'. Refute it at one input. -/
def cleanLessWrong : ChangeSpec := { name := "cleanLess", fn := fun _ => fun
  | [d] => { results := [.lit (.bool false)], args := [d] }
  | _ => none }
def CleanLessWrongFalsely : Prop := cleanLessRow.holds Tryz.pinned (OpenSpec.ofChange cleanLessWrong)

/-- 'cryostatlaw22.CleanAfter': WHATEVER THE INPUT: true; the input reads as it did. -/
def cleanAfterSpec : ChangeSpec := { name := "cleanAfter", fn := fun _ => fun
  | [d1, d2, d3, d4] => { results := [.lit (.bool true)], args := [d1, d2, d3, d4] }
  | _ => none }
def cleanAfterRow : OpenClaim := { program := "ytdfongaafdnljaagreat", sum := "02e8e2e5c2eb7bd09aad6cacc99cb7b33b4132886d27d6ecba8baa5fba3037d6", func := "cryostat/cryostatlaw22.CleanAfter", spec := "cleanAfter", inPlace := ["internal/bytealg.abigen_runtime_cmpstring", "slices.overlaps[cryostat/api.File]", "slices.overlaps[string]", "slices.overlaps[int]"], unfollowed := true, recurses := true, plainKeys := false, apart := false }
def CleanAfterSaid : Prop := cleanAfterRow.holds Tryz.pinned (OpenSpec.ofChange cleanAfterSpec)

/-- ITS FALSE NEIGHBOUR: 'it returns false'. Refute it at one input. -/
def cleanAfterWrong : ChangeSpec := { name := "cleanAfter", fn := fun _ => fun
  | [d1, d2, d3, d4] => { results := [.lit (.bool false)], args := [d1, d2, d3, d4] }
  | _ => none }
def CleanAfterWrongFalsely : Prop := cleanAfterRow.holds Tryz.pinned (OpenSpec.ofChange cleanAfterWrong)

/- THE SECOND FORM. 'bulk': how many values and letters a reading holds, each counted each time it is reached (what is shared counts as often as it is met; a slice's spare places count too). A statement '..UptoSaid' is the law's where the arguments, and the package variables that the reading takes, are together of bulk at most 1048576: NARROWER than '..Said'. Prove '..Said' where nothing that the law and all that it calls make is longer than what came in: it says more and counts as full. Else prove '..UptoSaid'. A law counts once. -/
mutual
def uptoBulk {H : Type} : DataW H → Nat
  | .lit (.string bytes) => bytes.length + 1
  | .lit _ => 1
  | .nil => 1
  | .ptr d => uptoBulk d + 1
  | .slice elems spare => uptoBulkAll elems + uptoBulkAll spare + 1
  | .agg parts => uptoBulkAll parts + 1
  | .iface _ d => uptoBulk d + 1
  | .map entries => uptoBulkEntries entries + 1
  | .held _ => 1
def uptoBulkAll {H : Type} : List (DataW H) → Nat
  | [] => 0
  | d :: r => uptoBulk d + uptoBulkAll r
def uptoBulkEntries {H : Type} : List (Lit × DataW H) → Nat
  | [] => 0
  | x :: r => uptoBulkEntry x + uptoBulkEntries r
def uptoBulkEntry {H : Type} : Lit × DataW H → Nat
  | (.string bytes, d) => bytes.length + uptoBulk d + 1
  | (_, d) => uptoBulk d + 1
 end
def uptoSmall : (H : Type) → List (DataW H) → Bool := fun _ ds => decide (uptoBulkAll ds ≤ 1048576)
def OpenSpec.upto (s : _root_.Go.ChangeSpec) : _root_.Go.OpenSpec := { _root_.Go.OpenSpec.ofChange s with cond := some uptoSmall }

/-- 'cryostatlaw22.Cleans', WHERE WHAT IT READS IS OF BULK AT MOST 1048576: true; the input reads as it did. -/
def cleansUptoRow : OpenClaim := { program := "ytdfongaafdnljaagreat", sum := "02e8e2e5c2eb7bd09aad6cacc99cb7b33b4132886d27d6ecba8baa5fba3037d6", func := "cryostat/cryostatlaw22.Cleans", spec := "cleans", inPlace := ["internal/bytealg.abigen_runtime_cmpstring", "slices.overlaps[cryostat/api.File]", "slices.overlaps[string]", "slices.overlaps[int]"], unfollowed := true, recurses := true, plainKeys := false, apart := false, narrowed := true }
def CleansUptoSaid : Prop := cleansUptoRow.holds Tryz.pinned (OpenSpec.upto cleansSpec)

/-- 'cryostatlaw22.CleanNone', WHERE WHAT IT READS IS OF BULK AT MOST 1048576: true; the input reads as it did. -/
def cleanNoneUptoRow : OpenClaim := { program := "ytdfongaafdnljaagreat", sum := "02e8e2e5c2eb7bd09aad6cacc99cb7b33b4132886d27d6ecba8baa5fba3037d6", func := "cryostat/cryostatlaw22.CleanNone", spec := "cleanNone", inPlace := ["internal/bytealg.abigen_runtime_cmpstring", "slices.overlaps[cryostat/api.File]", "slices.overlaps[string]", "slices.overlaps[int]"], unfollowed := true, recurses := true, plainKeys := false, apart := false, narrowed := true }
def CleanNoneUptoSaid : Prop := cleanNoneUptoRow.holds Tryz.pinned (OpenSpec.upto cleanNoneSpec)

/-- 'cryostatlaw22.CleanTwice', WHERE WHAT IT READS IS OF BULK AT MOST 1048576: true; the input reads as it did. -/
def cleanTwiceUptoRow : OpenClaim := { program := "ytdfongaafdnljaagreat", sum := "02e8e2e5c2eb7bd09aad6cacc99cb7b33b4132886d27d6ecba8baa5fba3037d6", func := "cryostat/cryostatlaw22.CleanTwice", spec := "cleanTwice", inPlace := ["internal/bytealg.abigen_runtime_cmpstring", "slices.overlaps[cryostat/api.File]", "slices.overlaps[string]", "slices.overlaps[int]"], unfollowed := true, recurses := true, plainKeys := false, apart := false, narrowed := true }
def CleanTwiceUptoSaid : Prop := cleanTwiceUptoRow.holds Tryz.pinned (OpenSpec.upto cleanTwiceSpec)

/-- 'cryostatlaw22.CleanLess', WHERE WHAT IT READS IS OF BULK AT MOST 1048576: true; the input reads as it did. -/
def cleanLessUptoRow : OpenClaim := { program := "ytdfongaafdnljaagreat", sum := "02e8e2e5c2eb7bd09aad6cacc99cb7b33b4132886d27d6ecba8baa5fba3037d6", func := "cryostat/cryostatlaw22.CleanLess", spec := "cleanLess", inPlace := ["internal/bytealg.abigen_runtime_cmpstring", "slices.overlaps[cryostat/api.File]", "slices.overlaps[string]", "slices.overlaps[int]"], unfollowed := true, recurses := true, plainKeys := false, apart := false, narrowed := true }
def CleanLessUptoSaid : Prop := cleanLessUptoRow.holds Tryz.pinned (OpenSpec.upto cleanLessSpec)

/-- 'cryostatlaw22.CleanAfter', WHERE WHAT IT READS IS OF BULK AT MOST 1048576: true; the input reads as it did. -/
def cleanAfterUptoRow : OpenClaim := { program := "ytdfongaafdnljaagreat", sum := "02e8e2e5c2eb7bd09aad6cacc99cb7b33b4132886d27d6ecba8baa5fba3037d6", func := "cryostat/cryostatlaw22.CleanAfter", spec := "cleanAfter", inPlace := ["internal/bytealg.abigen_runtime_cmpstring", "slices.overlaps[cryostat/api.File]", "slices.overlaps[string]", "slices.overlaps[int]"], unfollowed := true, recurses := true, plainKeys := false, apart := false, narrowed := true }
def CleanAfterUptoSaid : Prop := cleanAfterUptoRow.holds Tryz.pinned (OpenSpec.upto cleanAfterSpec)

end Rows
end Go.Proofs.YtdfongaafdnljaaGreat
