/-
  No cell of these rows narrows 'for every input' (looked for: loops, veiled, ifaces, maps, wideKeys, modest, calm, conditions, laid).
  DERIVED. THE GIVEN ROWS OF THIS SEAT. 4 by the template 'for every input the law returns true; each argument reads behind the call as it read before'; 0 by the template 'total and deterministic' (their statements: YtddbjihiflcbbaaGreatTotals.lean).
  GIVEN WITH THE SEED: the statements are not yours to turn. If you find one false, say at which input.
  Laid BY PROGRAM, IN A SANDBOX (cutbox-rows.mjs): the forced cells as the released guide's own fill.sh prints them over the translation 3764161193f82f98… (all of the seat's roots in one cut). By AI agents, Wed Nov 11 2026. No macro, syntax, notation, axiom, sorry.
-/
import Derived.Test.YtddbjihiflcbbaaGreatChecked
import GoSem.Claim
import GoSem.ClaimJoined
import GoSem.ClaimMapViews
import Derived.JoinedTies
import Derived.KernelRfl
namespace Go.Proofs.YtddbjihiflcbbaaGreat
/- THE CELL 'sum', in the pinned program and in every row, IS THE sha256 OF THE DUMP (.gsa) THAT YtddbjihiflcbbaaGreatProg.lean LOADS. Nothing in Lean hashes anything: it is a label: what it is worth is what the hold of that sum in a sandbox is worth. -/
noncomputable def Tryz.pinned : Pinned := { name := "ytddbjihiflcbbaagreat", sum := "3764161193f82f98dae8a4d9ac00d470fc57282d6f17d157562eb34d868ef33b", checked := Tryz.checked }
namespace Rows
def none {H : Type} : Left H := { results := [], args := [] }

/-- 'cryostatlaw23.Usages': WHATEVER THE INPUT: true; the input reads as it did. -/
def usagesSpec : ChangeSpec := { name := "usages", fn := fun _ => fun
  | [d1, d2] => { results := [.lit (.bool true)], args := [d1, d2] }
  | _ => none }
def usagesRow : OpenClaim := { program := "ytddbjihiflcbbaagreat", sum := "3764161193f82f98dae8a4d9ac00d470fc57282d6f17d157562eb34d868ef33b", func := "cryostat/cryostatlaw23.Usages", spec := "usages", inPlace := ["internal/bytealg.abigen_runtime_cmpstring", "slices.overlaps[cryostat/api.File]"], unfollowed := true, recurses := true, plainKeys := false, apart := false }
def UsagesSaid : Prop := usagesRow.holds Tryz.pinned (OpenSpec.ofChange usagesSpec)

/-- ITS FALSE NEIGHBOUR: 'it returns false'. Refute it at one input. -/
def usagesWrong : ChangeSpec := { name := "usages", fn := fun _ => fun
  | [d1, d2] => { results := [.lit (.bool false)], args := [d1, d2] }
  | _ => none }
def UsagesWrongFalsely : Prop := usagesRow.holds Tryz.pinned (OpenSpec.ofChange usagesWrong)

/-- 'cryostatlaw23.UsageWrites': WHATEVER THE INPUT: true; the input reads as it did. -/
def usageWritesSpec : ChangeSpec := { name := "usageWrites", fn := fun _ => fun
  | [d1, d2, d3, d4] => { results := [.lit (.bool true)], args := [d1, d2, d3, d4] }
  | _ => none }
def usageWritesRow : OpenClaim := { program := "ytddbjihiflcbbaagreat", sum := "3764161193f82f98dae8a4d9ac00d470fc57282d6f17d157562eb34d868ef33b", func := "cryostat/cryostatlaw23.UsageWrites", spec := "usageWrites", inPlace := ["internal/bytealg.abigen_runtime_cmpstring", "slices.overlaps[cryostat/api.File]"], unfollowed := true, recurses := true, plainKeys := false, apart := false }
def UsageWritesSaid : Prop := usageWritesRow.holds Tryz.pinned (OpenSpec.ofChange usageWritesSpec)

/-- ITS FALSE NEIGHBOUR: 'it returns false'. Refute it at one input. -/
def usageWritesWrong : ChangeSpec := { name := "usageWrites", fn := fun _ => fun
  | [d1, d2, d3, d4] => { results := [.lit (.bool false)], args := [d1, d2, d3, d4] }
  | _ => none }
def UsageWritesWrongFalsely : Prop := usageWritesRow.holds Tryz.pinned (OpenSpec.ofChange usageWritesWrong)

/-- 'cryostatlaw23.UsageChild': WHATEVER THE INPUT: true; the input reads as it did. -/
def usageChildSpec : ChangeSpec := { name := "usageChild", fn := fun _ => fun
  | [d1, d2, d3] => { results := [.lit (.bool true)], args := [d1, d2, d3] }
  | _ => none }
def usageChildRow : OpenClaim := { program := "ytddbjihiflcbbaagreat", sum := "3764161193f82f98dae8a4d9ac00d470fc57282d6f17d157562eb34d868ef33b", func := "cryostat/cryostatlaw23.UsageChild", spec := "usageChild", inPlace := ["internal/bytealg.abigen_runtime_cmpstring", "slices.overlaps[cryostat/api.File]"], unfollowed := true, recurses := true, plainKeys := false, apart := false }
def UsageChildSaid : Prop := usageChildRow.holds Tryz.pinned (OpenSpec.ofChange usageChildSpec)

/-- ITS FALSE NEIGHBOUR: 'it returns false'. Refute it at one input. -/
def usageChildWrong : ChangeSpec := { name := "usageChild", fn := fun _ => fun
  | [d1, d2, d3] => { results := [.lit (.bool false)], args := [d1, d2, d3] }
  | _ => none }
def UsageChildWrongFalsely : Prop := usageChildRow.holds Tryz.pinned (OpenSpec.ofChange usageChildWrong)

/-- 'cryostatlaw23.UsageAll': WHATEVER THE INPUT: true; the input reads as it did. -/
def usageAllSpec : ChangeSpec := { name := "usageAll", fn := fun _ => fun
  | [d] => { results := [.lit (.bool true)], args := [d] }
  | _ => none }
def usageAllRow : OpenClaim := { program := "ytddbjihiflcbbaagreat", sum := "3764161193f82f98dae8a4d9ac00d470fc57282d6f17d157562eb34d868ef33b", func := "cryostat/cryostatlaw23.UsageAll", spec := "usageAll", inPlace := ["internal/bytealg.abigen_runtime_cmpstring", "slices.overlaps[cryostat/api.File]"], unfollowed := true, recurses := true, plainKeys := false, apart := false }
def UsageAllSaid : Prop := usageAllRow.holds Tryz.pinned (OpenSpec.ofChange usageAllSpec)

/-- ITS FALSE NEIGHBOUR: 'it returns false'. Refute it at one input. -/
def usageAllWrong : ChangeSpec := { name := "usageAll", fn := fun _ => fun
  | [d] => { results := [.lit (.bool false)], args := [d] }
  | _ => none }
def UsageAllWrongFalsely : Prop := usageAllRow.holds Tryz.pinned (OpenSpec.ofChange usageAllWrong)

/- THE SECOND FORM. 'bulk': how many values and letters a reading holds, each counted each time it is reached (what is shared counts as often as it is met; a slice's spare places count too). A statement '..UptoSaid' is the law's where the arguments, and the package variables that the reading takes, are together of bulk at most 1048576: NARROWER than '..Said'. Prove '..Said' where nothing that the law and all that it calls make is longer than what came in: it says more and counts as full. Else prove '..UptoSaid'. A law counts once. -/
mutual
def uptoBulk {H : Type} : DataW H → Nat
  | .lit (.string bytes) => bytes.length + 1
  | .lit _ => 1
  | .nil => 1
  | .ptr d => uptoBulk d + 1
  | .slice elems spare => uptoBulkAll elems + uptoBulkAll spare + 1
  | .agg parts => uptoBulkAll parts + 1
  | .iface _ d => uptoBulk d + 1
  | .map entries => uptoBulkEntries entries + 1
  | .held _ => 1
def uptoBulkAll {H : Type} : List (DataW H) → Nat
  | [] => 0
  | d :: r => uptoBulk d + uptoBulkAll r
def uptoBulkEntries {H : Type} : List (Lit × DataW H) → Nat
  | [] => 0
  | x :: r => uptoBulkEntry x + uptoBulkEntries r
def uptoBulkEntry {H : Type} : Lit × DataW H → Nat
  | (.string bytes, d) => bytes.length + uptoBulk d + 1
  | (_, d) => uptoBulk d + 1
 end
def uptoSmall : (H : Type) → List (DataW H) → Bool := fun _ ds => decide (uptoBulkAll ds ≤ 1048576)
def OpenSpec.upto (s : _root_.Go.ChangeSpec) : _root_.Go.OpenSpec := { _root_.Go.OpenSpec.ofChange s with cond := some uptoSmall }

/-- 'cryostatlaw23.Usages', WHERE WHAT IT READS IS OF BULK AT MOST 1048576: true; the input reads as it did. -/
def usagesUptoRow : OpenClaim := { program := "ytddbjihiflcbbaagreat", sum := "3764161193f82f98dae8a4d9ac00d470fc57282d6f17d157562eb34d868ef33b", func := "cryostat/cryostatlaw23.Usages", spec := "usages", inPlace := ["internal/bytealg.abigen_runtime_cmpstring", "slices.overlaps[cryostat/api.File]"], unfollowed := true, recurses := true, plainKeys := false, apart := false, narrowed := true }
def UsagesUptoSaid : Prop := usagesUptoRow.holds Tryz.pinned (OpenSpec.upto usagesSpec)

/-- 'cryostatlaw23.UsageWrites', WHERE WHAT IT READS IS OF BULK AT MOST 1048576: true; the input reads as it did. -/
def usageWritesUptoRow : OpenClaim := { program := "ytddbjihiflcbbaagreat", sum := "3764161193f82f98dae8a4d9ac00d470fc57282d6f17d157562eb34d868ef33b", func := "cryostat/cryostatlaw23.UsageWrites", spec := "usageWrites", inPlace := ["internal/bytealg.abigen_runtime_cmpstring", "slices.overlaps[cryostat/api.File]"], unfollowed := true, recurses := true, plainKeys := false, apart := false, narrowed := true }
def UsageWritesUptoSaid : Prop := usageWritesUptoRow.holds Tryz.pinned (OpenSpec.upto usageWritesSpec)

/-- 'cryostatlaw23.UsageChild', WHERE WHAT IT READS IS OF BULK AT MOST 1048576: true; the input reads as it did. -/
def usageChildUptoRow : OpenClaim := { program := "ytddbjihiflcbbaagreat", sum := "3764161193f82f98dae8a4d9ac00d470fc57282d6f17d157562eb34d868ef33b", func := "cryostat/cryostatlaw23.UsageChild", spec := "usageChild", inPlace := ["internal/bytealg.abigen_runtime_cmpstring", "slices.overlaps[cryostat/api.File]"], unfollowed := true, recurses := true, plainKeys := false, apart := false, narrowed := true }
def UsageChildUptoSaid : Prop := usageChildUptoRow.holds Tryz.pinned (OpenSpec.upto usageChildSpec)

/-- 'cryostatlaw23.UsageAll', WHERE WHAT IT READS IS OF BULK AT MOST 1048576: true; the input reads as it did. -/
def usageAllUptoRow : OpenClaim := { program := "ytddbjihiflcbbaagreat", sum := "3764161193f82f98dae8a4d9ac00d470fc57282d6f17d157562eb34d868ef33b", func := "cryostat/cryostatlaw23.UsageAll", spec := "usageAll", inPlace := ["internal/bytealg.abigen_runtime_cmpstring", "slices.overlaps[cryostat/api.File]"], unfollowed := true, recurses := true, plainKeys := false, apart := false, narrowed := true }
def UsageAllUptoSaid : Prop := usageAllUptoRow.holds Tryz.pinned (OpenSpec.upto usageAllSpec)

end Rows
end Go.Proofs.YtddbjihiflcbbaaGreat
