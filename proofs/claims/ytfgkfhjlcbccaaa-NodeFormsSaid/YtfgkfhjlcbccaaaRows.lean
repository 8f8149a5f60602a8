/-
  No cell of these rows narrows 'for every input' (looked for: loops, veiled, ifaces, maps, wideKeys, modest, calm, conditions, laid).
  DERIVED. THE GIVEN ROWS OF THIS SEAT. 10 by the template 'for every input the law returns true; each argument reads behind the call as it read before'; 0 by the template 'total and deterministic' (their statements: YtfgkfhjlcbccaaaTotals.lean).
  GIVEN WITH THE SEED: the statements are not yours to turn. If you find one false, say at which input.
  Laid BY PROGRAM, IN A SANDBOX (cutbox-rows.mjs): the forced cells as the released guide's own fill.sh prints them over the translation decdbc117318affe… (all of the seat's roots in one cut). By AI agents, Wed Nov 11 2026. No macro, syntax, notation, axiom, sorry.
-/
import Derived.Test.YtfgkfhjlcbccaaaChecked
import GoSem.Claim
import GoSem.ClaimJoined
import GoSem.ClaimMapViews
import Derived.JoinedTies
import Derived.KernelRfl
namespace Go.Proofs.Ytfgkfhjlcbccaaa
/- THE CELL 'sum', in the pinned program and in every row, IS THE sha256 OF THE DUMP (.gsa) THAT YtfgkfhjlcbccaaaProg.lean LOADS. Nothing in Lean hashes anything: it is a label: what it is worth is what the hold of that sum in a sandbox is worth. -/
noncomputable def Try.pinned : Pinned := { name := "ytfgkfhjlcbccaaa", sum := "decdbc117318affe667dfd11cc2e53ef9fd48a7a3adc4f99c235a7785be845fd", checked := Try.checked }
namespace Rows
def none {H : Type} : Left H := { results := [], args := [] }

/-- 'cryostatlaw6.Pages': WHATEVER THE INPUT: true; the input reads as it did. -/
def pagesSpec : ChangeSpec := { name := "pages", fn := fun _ => fun
  | [d1, d2] => { results := [.lit (.bool true)], args := [d1, d2] }
  | _ => none }
def pagesRow : OpenClaim := { program := "ytfgkfhjlcbccaaa", sum := "decdbc117318affe667dfd11cc2e53ef9fd48a7a3adc4f99c235a7785be845fd", func := "cryostat/cryostatlaw6.Pages", spec := "pages", unfollowed := true, recurses := true, apart := false }
def PagesSaid : Prop := pagesRow.holds Try.pinned (OpenSpec.ofChange pagesSpec)

/-- ITS FALSE NEIGHBOUR: 'it returns false'. Refute it at one input. -/
def pagesWrong : ChangeSpec := { name := "pages", fn := fun _ => fun
  | [d1, d2] => { results := [.lit (.bool false)], args := [d1, d2] }
  | _ => none }
def PagesWrongFalsely : Prop := pagesRow.holds Try.pinned (OpenSpec.ofChange pagesWrong)

/-- 'cryostatlaw6.PageBack': WHATEVER THE INPUT: true; the input reads as it did. -/
def pageBackSpec : ChangeSpec := { name := "pageBack", fn := fun _ => fun
  | [d1, d2] => { results := [.lit (.bool true)], args := [d1, d2] }
  | _ => none }
def pageBackRow : OpenClaim := { program := "ytfgkfhjlcbccaaa", sum := "decdbc117318affe667dfd11cc2e53ef9fd48a7a3adc4f99c235a7785be845fd", func := "cryostat/cryostatlaw6.PageBack", spec := "pageBack", unfollowed := true, recurses := true, apart := false }
def PageBackSaid : Prop := pageBackRow.holds Try.pinned (OpenSpec.ofChange pageBackSpec)

/-- ITS FALSE NEIGHBOUR: 'it returns false'. Refute it at one input. -/
def pageBackWrong : ChangeSpec := { name := "pageBack", fn := fun _ => fun
  | [d1, d2] => { results := [.lit (.bool false)], args := [d1, d2] }
  | _ => none }
def PageBackWrongFalsely : Prop := pageBackRow.holds Try.pinned (OpenSpec.ofChange pageBackWrong)

/-- 'cryostatlaw6.PageForms': WHATEVER THE INPUT: true; the input reads as it did. -/
def pageFormsSpec : ChangeSpec := { name := "pageForms", fn := fun _ => fun
  | [d1, d2] => { results := [.lit (.bool true)], args := [d1, d2] }
  | _ => none }
def pageFormsRow : OpenClaim := { program := "ytfgkfhjlcbccaaa", sum := "decdbc117318affe667dfd11cc2e53ef9fd48a7a3adc4f99c235a7785be845fd", func := "cryostat/cryostatlaw6.PageForms", spec := "pageForms", unfollowed := true, recurses := true, apart := false }
def PageFormsSaid : Prop := pageFormsRow.holds Try.pinned (OpenSpec.ofChange pageFormsSpec)

/-- ITS FALSE NEIGHBOUR: 'it returns false'. Refute it at one input. -/
def pageFormsWrong : ChangeSpec := { name := "pageForms", fn := fun _ => fun
  | [d1, d2] => { results := [.lit (.bool false)], args := [d1, d2] }
  | _ => none }
def PageFormsWrongFalsely : Prop := pageFormsRow.holds Try.pinned (OpenSpec.ofChange pageFormsWrong)

/-- 'cryostatlaw6.PageCut': WHATEVER THE INPUT: true; the input reads as it did. -/
def pageCutSpec : ChangeSpec := { name := "pageCut", fn := fun _ => fun
  | [d1, d2] => { results := [.lit (.bool true)], args := [d1, d2] }
  | _ => none }
def pageCutRow : OpenClaim := { program := "ytfgkfhjlcbccaaa", sum := "decdbc117318affe667dfd11cc2e53ef9fd48a7a3adc4f99c235a7785be845fd", func := "cryostat/cryostatlaw6.PageCut", spec := "pageCut", unfollowed := true, recurses := true, apart := false }
def PageCutSaid : Prop := pageCutRow.holds Try.pinned (OpenSpec.ofChange pageCutSpec)

/-- ITS FALSE NEIGHBOUR: 'it returns false'. Refute it at one input. -/
def pageCutWrong : ChangeSpec := { name := "pageCut", fn := fun _ => fun
  | [d1, d2] => { results := [.lit (.bool false)], args := [d1, d2] }
  | _ => none }
def PageCutWrongFalsely : Prop := pageCutRow.holds Try.pinned (OpenSpec.ofChange pageCutWrong)

/-- 'cryostatlaw6.PageUnlike': WHATEVER THE INPUT: true; the input reads as it did. -/
def pageUnlikeSpec : ChangeSpec := { name := "pageUnlike", fn := fun _ => fun
  | [d1, d2] => { results := [.lit (.bool true)], args := [d1, d2] }
  | _ => none }
def pageUnlikeRow : OpenClaim := { program := "ytfgkfhjlcbccaaa", sum := "decdbc117318affe667dfd11cc2e53ef9fd48a7a3adc4f99c235a7785be845fd", func := "cryostat/cryostatlaw6.PageUnlike", spec := "pageUnlike", unfollowed := true, recurses := true, apart := false }
def PageUnlikeSaid : Prop := pageUnlikeRow.holds Try.pinned (OpenSpec.ofChange pageUnlikeSpec)

/-- ITS FALSE NEIGHBOUR: 'it returns false'. Refute it at one input. -/
def pageUnlikeWrong : ChangeSpec := { name := "pageUnlike", fn := fun _ => fun
  | [d1, d2] => { results := [.lit (.bool false)], args := [d1, d2] }
  | _ => none }
def PageUnlikeWrongFalsely : Prop := pageUnlikeRow.holds Try.pinned (OpenSpec.ofChange pageUnlikeWrong)

/-- 'cryostatlaw9.Nodes': WHATEVER THE INPUT: true; the input reads as it did. -/
def nodesSpec : ChangeSpec := { name := "nodes", fn := fun _ => fun
  | [d1, d2, d3, d4, d5] => { results := [.lit (.bool true)], args := [d1, d2, d3, d4, d5] }
  | _ => none }
def nodesRow : OpenClaim := { program := "ytfgkfhjlcbccaaa", sum := "decdbc117318affe667dfd11cc2e53ef9fd48a7a3adc4f99c235a7785be845fd", func := "cryostat/cryostatlaw9.Nodes", spec := "nodes", unfollowed := true, recurses := true, apart := false }
def NodesSaid : Prop := nodesRow.holds Try.pinned (OpenSpec.ofChange nodesSpec)

/-- ITS FALSE NEIGHBOUR: 'it returns false'. Refute it at one input. -/
def nodesWrong : ChangeSpec := { name := "nodes", fn := fun _ => fun
  | [d1, d2, d3, d4, d5] => { results := [.lit (.bool false)], args := [d1, d2, d3, d4, d5] }
  | _ => none }
def NodesWrongFalsely : Prop := nodesRow.holds Try.pinned (OpenSpec.ofChange nodesWrong)

/-- 'cryostatlaw9.NodeBack': WHATEVER THE INPUT: true; the input reads as it did. -/
def nodeBackSpec : ChangeSpec := { name := "nodeBack", fn := fun _ => fun
  | [d] => { results := [.lit (.bool true)], args := [d] }
  | _ => none }
def nodeBackRow : OpenClaim := { program := "ytfgkfhjlcbccaaa", sum := "decdbc117318affe667dfd11cc2e53ef9fd48a7a3adc4f99c235a7785be845fd", func := "cryostat/cryostatlaw9.NodeBack", spec := "nodeBack", unfollowed := true, recurses := true, apart := false }
def NodeBackSaid : Prop := nodeBackRow.holds Try.pinned (OpenSpec.ofChange nodeBackSpec)

/-- ITS FALSE NEIGHBOUR: 'it returns false'. Refute it at one input. -/
def nodeBackWrong : ChangeSpec := { name := "nodeBack", fn := fun _ => fun
  | [d] => { results := [.lit (.bool false)], args := [d] }
  | _ => none }
def NodeBackWrongFalsely : Prop := nodeBackRow.holds Try.pinned (OpenSpec.ofChange nodeBackWrong)

/-- 'cryostatlaw9.NodeForms': WHATEVER THE INPUT: true; the input reads as it did. -/
def nodeFormsSpec : ChangeSpec := { name := "nodeForms", fn := fun _ => fun
  | [d] => { results := [.lit (.bool true)], args := [d] }
  | _ => none }
def nodeFormsRow : OpenClaim := { program := "ytfgkfhjlcbccaaa", sum := "decdbc117318affe667dfd11cc2e53ef9fd48a7a3adc4f99c235a7785be845fd", func := "cryostat/cryostatlaw9.NodeForms", spec := "nodeForms", unfollowed := true, recurses := true, apart := false }
def NodeFormsSaid : Prop := nodeFormsRow.holds Try.pinned (OpenSpec.ofChange nodeFormsSpec)

/-- ITS FALSE NEIGHBOUR: 'it returns false'. Refute it at one input. -/
def nodeFormsWrong : ChangeSpec := { name := "nodeForms", fn := fun _ => fun
  | [d] => { results := [.lit (.bool false)], args := [d] }
  | _ => none }
def NodeFormsWrongFalsely : Prop := nodeFormsRow.holds Try.pinned (OpenSpec.ofChange nodeFormsWrong)

/-- 'cryostatlaw9.NodeJoins': WHATEVER THE INPUT: true; the input reads as it did. -/
def nodeJoinsSpec : ChangeSpec := { name := "nodeJoins", fn := fun _ => fun
  | [d1, d2] => { results := [.lit (.bool true)], args := [d1, d2] }
  | _ => none }
def nodeJoinsRow : OpenClaim := { program := "ytfgkfhjlcbccaaa", sum := "decdbc117318affe667dfd11cc2e53ef9fd48a7a3adc4f99c235a7785be845fd", func := "cryostat/cryostatlaw9.NodeJoins", spec := "nodeJoins", unfollowed := true, recurses := true, apart := false }
def NodeJoinsSaid : Prop := nodeJoinsRow.holds Try.pinned (OpenSpec.ofChange nodeJoinsSpec)

/-- ITS FALSE NEIGHBOUR: 'it returns false'. Refute it at one input. -/
def nodeJoinsWrong : ChangeSpec := { name := "nodeJoins", fn := fun _ => fun
  | [d1, d2] => { results := [.lit (.bool false)], args := [d1, d2] }
  | _ => none }
def NodeJoinsWrongFalsely : Prop := nodeJoinsRow.holds Try.pinned (OpenSpec.ofChange nodeJoinsWrong)

/-- 'cryostatlaw9.NodeSlots': WHATEVER THE INPUT: true; the input reads as it did. -/
def nodeSlotsSpec : ChangeSpec := { name := "nodeSlots", fn := fun _ => fun
  | [d1, d2] => { results := [.lit (.bool true)], args := [d1, d2] }
  | _ => none }
def nodeSlotsRow : OpenClaim := { program := "ytfgkfhjlcbccaaa", sum := "decdbc117318affe667dfd11cc2e53ef9fd48a7a3adc4f99c235a7785be845fd", func := "cryostat/cryostatlaw9.NodeSlots", spec := "nodeSlots", unfollowed := true, recurses := true, apart := false }
def NodeSlotsSaid : Prop := nodeSlotsRow.holds Try.pinned (OpenSpec.ofChange nodeSlotsSpec)

/-- ITS FALSE NEIGHBOUR: 'it returns false'. Refute it at one input. -/
def nodeSlotsWrong : ChangeSpec := { name := "nodeSlots", fn := fun _ => fun
  | [d1, d2] => { results := [.lit (.bool false)], args := [d1, d2] }
  | _ => none }
def NodeSlotsWrongFalsely : Prop := nodeSlotsRow.holds Try.pinned (OpenSpec.ofChange nodeSlotsWrong)

/- THE SECOND FORM. 'bulk': how many values and letters a reading holds, each counted each time it is reached (what is shared counts as often as it is met; a slice's spare places count too). A statement '..UptoSaid' is the law's where the arguments, and the package variables that the reading takes, are together of bulk at most 1048576: NARROWER than '..Said'. Prove '..Said' where nothing that the law and all that it calls make is longer than what came in: it says more and counts as full. Else prove '..UptoSaid'. A law counts once. -/
mutual
def uptoBulk {H : Type} : DataW H → Nat
  | .lit (.string bytes) => bytes.length + 1
  | .lit _ => 1
  | .nil => 1
  | .ptr d => uptoBulk d + 1
  | .slice elems spare => uptoBulkAll elems + uptoBulkAll spare + 1
  | .agg parts => uptoBulkAll parts + 1
  | .iface _ d => uptoBulk d + 1
  | .map entries => uptoBulkEntries entries + 1
  | .held _ => 1
def uptoBulkAll {H : Type} : List (DataW H) → Nat
  | [] => 0
  | d :: r => uptoBulk d + uptoBulkAll r
def uptoBulkEntries {H : Type} : List (Lit × DataW H) → Nat
  | [] => 0
  | x :: r => uptoBulkEntry x + uptoBulkEntries r
def uptoBulkEntry {H : Type} : Lit × DataW H → Nat
  | (.string bytes, d) => bytes.length + uptoBulk d + 1
  | (_, d) => uptoBulk d + 1
 end
def uptoSmall : (H : Type) → List (DataW H) → Bool := fun _ ds => decide (uptoBulkAll ds ≤ 1048576)
def OpenSpec.upto (s : _root_.Go.ChangeSpec) : _root_.Go.OpenSpec := { _root_.Go.OpenSpec.ofChange s with cond := some uptoSmall }

/-- 'cryostatlaw6.Pages', WHERE WHAT IT READS IS OF BULK AT MOST 1048576: true; the input reads as it did. -/
def pagesUptoRow : OpenClaim := { program := "ytfgkfhjlcbccaaa", sum := "decdbc117318affe667dfd11cc2e53ef9fd48a7a3adc4f99c235a7785be845fd", func := "cryostat/cryostatlaw6.Pages", spec := "pages", unfollowed := true, recurses := true, apart := false, narrowed := true }
def PagesUptoSaid : Prop := pagesUptoRow.holds Try.pinned (OpenSpec.upto pagesSpec)

/-- 'cryostatlaw6.PageBack', WHERE WHAT IT READS IS OF BULK AT MOST 1048576: true; the input reads as it did. -/
def pageBackUptoRow : OpenClaim := { program := "ytfgkfhjlcbccaaa", sum := "decdbc117318affe667dfd11cc2e53ef9fd48a7a3adc4f99c235a7785be845fd", func := "cryostat/cryostatlaw6.PageBack", spec := "pageBack", unfollowed := true, recurses := true, apart := false, narrowed := true }
def PageBackUptoSaid : Prop := pageBackUptoRow.holds Try.pinned (OpenSpec.upto pageBackSpec)

/-- 'cryostatlaw6.PageForms', WHERE WHAT IT READS IS OF BULK AT MOST 1048576: true; the input reads as it did. -/
def pageFormsUptoRow : OpenClaim := { program := "ytfgkfhjlcbccaaa", sum := "decdbc117318affe667dfd11cc2e53ef9fd48a7a3adc4f99c235a7785be845fd", func := "cryostat/cryostatlaw6.PageForms", spec := "pageForms", unfollowed := true, recurses := true, apart := false, narrowed := true }
def PageFormsUptoSaid : Prop := pageFormsUptoRow.holds Try.pinned (OpenSpec.upto pageFormsSpec)

/-- 'cryostatlaw6.PageCut', WHERE WHAT IT READS IS OF BULK AT MOST 1048576: true; the input reads as it did. -/
def pageCutUptoRow : OpenClaim := { program := "ytfgkfhjlcbccaaa", sum := "decdbc117318affe667dfd11cc2e53ef9fd48a7a3adc4f99c235a7785be845fd", func := "cryostat/cryostatlaw6.PageCut", spec := "pageCut", unfollowed := true, recurses := true, apart := false, narrowed := true }
def PageCutUptoSaid : Prop := pageCutUptoRow.holds Try.pinned (OpenSpec.upto pageCutSpec)

/-- 'cryostatlaw6.PageUnlike', WHERE WHAT IT READS IS OF BULK AT MOST 1048576: true; the input reads as it did. -/
def pageUnlikeUptoRow : OpenClaim := { program := "ytfgkfhjlcbccaaa", sum := "decdbc117318affe667dfd11cc2e53ef9fd48a7a3adc4f99c235a7785be845fd", func := "cryostat/cryostatlaw6.PageUnlike", spec := "pageUnlike", unfollowed := true, recurses := true, apart := false, narrowed := true }
def PageUnlikeUptoSaid : Prop := pageUnlikeUptoRow.holds Try.pinned (OpenSpec.upto pageUnlikeSpec)

/-- 'cryostatlaw9.Nodes', WHERE WHAT IT READS IS OF BULK AT MOST 1048576: true; the input reads as it did. -/
def nodesUptoRow : OpenClaim := { program := "ytfgkfhjlcbccaaa", sum := "decdbc117318affe667dfd11cc2e53ef9fd48a7a3adc4f99c235a7785be845fd", func := "cryostat/cryostatlaw9.Nodes", spec := "nodes", unfollowed := true, recurses := true, apart := false, narrowed := true }
def NodesUptoSaid : Prop := nodesUptoRow.holds Try.pinned (OpenSpec.upto nodesSpec)

/-- 'cryostatlaw9.NodeBack', WHERE WHAT IT READS IS OF BULK AT MOST 1048576: true; the input reads as it did. -/
def nodeBackUptoRow : OpenClaim := { program := "ytfgkfhjlcbccaaa", sum := "decdbc117318affe667dfd11cc2e53ef9fd48a7a3adc4f99c235a7785be845fd", func := "cryostat/cryostatlaw9.NodeBack", spec := "nodeBack", unfollowed := true, recurses := true, apart := false, narrowed := true }
def NodeBackUptoSaid : Prop := nodeBackUptoRow.holds Try.pinned (OpenSpec.upto nodeBackSpec)

/-- 'cryostatlaw9.NodeForms', WHERE WHAT IT READS IS OF BULK AT MOST 1048576: true; the input reads as it did. -/
def nodeFormsUptoRow : OpenClaim := { program := "ytfgkfhjlcbccaaa", sum := "decdbc117318affe667dfd11cc2e53ef9fd48a7a3adc4f99c235a7785be845fd", func := "cryostat/cryostatlaw9.NodeForms", spec := "nodeForms", unfollowed := true, recurses := true, apart := false, narrowed := true }
def NodeFormsUptoSaid : Prop := nodeFormsUptoRow.holds Try.pinned (OpenSpec.upto nodeFormsSpec)

/-- 'cryostatlaw9.NodeJoins', WHERE WHAT IT READS IS OF BULK AT MOST 1048576: true; the input reads as it did. -/
def nodeJoinsUptoRow : OpenClaim := { program := "ytfgkfhjlcbccaaa", sum := "decdbc117318affe667dfd11cc2e53ef9fd48a7a3adc4f99c235a7785be845fd", func := "cryostat/cryostatlaw9.NodeJoins", spec := "nodeJoins", unfollowed := true, recurses := true, apart := false, narrowed := true }
def NodeJoinsUptoSaid : Prop := nodeJoinsUptoRow.holds Try.pinned (OpenSpec.upto nodeJoinsSpec)

/-- 'cryostatlaw9.NodeSlots', WHERE WHAT IT READS IS OF BULK AT MOST 1048576: true; the input reads as it did. -/
def nodeSlotsUptoRow : OpenClaim := { program := "ytfgkfhjlcbccaaa", sum := "decdbc117318affe667dfd11cc2e53ef9fd48a7a3adc4f99c235a7785be845fd", func := "cryostat/cryostatlaw9.NodeSlots", spec := "nodeSlots", unfollowed := true, recurses := true, apart := false, narrowed := true }
def NodeSlotsUptoSaid : Prop := nodeSlotsUptoRow.holds Try.pinned (OpenSpec.upto nodeSlotsSpec)

end Rows
end Go.Proofs.Ytfgkfhjlcbccaaa
