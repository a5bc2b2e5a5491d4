/-
  No cell of these rows narrows 'for every input' (looked for: loops, veiled, ifaces, maps, wideKeys, modest, calm, conditions, laid).
  DERIVED. THE GIVEN ROWS OF THIS SEAT. 12 by the template 'for every input the law returns true; each argument reads behind the call as it read before'; 0 by the template 'total and deterministic' (their statements: YtjnifnkbphggkaaTotals.lean).
  GIVEN WITH THE SEED: the statements are not yours to turn. If you find one false, say at which input.
  Laid BY PROGRAM, IN A SANDBOX (cutbox-rows.mjs): the forced cells as the released guide's own fill.sh prints them over the translation f9d9fb10e82ae503… (all of the seat's roots in one cut). By AI agents, Wed Nov 11 2026. No macro, syntax, notation, axiom, sorry.
-/
import Derived.Test.YtjnifnkbphggkaaChecked
import GoSem.Claim
import GoSem.ClaimJoined
import GoSem.ClaimMapViews
import Derived.JoinedTies
import Derived.KernelRfl
namespace Go.Proofs.Ytjnifnkbphggkaa
/- THE CELL 'sum', in the pinned program and in every row, IS THE sha256 OF THE DUMP (.gsa) THAT YtjnifnkbphggkaaProg.lean LOADS. Nothing in Lean hashes anything: it is a label: what it is worth is what the hold of that sum in a sandbox is worth. -/
noncomputable def Try.pinned : Pinned := { name := "ytjnifnkbphggkaa", sum := "f9d9fb10e82ae503fa0cfc3c12737f3f8fe58d425b44d26cb91872a2600bf4b2", checked := Try.checked }
namespace Rows
def none {H : Type} : Left H := { results := [], args := [] }

/-- 'sluicegatelaw14.CleaveHalves': WHATEVER THE INPUT: true; the input reads as it did. -/
def cleaveHalvesSpec : ChangeSpec := { name := "cleaveHalves", fn := fun _ => fun
  | [d1, d2, d3] => { results := [.lit (.bool true)], args := [d1, d2, d3] }
  | _ => none }
def cleaveHalvesRow : OpenClaim := { program := "ytjnifnkbphggkaa", sum := "f9d9fb10e82ae503fa0cfc3c12737f3f8fe58d425b44d26cb91872a2600bf4b2", func := "sluicegate/sluicegatelaw14.CleaveHalves", spec := "cleaveHalves", inPlace := ["internal/bytealg.abigen_runtime_cmpstring"], unfollowed := true, recurses := true, apart := false }
def CleaveHalvesSaid : Prop := cleaveHalvesRow.holds Try.pinned (OpenSpec.ofChange cleaveHalvesSpec)

/-- ITS FALSE NEIGHBOUR: 'it returns false'. Refute it at one input. -/
def cleaveHalvesWrong : ChangeSpec := { name := "cleaveHalves", fn := fun _ => fun
  | [d1, d2, d3] => { results := [.lit (.bool false)], args := [d1, d2, d3] }
  | _ => none }
def CleaveHalvesWrongFalsely : Prop := cleaveHalvesRow.holds Try.pinned (OpenSpec.ofChange cleaveHalvesWrong)

/-- 'sluicegatelaw14.CleaveJoins': WHATEVER THE INPUT: true; the input reads as it did. -/
def cleaveJoinsSpec : ChangeSpec := { name := "cleaveJoins", fn := fun _ => fun
  | [d1, d2, d3, d4] => { results := [.lit (.bool true)], args := [d1, d2, d3, d4] }
  | _ => none }
def cleaveJoinsRow : OpenClaim := { program := "ytjnifnkbphggkaa", sum := "f9d9fb10e82ae503fa0cfc3c12737f3f8fe58d425b44d26cb91872a2600bf4b2", func := "sluicegate/sluicegatelaw14.CleaveJoins", spec := "cleaveJoins", inPlace := ["internal/bytealg.abigen_runtime_cmpstring"], unfollowed := true, recurses := true, apart := false }
def CleaveJoinsSaid : Prop := cleaveJoinsRow.holds Try.pinned (OpenSpec.ofChange cleaveJoinsSpec)

/-- ITS FALSE NEIGHBOUR: 'it returns false'. Refute it at one input. -/
def cleaveJoinsWrong : ChangeSpec := { name := "cleaveJoins", fn := fun _ => fun
  | [d1, d2, d3, d4] => { results := [.lit (.bool false)], args := [d1, d2, d3, d4] }
  | _ => none }
def CleaveJoinsWrongFalsely : Prop := cleaveJoinsRow.holds Try.pinned (OpenSpec.ofChange cleaveJoinsWrong)

/-- 'sluicegatelaw14.CleaveBack': WHATEVER THE INPUT: true; the input reads as it did. -/
def cleaveBackSpec : ChangeSpec := { name := "cleaveBack", fn := fun _ => fun
  | [d1, d2, d3] => { results := [.lit (.bool true)], args := [d1, d2, d3] }
  | _ => none }
def cleaveBackRow : OpenClaim := { program := "ytjnifnkbphggkaa", sum := "f9d9fb10e82ae503fa0cfc3c12737f3f8fe58d425b44d26cb91872a2600bf4b2", func := "sluicegate/sluicegatelaw14.CleaveBack", spec := "cleaveBack", inPlace := ["internal/bytealg.abigen_runtime_cmpstring"], unfollowed := true, recurses := true, apart := false }
def CleaveBackSaid : Prop := cleaveBackRow.holds Try.pinned (OpenSpec.ofChange cleaveBackSpec)

/-- ITS FALSE NEIGHBOUR: 'it returns false'. Refute it at one input. -/
def cleaveBackWrong : ChangeSpec := { name := "cleaveBack", fn := fun _ => fun
  | [d1, d2, d3] => { results := [.lit (.bool false)], args := [d1, d2, d3] }
  | _ => none }
def CleaveBackWrongFalsely : Prop := cleaveBackRow.holds Try.pinned (OpenSpec.ofChange cleaveBackWrong)

/-- 'sluicegatelaw14.CleaveRight': WHATEVER THE INPUT: true; the input reads as it did. -/
def cleaveRightSpec : ChangeSpec := { name := "cleaveRight", fn := fun _ => fun
  | [d1, d2, d3] => { results := [.lit (.bool true)], args := [d1, d2, d3] }
  | _ => none }
def cleaveRightRow : OpenClaim := { program := "ytjnifnkbphggkaa", sum := "f9d9fb10e82ae503fa0cfc3c12737f3f8fe58d425b44d26cb91872a2600bf4b2", func := "sluicegate/sluicegatelaw14.CleaveRight", spec := "cleaveRight", inPlace := ["internal/bytealg.abigen_runtime_cmpstring"], unfollowed := true, recurses := true, apart := false }
def CleaveRightSaid : Prop := cleaveRightRow.holds Try.pinned (OpenSpec.ofChange cleaveRightSpec)

/-- ITS FALSE NEIGHBOUR: 'it returns false'. Refute it at one input. -/
def cleaveRightWrong : ChangeSpec := { name := "cleaveRight", fn := fun _ => fun
  | [d1, d2, d3] => { results := [.lit (.bool false)], args := [d1, d2, d3] }
  | _ => none }
def CleaveRightWrongFalsely : Prop := cleaveRightRow.holds Try.pinned (OpenSpec.ofChange cleaveRightWrong)

/-- 'sluicegatelaw13.NodeSame': WHATEVER THE INPUT: true; the input reads as it did. -/
def nodeSameSpec : ChangeSpec := { name := "nodeSame", fn := fun _ => fun
  | [d1, d2] => { results := [.lit (.bool true)], args := [d1, d2] }
  | _ => none }
def nodeSameRow : OpenClaim := { program := "ytjnifnkbphggkaa", sum := "f9d9fb10e82ae503fa0cfc3c12737f3f8fe58d425b44d26cb91872a2600bf4b2", func := "sluicegate/sluicegatelaw13.NodeSame", spec := "nodeSame", inPlace := ["internal/bytealg.abigen_runtime_cmpstring"], unfollowed := true, recurses := true, apart := false }
def NodeSameSaid : Prop := nodeSameRow.holds Try.pinned (OpenSpec.ofChange nodeSameSpec)

/-- ITS FALSE NEIGHBOUR: 'it returns false'. Refute it at one input. -/
def nodeSameWrong : ChangeSpec := { name := "nodeSame", fn := fun _ => fun
  | [d1, d2] => { results := [.lit (.bool false)], args := [d1, d2] }
  | _ => none }
def NodeSameWrongFalsely : Prop := nodeSameRow.holds Try.pinned (OpenSpec.ofChange nodeSameWrong)

/-- 'sluicegatelaw13.NodeLoads': WHATEVER THE INPUT: true; the input reads as it did. -/
def nodeLoadsSpec : ChangeSpec := { name := "nodeLoads", fn := fun _ => fun
  | [d] => { results := [.lit (.bool true)], args := [d] }
  | _ => none }
def nodeLoadsRow : OpenClaim := { program := "ytjnifnkbphggkaa", sum := "f9d9fb10e82ae503fa0cfc3c12737f3f8fe58d425b44d26cb91872a2600bf4b2", func := "sluicegate/sluicegatelaw13.NodeLoads", spec := "nodeLoads", inPlace := ["internal/bytealg.abigen_runtime_cmpstring"], unfollowed := true, recurses := true, apart := false }
def NodeLoadsSaid : Prop := nodeLoadsRow.holds Try.pinned (OpenSpec.ofChange nodeLoadsSpec)

/-- ITS FALSE NEIGHBOUR: 'it returns false'. Refute it at one input. -/
def nodeLoadsWrong : ChangeSpec := { name := "nodeLoads", fn := fun _ => fun
  | [d] => { results := [.lit (.bool false)], args := [d] }
  | _ => none }
def NodeLoadsWrongFalsely : Prop := nodeLoadsRow.holds Try.pinned (OpenSpec.ofChange nodeLoadsWrong)

/-- 'sluicegatelaw13.NodeAll': WHATEVER THE INPUT: true; the input reads as it did. -/
def nodeAllSpec : ChangeSpec := { name := "nodeAll", fn := fun _ => fun
  | [d1, d2] => { results := [.lit (.bool true)], args := [d1, d2] }
  | _ => none }
def nodeAllRow : OpenClaim := { program := "ytjnifnkbphggkaa", sum := "f9d9fb10e82ae503fa0cfc3c12737f3f8fe58d425b44d26cb91872a2600bf4b2", func := "sluicegate/sluicegatelaw13.NodeAll", spec := "nodeAll", inPlace := ["internal/bytealg.abigen_runtime_cmpstring"], unfollowed := true, recurses := true, apart := false }
def NodeAllSaid : Prop := nodeAllRow.holds Try.pinned (OpenSpec.ofChange nodeAllSpec)

/-- ITS FALSE NEIGHBOUR: 'it returns false'. Refute it at one input. -/
def nodeAllWrong : ChangeSpec := { name := "nodeAll", fn := fun _ => fun
  | [d1, d2] => { results := [.lit (.bool false)], args := [d1, d2] }
  | _ => none }
def NodeAllWrongFalsely : Prop := nodeAllRow.holds Try.pinned (OpenSpec.ofChange nodeAllWrong)

/-- 'sluicegatelaw11.LeafApplies': WHATEVER THE INPUT: true; the input reads as it did. -/
def leafAppliesSpec : ChangeSpec := { name := "leafApplies", fn := fun _ => fun
  | [d1, d2] => { results := [.lit (.bool true)], args := [d1, d2] }
  | _ => none }
def leafAppliesRow : OpenClaim := { program := "ytjnifnkbphggkaa", sum := "f9d9fb10e82ae503fa0cfc3c12737f3f8fe58d425b44d26cb91872a2600bf4b2", func := "sluicegate/sluicegatelaw11.LeafApplies", spec := "leafApplies", inPlace := ["internal/bytealg.abigen_runtime_cmpstring", "slices.overlaps[sluicegate/api.Pair]"], unfollowed := true, recurses := true, apart := false }
def LeafAppliesSaid : Prop := leafAppliesRow.holds Try.pinned (OpenSpec.ofChange leafAppliesSpec)

/-- ITS FALSE NEIGHBOUR: 'it returns false'. Refute it at one input. -/
def leafAppliesWrong : ChangeSpec := { name := "leafApplies", fn := fun _ => fun
  | [d1, d2] => { results := [.lit (.bool false)], args := [d1, d2] }
  | _ => none }
def LeafAppliesWrongFalsely : Prop := leafAppliesRow.holds Try.pinned (OpenSpec.ofChange leafAppliesWrong)

/-- 'sluicegatelaw11.LeafMap': WHATEVER THE INPUT: true; the input reads as it did. -/
def leafMapSpec : ChangeSpec := { name := "leafMap", fn := fun _ => fun
  | [d1, d2, d3] => { results := [.lit (.bool true)], args := [d1, d2, d3] }
  | _ => none }
def leafMapRow : OpenClaim := { program := "ytjnifnkbphggkaa", sum := "f9d9fb10e82ae503fa0cfc3c12737f3f8fe58d425b44d26cb91872a2600bf4b2", func := "sluicegate/sluicegatelaw11.LeafMap", spec := "leafMap", inPlace := ["internal/bytealg.abigen_runtime_cmpstring", "slices.overlaps[sluicegate/api.Pair]"], unfollowed := true, recurses := true, apart := false }
def LeafMapSaid : Prop := leafMapRow.holds Try.pinned (OpenSpec.ofChange leafMapSpec)

/-- ITS FALSE NEIGHBOUR: 'it returns false'. Refute it at one input. -/
def leafMapWrong : ChangeSpec := { name := "leafMap", fn := fun _ => fun
  | [d1, d2, d3] => { results := [.lit (.bool false)], args := [d1, d2, d3] }
  | _ => none }
def LeafMapWrongFalsely : Prop := leafMapRow.holds Try.pinned (OpenSpec.ofChange leafMapWrong)

/-- 'sluicegatelaw11.LeafParts': WHATEVER THE INPUT: true; the input reads as it did. -/
def leafPartsSpec : ChangeSpec := { name := "leafParts", fn := fun _ => fun
  | [d1, d2, d3] => { results := [.lit (.bool true)], args := [d1, d2, d3] }
  | _ => none }
def leafPartsRow : OpenClaim := { program := "ytjnifnkbphggkaa", sum := "f9d9fb10e82ae503fa0cfc3c12737f3f8fe58d425b44d26cb91872a2600bf4b2", func := "sluicegate/sluicegatelaw11.LeafParts", spec := "leafParts", inPlace := ["internal/bytealg.abigen_runtime_cmpstring", "slices.overlaps[sluicegate/api.Pair]"], unfollowed := true, recurses := true, apart := false }
def LeafPartsSaid : Prop := leafPartsRow.holds Try.pinned (OpenSpec.ofChange leafPartsSpec)

/-- ITS FALSE NEIGHBOUR: 'it returns false'. Refute it at one input. -/
def leafPartsWrong : ChangeSpec := { name := "leafParts", fn := fun _ => fun
  | [d1, d2, d3] => { results := [.lit (.bool false)], args := [d1, d2, d3] }
  | _ => none }
def LeafPartsWrongFalsely : Prop := leafPartsRow.holds Try.pinned (OpenSpec.ofChange leafPartsWrong)

/-- 'sluicegatelaw11.LeafRights': WHATEVER THE INPUT: true; the input reads as it did. -/
def leafRightsSpec : ChangeSpec := { name := "leafRights", fn := fun _ => fun
  | [d1, d2, d3] => { results := [.lit (.bool true)], args := [d1, d2, d3] }
  | _ => none }
def leafRightsRow : OpenClaim := { program := "ytjnifnkbphggkaa", sum := "f9d9fb10e82ae503fa0cfc3c12737f3f8fe58d425b44d26cb91872a2600bf4b2", func := "sluicegate/sluicegatelaw11.LeafRights", spec := "leafRights", inPlace := ["internal/bytealg.abigen_runtime_cmpstring", "slices.overlaps[sluicegate/api.Pair]"], unfollowed := true, recurses := true, apart := false }
def LeafRightsSaid : Prop := leafRightsRow.holds Try.pinned (OpenSpec.ofChange leafRightsSpec)

/-- ITS FALSE NEIGHBOUR: 'it returns false'. Refute it at one input. -/
def leafRightsWrong : ChangeSpec := { name := "leafRights", fn := fun _ => fun
  | [d1, d2, d3] => { results := [.lit (.bool false)], args := [d1, d2, d3] }
  | _ => none }
def LeafRightsWrongFalsely : Prop := leafRightsRow.holds Try.pinned (OpenSpec.ofChange leafRightsWrong)

/-- 'sluicegatelaw13.NodeRights': WHATEVER THE INPUT: true; the input reads as it did. -/
def nodeRightsSpec : ChangeSpec := { name := "nodeRights", fn := fun _ => fun
  | [d1, d2, d3] => { results := [.lit (.bool true)], args := [d1, d2, d3] }
  | _ => none }
def nodeRightsRow : OpenClaim := { program := "ytjnifnkbphggkaa", sum := "f9d9fb10e82ae503fa0cfc3c12737f3f8fe58d425b44d26cb91872a2600bf4b2", func := "sluicegate/sluicegatelaw13.NodeRights", spec := "nodeRights", inPlace := ["internal/bytealg.abigen_runtime_cmpstring"], unfollowed := true, recurses := true, apart := false }
def NodeRightsSaid : Prop := nodeRightsRow.holds Try.pinned (OpenSpec.ofChange nodeRightsSpec)

/-- ITS FALSE NEIGHBOUR: 'it returns false'. Refute it at one input. -/
def nodeRightsWrong : ChangeSpec := { name := "nodeRights", fn := fun _ => fun
  | [d1, d2, d3] => { results := [.lit (.bool false)], args := [d1, d2, d3] }
  | _ => none }
def NodeRightsWrongFalsely : Prop := nodeRightsRow.holds Try.pinned (OpenSpec.ofChange nodeRightsWrong)

/- THE SECOND FORM. 'bulk': how many values and letters a reading holds, each counted each time it is reached (what is shared counts as often as it is met; a slice's spare places count too). A statement '..UptoSaid' is the law's where the arguments, and the package variables that the reading takes, are together of bulk at most 1048576: NARROWER than '..Said'. Prove '..Said' where nothing that the law and all that it calls make is longer than what came in: it says more and counts as full. Else prove '..UptoSaid'. A law counts once. -/
mutual
def uptoBulk {H : Type} : DataW H → Nat
  | .lit (.string bytes) => bytes.length + 1
  | .lit _ => 1
  | .nil => 1
  | .ptr d => uptoBulk d + 1
  | .slice elems spare => uptoBulkAll elems + uptoBulkAll spare + 1
  | .agg parts => uptoBulkAll parts + 1
  | .iface _ d => uptoBulk d + 1
  | .map entries => uptoBulkEntries entries + 1
  | .held _ => 1
def uptoBulkAll {H : Type} : List (DataW H) → Nat
  | [] => 0
  | d :: r => uptoBulk d + uptoBulkAll r
def uptoBulkEntries {H : Type} : List (Lit × DataW H) → Nat
  | [] => 0
  | x :: r => uptoBulkEntry x + uptoBulkEntries r
def uptoBulkEntry {H : Type} : Lit × DataW H → Nat
  | (.string bytes, d) => bytes.length + uptoBulk d + 1
  | (_, d) => uptoBulk d + 1
 end
def uptoSmall : (H : Type) → List (DataW H) → Bool := fun _ ds => decide (uptoBulkAll ds ≤ 1048576)
def OpenSpec.upto (s : _root_.Go.ChangeSpec) : _root_.Go.OpenSpec := { _root_.Go.OpenSpec.ofChange s with cond := some uptoSmall }

/-- 'sluicegatelaw14.CleaveHalves', WHERE WHAT IT READS IS OF BULK AT MOST 1048576: true; the input reads as it did. -/
def cleaveHalvesUptoRow : OpenClaim := { program := "ytjnifnkbphggkaa", sum := "f9d9fb10e82ae503fa0cfc3c12737f3f8fe58d425b44d26cb91872a2600bf4b2", func := "sluicegate/sluicegatelaw14.CleaveHalves", spec := "cleaveHalves", inPlace := ["internal/bytealg.abigen_runtime_cmpstring"], unfollowed := true, recurses := true, apart := false, narrowed := true }
def CleaveHalvesUptoSaid : Prop := cleaveHalvesUptoRow.holds Try.pinned (OpenSpec.upto cleaveHalvesSpec)

/-- 'sluicegatelaw14.CleaveJoins', WHERE WHAT IT READS IS OF BULK AT MOST 1048576: true; the input reads as it did. -/
def cleaveJoinsUptoRow : OpenClaim := { program := "ytjnifnkbphggkaa", sum := "f9d9fb10e82ae503fa0cfc3c12737f3f8fe58d425b44d26cb91872a2600bf4b2", func := "sluicegate/sluicegatelaw14.CleaveJoins", spec := "cleaveJoins", inPlace := ["internal/bytealg.abigen_runtime_cmpstring"], unfollowed := true, recurses := true, apart := false, narrowed := true }
def CleaveJoinsUptoSaid : Prop := cleaveJoinsUptoRow.holds Try.pinned (OpenSpec.upto cleaveJoinsSpec)

/-- 'sluicegatelaw14.CleaveBack', WHERE WHAT IT READS IS OF BULK AT MOST 1048576: true; the input reads as it did. -/
def cleaveBackUptoRow : OpenClaim := { program := "ytjnifnkbphggkaa", sum := "f9d9fb10e82ae503fa0cfc3c12737f3f8fe58d425b44d26cb91872a2600bf4b2", func := "sluicegate/sluicegatelaw14.CleaveBack", spec := "cleaveBack", inPlace := ["internal/bytealg.abigen_runtime_cmpstring"], unfollowed := true, recurses := true, apart := false, narrowed := true }
def CleaveBackUptoSaid : Prop := cleaveBackUptoRow.holds Try.pinned (OpenSpec.upto cleaveBackSpec)

/-- 'sluicegatelaw14.CleaveRight', WHERE WHAT IT READS IS OF BULK AT MOST 1048576: true; the input reads as it did. -/
def cleaveRightUptoRow : OpenClaim := { program := "ytjnifnkbphggkaa", sum := "f9d9fb10e82ae503fa0cfc3c12737f3f8fe58d425b44d26cb91872a2600bf4b2", func := "sluicegate/sluicegatelaw14.CleaveRight", spec := "cleaveRight", inPlace := ["internal/bytealg.abigen_runtime_cmpstring"], unfollowed := true, recurses := true, apart := false, narrowed := true }
def CleaveRightUptoSaid : Prop := cleaveRightUptoRow.holds Try.pinned (OpenSpec.upto cleaveRightSpec)

/-- 'sluicegatelaw13.NodeSame', WHERE WHAT IT READS IS OF BULK AT MOST 1048576: true; the input reads as it did. -/
def nodeSameUptoRow : OpenClaim := { program := "ytjnifnkbphggkaa", sum := "f9d9fb10e82ae503fa0cfc3c12737f3f8fe58d425b44d26cb91872a2600bf4b2", func := "sluicegate/sluicegatelaw13.NodeSame", spec := "nodeSame", inPlace := ["internal/bytealg.abigen_runtime_cmpstring"], unfollowed := true, recurses := true, apart := false, narrowed := true }
def NodeSameUptoSaid : Prop := nodeSameUptoRow.holds Try.pinned (OpenSpec.upto nodeSameSpec)

/-- 'sluicegatelaw13.NodeLoads', WHERE WHAT IT READS IS OF BULK AT MOST 1048576: true; the input reads as it did. -/
def nodeLoadsUptoRow : OpenClaim := { program := "ytjnifnkbphggkaa", sum := "f9d9fb10e82ae503fa0cfc3c12737f3f8fe58d425b44d26cb91872a2600bf4b2", func := "sluicegate/sluicegatelaw13.NodeLoads", spec := "nodeLoads", inPlace := ["internal/bytealg.abigen_runtime_cmpstring"], unfollowed := true, recurses := true, apart := false, narrowed := true }
def NodeLoadsUptoSaid : Prop := nodeLoadsUptoRow.holds Try.pinned (OpenSpec.upto nodeLoadsSpec)

/-- 'sluicegatelaw13.NodeAll', WHERE WHAT IT READS IS OF BULK AT MOST 1048576: true; the input reads as it did. -/
def nodeAllUptoRow : OpenClaim := { program := "ytjnifnkbphggkaa", sum := "f9d9fb10e82ae503fa0cfc3c12737f3f8fe58d425b44d26cb91872a2600bf4b2", func := "sluicegate/sluicegatelaw13.NodeAll", spec := "nodeAll", inPlace := ["internal/bytealg.abigen_runtime_cmpstring"], unfollowed := true, recurses := true, apart := false, narrowed := true }
def NodeAllUptoSaid : Prop := nodeAllUptoRow.holds Try.pinned (OpenSpec.upto nodeAllSpec)

/-- 'sluicegatelaw11.LeafApplies', WHERE WHAT IT READS IS OF BULK AT MOST 1048576: true; the input reads as it did. -/
def leafAppliesUptoRow : OpenClaim := { program := "ytjnifnkbphggkaa", sum := "f9d9fb10e82ae503fa0cfc3c12737f3f8fe58d425b44d26cb91872a2600bf4b2", func := "sluicegate/sluicegatelaw11.LeafApplies", spec := "leafApplies", inPlace := ["internal/bytealg.abigen_runtime_cmpstring", "slices.overlaps[sluicegate/api.Pair]"], unfollowed := true, recurses := true, apart := false, narrowed := true }
def LeafAppliesUptoSaid : Prop := leafAppliesUptoRow.holds Try.pinned (OpenSpec.upto leafAppliesSpec)

/-- 'sluicegatelaw11.LeafMap', WHERE WHAT IT READS IS OF BULK AT MOST 1048576: true; the input reads as it did. -/
def leafMapUptoRow : OpenClaim := { program := "ytjnifnkbphggkaa", sum := "f9d9fb10e82ae503fa0cfc3c12737f3f8fe58d425b44d26cb91872a2600bf4b2", func := "sluicegate/sluicegatelaw11.LeafMap", spec := "leafMap", inPlace := ["internal/bytealg.abigen_runtime_cmpstring", "slices.overlaps[sluicegate/api.Pair]"], unfollowed := true, recurses := true, apart := false, narrowed := true }
def LeafMapUptoSaid : Prop := leafMapUptoRow.holds Try.pinned (OpenSpec.upto leafMapSpec)

/-- 'sluicegatelaw11.LeafParts', WHERE WHAT IT READS IS OF BULK AT MOST 1048576: true; the input reads as it did. -/
def leafPartsUptoRow : OpenClaim := { program := "ytjnifnkbphggkaa", sum := "f9d9fb10e82ae503fa0cfc3c12737f3f8fe58d425b44d26cb91872a2600bf4b2", func := "sluicegate/sluicegatelaw11.LeafParts", spec := "leafParts", inPlace := ["internal/bytealg.abigen_runtime_cmpstring", "slices.overlaps[sluicegate/api.Pair]"], unfollowed := true, recurses := true, apart := false, narrowed := true }
def LeafPartsUptoSaid : Prop := leafPartsUptoRow.holds Try.pinned (OpenSpec.upto leafPartsSpec)

/-- 'sluicegatelaw11.LeafRights', WHERE WHAT IT READS IS OF BULK AT MOST 1048576: true; the input reads as it did. -/
def leafRightsUptoRow : OpenClaim := { program := "ytjnifnkbphggkaa", sum := "f9d9fb10e82ae503fa0cfc3c12737f3f8fe58d425b44d26cb91872a2600bf4b2", func := "sluicegate/sluicegatelaw11.LeafRights", spec := "leafRights", inPlace := ["internal/bytealg.abigen_runtime_cmpstring", "slices.overlaps[sluicegate/api.Pair]"], unfollowed := true, recurses := true, apart := false, narrowed := true }
def LeafRightsUptoSaid : Prop := leafRightsUptoRow.holds Try.pinned (OpenSpec.upto leafRightsSpec)

/-- 'sluicegatelaw13.NodeRights', WHERE WHAT IT READS IS OF BULK AT MOST 1048576: true; the input reads as it did. -/
def nodeRightsUptoRow : OpenClaim := { program := "ytjnifnkbphggkaa", sum := "f9d9fb10e82ae503fa0cfc3c12737f3f8fe58d425b44d26cb91872a2600bf4b2", func := "sluicegate/sluicegatelaw13.NodeRights", spec := "nodeRights", inPlace := ["internal/bytealg.abigen_runtime_cmpstring"], unfollowed := true, recurses := true, apart := false, narrowed := true }
def NodeRightsUptoSaid : Prop := nodeRightsUptoRow.holds Try.pinned (OpenSpec.upto nodeRightsSpec)

end Rows
end Go.Proofs.Ytjnifnkbphggkaa
