/-
  No cell of these rows narrows 'for every input' (looked for: loops, veiled, ifaces, maps, wideKeys, modest, calm, conditions, laid).
  DERIVED. THE GIVEN ROWS OF THIS SEAT. 10 by the template 'for every input the law returns true; each argument reads behind the call as it read before'; 0 by the template 'total and deterministic' (their statements: YtelieidgolfboaaTotals.lean).
  GIVEN WITH THE SEED: the statements are not yours to turn. If you find one false, say at which input.
  Laid BY PROGRAM, IN A SANDBOX (cutbox-rows.mjs): the forced cells as the released guide's own fill.sh prints them over the translation cae287ab37fc3d34… (all of the seat's roots in one cut). By AI agents, Wed Nov 11 2026. No macro, syntax, notation, axiom, sorry.
-/
import Derived.Test.YtelieidgolfboaaChecked
import GoSem.Claim
import GoSem.ClaimJoined
import GoSem.ClaimMapViews
import Derived.JoinedTies
import Derived.KernelRfl
namespace Go.Proofs.Ytelieidgolfboaa
/- THE CELL 'sum', in the pinned program and in every row, IS THE sha256 OF THE DUMP (.gsa) THAT YtelieidgolfboaaProg.lean LOADS. Nothing in Lean hashes anything: it is a label: what it is worth is what the hold of that sum in a sandbox is worth. -/
noncomputable def Try.pinned : Pinned := { name := "ytelieidgolfboaa", sum := "cae287ab37fc3d34fd1be139119b0790f33338ba51cdc25075601586033560ac", checked := Try.checked }
namespace Rows
def none {H : Type} : Left H := { results := [], args := [] }

/-- 'sluicegatelaw01.LexSpans': WHATEVER THE INPUT: true; the input reads as it did. -/
def lexSpansSpec : ChangeSpec := { name := "lexSpans", fn := fun _ => fun
  | [d1, d2] => { results := [.lit (.bool true)], args := [d1, d2] }
  | _ => none }
def lexSpansRow : OpenClaim := { program := "ytelieidgolfboaa", sum := "cae287ab37fc3d34fd1be139119b0790f33338ba51cdc25075601586033560ac", func := "sluicegate/sluicegatelaw01.LexSpans", spec := "lexSpans", apart := false }
def LexSpansSaid : Prop := lexSpansRow.holds Try.pinned (OpenSpec.ofChange lexSpansSpec)

/-- ITS FALSE NEIGHBOUR: 'it returns false'. Refute it at one input. -/
def lexSpansWrong : ChangeSpec := { name := "lexSpans", fn := fun _ => fun
  | [d1, d2] => { results := [.lit (.bool false)], args := [d1, d2] }
  | _ => none }
def LexSpansWrongFalsely : Prop := lexSpansRow.holds Try.pinned (OpenSpec.ofChange lexSpansWrong)

/-- 'sluicegatelaw01.LexMeets': WHATEVER THE INPUT: true; the input reads as it did. -/
def lexMeetsSpec : ChangeSpec := { name := "lexMeets", fn := fun _ => fun
  | [d1, d2, d3] => { results := [.lit (.bool true)], args := [d1, d2, d3] }
  | _ => none }
def lexMeetsRow : OpenClaim := { program := "ytelieidgolfboaa", sum := "cae287ab37fc3d34fd1be139119b0790f33338ba51cdc25075601586033560ac", func := "sluicegate/sluicegatelaw01.LexMeets", spec := "lexMeets", apart := false }
def LexMeetsSaid : Prop := lexMeetsRow.holds Try.pinned (OpenSpec.ofChange lexMeetsSpec)

/-- ITS FALSE NEIGHBOUR: 'it returns false'. Refute it at one input. -/
def lexMeetsWrong : ChangeSpec := { name := "lexMeets", fn := fun _ => fun
  | [d1, d2, d3] => { results := [.lit (.bool false)], args := [d1, d2, d3] }
  | _ => none }
def LexMeetsWrongFalsely : Prop := lexMeetsRow.holds Try.pinned (OpenSpec.ofChange lexMeetsWrong)

/-- 'sluicegatelaw01.LexCompares': WHATEVER THE INPUT: true; the input reads as it did. -/
def lexComparesSpec : ChangeSpec := { name := "lexCompares", fn := fun _ => fun
  | [d1, d2] => { results := [.lit (.bool true)], args := [d1, d2] }
  | _ => none }
def lexComparesRow : OpenClaim := { program := "ytelieidgolfboaa", sum := "cae287ab37fc3d34fd1be139119b0790f33338ba51cdc25075601586033560ac", func := "sluicegate/sluicegatelaw01.LexCompares", spec := "lexCompares", inPlace := ["internal/bytealg.abigen_runtime_cmpstring"], apart := false }
def LexComparesSaid : Prop := lexComparesRow.holds Try.pinned (OpenSpec.ofChange lexComparesSpec)

/-- ITS FALSE NEIGHBOUR: 'it returns false'. Refute it at one input. -/
def lexComparesWrong : ChangeSpec := { name := "lexCompares", fn := fun _ => fun
  | [d1, d2] => { results := [.lit (.bool false)], args := [d1, d2] }
  | _ => none }
def LexComparesWrongFalsely : Prop := lexComparesRow.holds Try.pinned (OpenSpec.ofChange lexComparesWrong)

/-- 'sluicegatelaw01.LexRow': WHATEVER THE INPUT: true; the input reads as it did. -/
def lexRowSpec : ChangeSpec := { name := "lexRow", fn := fun _ => fun
  | [d1, d2, d3] => { results := [.lit (.bool true)], args := [d1, d2, d3] }
  | _ => none }
def lexRowRow : OpenClaim := { program := "ytelieidgolfboaa", sum := "cae287ab37fc3d34fd1be139119b0790f33338ba51cdc25075601586033560ac", func := "sluicegate/sluicegatelaw01.LexRow", spec := "lexRow", inPlace := ["internal/bytealg.abigen_runtime_cmpstring"], apart := false }
def LexRowSaid : Prop := lexRowRow.holds Try.pinned (OpenSpec.ofChange lexRowSpec)

/-- ITS FALSE NEIGHBOUR: 'it returns false'. Refute it at one input. -/
def lexRowWrong : ChangeSpec := { name := "lexRow", fn := fun _ => fun
  | [d1, d2, d3] => { results := [.lit (.bool false)], args := [d1, d2, d3] }
  | _ => none }
def LexRowWrongFalsely : Prop := lexRowRow.holds Try.pinned (OpenSpec.ofChange lexRowWrong)

/-- 'sluicegatelaw10.BufRights': WHATEVER THE INPUT: true; the input reads as it did. -/
def bufRightsSpec : ChangeSpec := { name := "bufRights", fn := fun _ => fun
  | [d1, d2] => { results := [.lit (.bool true)], args := [d1, d2] }
  | _ => none }
def bufRightsRow : OpenClaim := { program := "ytelieidgolfboaa", sum := "cae287ab37fc3d34fd1be139119b0790f33338ba51cdc25075601586033560ac", func := "sluicegate/sluicegatelaw10.BufRights", spec := "bufRights", inPlace := ["internal/bytealg.abigen_runtime_cmpstring"], apart := false }
def BufRightsSaid : Prop := bufRightsRow.holds Try.pinned (OpenSpec.ofChange bufRightsSpec)

/-- ITS FALSE NEIGHBOUR: 'it returns false'. Refute it at one input. -/
def bufRightsWrong : ChangeSpec := { name := "bufRights", fn := fun _ => fun
  | [d1, d2] => { results := [.lit (.bool false)], args := [d1, d2] }
  | _ => none }
def BufRightsWrongFalsely : Prop := bufRightsRow.holds Try.pinned (OpenSpec.ofChange bufRightsWrong)

/-- 'sluicegatelaw12.FanWays': WHATEVER THE INPUT: true; the input reads as it did. -/
def fanWaysSpec : ChangeSpec := { name := "fanWays", fn := fun _ => fun
  | [d1, d2, d3, d4] => { results := [.lit (.bool true)], args := [d1, d2, d3, d4] }
  | _ => none }
def fanWaysRow : OpenClaim := { program := "ytelieidgolfboaa", sum := "cae287ab37fc3d34fd1be139119b0790f33338ba51cdc25075601586033560ac", func := "sluicegate/sluicegatelaw12.FanWays", spec := "fanWays", inPlace := ["internal/bytealg.abigen_runtime_cmpstring"], unfollowed := true, recurses := true, apart := false }
def FanWaysSaid : Prop := fanWaysRow.holds Try.pinned (OpenSpec.ofChange fanWaysSpec)

/-- ITS FALSE NEIGHBOUR: 'it returns false'. Refute it at one input. -/
def fanWaysWrong : ChangeSpec := { name := "fanWays", fn := fun _ => fun
  | [d1, d2, d3, d4] => { results := [.lit (.bool false)], args := [d1, d2, d3, d4] }
  | _ => none }
def FanWaysWrongFalsely : Prop := fanWaysRow.holds Try.pinned (OpenSpec.ofChange fanWaysWrong)

/-- 'sluicegatelaw12.FanOne': WHATEVER THE INPUT: true; the input reads as it did. -/
def fanOneSpec : ChangeSpec := { name := "fanOne", fn := fun _ => fun
  | [d1, d2, d3] => { results := [.lit (.bool true)], args := [d1, d2, d3] }
  | _ => none }
def fanOneRow : OpenClaim := { program := "ytelieidgolfboaa", sum := "cae287ab37fc3d34fd1be139119b0790f33338ba51cdc25075601586033560ac", func := "sluicegate/sluicegatelaw12.FanOne", spec := "fanOne", inPlace := ["internal/bytealg.abigen_runtime_cmpstring"], unfollowed := true, recurses := true, apart := false }
def FanOneSaid : Prop := fanOneRow.holds Try.pinned (OpenSpec.ofChange fanOneSpec)

/-- ITS FALSE NEIGHBOUR: 'it returns false'. Refute it at one input. -/
def fanOneWrong : ChangeSpec := { name := "fanOne", fn := fun _ => fun
  | [d1, d2, d3] => { results := [.lit (.bool false)], args := [d1, d2, d3] }
  | _ => none }
def FanOneWrongFalsely : Prop := fanOneRow.holds Try.pinned (OpenSpec.ofChange fanOneWrong)

/-- 'sluicegatelaw10.BufParts': WHATEVER THE INPUT: true; the input reads as it did. -/
def bufPartsSpec : ChangeSpec := { name := "bufParts", fn := fun _ => fun
  | [d1, d2, d3] => { results := [.lit (.bool true)], args := [d1, d2, d3] }
  | _ => none }
def bufPartsRow : OpenClaim := { program := "ytelieidgolfboaa", sum := "cae287ab37fc3d34fd1be139119b0790f33338ba51cdc25075601586033560ac", func := "sluicegate/sluicegatelaw10.BufParts", spec := "bufParts", inPlace := ["internal/bytealg.abigen_runtime_cmpstring"], unfollowed := true, recurses := true, apart := false }
def BufPartsSaid : Prop := bufPartsRow.holds Try.pinned (OpenSpec.ofChange bufPartsSpec)

/-- ITS FALSE NEIGHBOUR: 'it returns false'. Refute it at one input. -/
def bufPartsWrong : ChangeSpec := { name := "bufParts", fn := fun _ => fun
  | [d1, d2, d3] => { results := [.lit (.bool false)], args := [d1, d2, d3] }
  | _ => none }
def BufPartsWrongFalsely : Prop := bufPartsRow.holds Try.pinned (OpenSpec.ofChange bufPartsWrong)

/-- 'sluicegatelaw10.BufPuts': WHATEVER THE INPUT: true; the input reads as it did. -/
def bufPutsSpec : ChangeSpec := { name := "bufPuts", fn := fun _ => fun
  | [d1, d2, d3] => { results := [.lit (.bool true)], args := [d1, d2, d3] }
  | _ => none }
def bufPutsRow : OpenClaim := { program := "ytelieidgolfboaa", sum := "cae287ab37fc3d34fd1be139119b0790f33338ba51cdc25075601586033560ac", func := "sluicegate/sluicegatelaw10.BufPuts", spec := "bufPuts", inPlace := ["internal/bytealg.abigen_runtime_cmpstring", "slices.overlaps[sluicegate/api.Msg]"], unfollowed := true, recurses := true, apart := false }
def BufPutsSaid : Prop := bufPutsRow.holds Try.pinned (OpenSpec.ofChange bufPutsSpec)

/-- ITS FALSE NEIGHBOUR: 'it returns false'. Refute it at one input. -/
def bufPutsWrong : ChangeSpec := { name := "bufPuts", fn := fun _ => fun
  | [d1, d2, d3] => { results := [.lit (.bool false)], args := [d1, d2, d3] }
  | _ => none }
def BufPutsWrongFalsely : Prop := bufPutsRow.holds Try.pinned (OpenSpec.ofChange bufPutsWrong)

/-- 'sluicegatelaw10.BufWhole': WHATEVER THE INPUT: true; the input reads as it did. -/
def bufWholeSpec : ChangeSpec := { name := "bufWhole", fn := fun _ => fun
  | [d1, d2, d3, d4] => { results := [.lit (.bool true)], args := [d1, d2, d3, d4] }
  | _ => none }
def bufWholeRow : OpenClaim := { program := "ytelieidgolfboaa", sum := "cae287ab37fc3d34fd1be139119b0790f33338ba51cdc25075601586033560ac", func := "sluicegate/sluicegatelaw10.BufWhole", spec := "bufWhole", inPlace := ["internal/bytealg.abigen_runtime_cmpstring", "slices.overlaps[sluicegate/api.Msg]"], unfollowed := true, recurses := true, apart := false }
def BufWholeSaid : Prop := bufWholeRow.holds Try.pinned (OpenSpec.ofChange bufWholeSpec)

/-- ITS FALSE NEIGHBOUR: 'it returns false'. Refute it at one input. -/
def bufWholeWrong : ChangeSpec := { name := "bufWhole", fn := fun _ => fun
  | [d1, d2, d3, d4] => { results := [.lit (.bool false)], args := [d1, d2, d3, d4] }
  | _ => none }
def BufWholeWrongFalsely : Prop := bufWholeRow.holds Try.pinned (OpenSpec.ofChange bufWholeWrong)

/- THE SECOND FORM. 'bulk': how many values and letters a reading holds, each counted each time it is reached (what is shared counts as often as it is met; a slice's spare places count too). A statement '..UptoSaid' is the law's where the arguments, and the package variables that the reading takes, are together of bulk at most 1048576: NARROWER than '..Said'. Prove '..Said' where nothing that the law and all that it calls make is longer than what came in: it says more and counts as full. Else prove '..UptoSaid'. A law counts once. -/
mutual
def uptoBulk {H : Type} : DataW H → Nat
  | .lit (.string bytes) => bytes.length + 1
  | .lit _ => 1
  | .nil => 1
  | .ptr d => uptoBulk d + 1
  | .slice elems spare => uptoBulkAll elems + uptoBulkAll spare + 1
  | .agg parts => uptoBulkAll parts + 1
  | .iface _ d => uptoBulk d + 1
  | .map entries => uptoBulkEntries entries + 1
  | .held _ => 1
def uptoBulkAll {H : Type} : List (DataW H) → Nat
  | [] => 0
  | d :: r => uptoBulk d + uptoBulkAll r
def uptoBulkEntries {H : Type} : List (Lit × DataW H) → Nat
  | [] => 0
  | x :: r => uptoBulkEntry x + uptoBulkEntries r
def uptoBulkEntry {H : Type} : Lit × DataW H → Nat
  | (.string bytes, d) => bytes.length + uptoBulk d + 1
  | (_, d) => uptoBulk d + 1
 end
def uptoSmall : (H : Type) → List (DataW H) → Bool := fun _ ds => decide (uptoBulkAll ds ≤ 1048576)
def OpenSpec.upto (s : _root_.Go.ChangeSpec) : _root_.Go.OpenSpec := { _root_.Go.OpenSpec.ofChange s with cond := some uptoSmall }

/-- 'sluicegatelaw01.LexSpans', WHERE WHAT IT READS IS OF BULK AT MOST 1048576: true; the input reads as it did. -/
def lexSpansUptoRow : OpenClaim := { program := "ytelieidgolfboaa", sum := "cae287ab37fc3d34fd1be139119b0790f33338ba51cdc25075601586033560ac", func := "sluicegate/sluicegatelaw01.LexSpans", spec := "lexSpans", apart := false, narrowed := true }
def LexSpansUptoSaid : Prop := lexSpansUptoRow.holds Try.pinned (OpenSpec.upto lexSpansSpec)

/-- 'sluicegatelaw01.LexMeets', WHERE WHAT IT READS IS OF BULK AT MOST 1048576: true; the input reads as it did. -/
def lexMeetsUptoRow : OpenClaim := { program := "ytelieidgolfboaa", sum := "cae287ab37fc3d34fd1be139119b0790f33338ba51cdc25075601586033560ac", func := "sluicegate/sluicegatelaw01.LexMeets", spec := "lexMeets", apart := false, narrowed := true }
def LexMeetsUptoSaid : Prop := lexMeetsUptoRow.holds Try.pinned (OpenSpec.upto lexMeetsSpec)

/-- 'sluicegatelaw01.LexCompares', WHERE WHAT IT READS IS OF BULK AT MOST 1048576: true; the input reads as it did. -/
def lexComparesUptoRow : OpenClaim := { program := "ytelieidgolfboaa", sum := "cae287ab37fc3d34fd1be139119b0790f33338ba51cdc25075601586033560ac", func := "sluicegate/sluicegatelaw01.LexCompares", spec := "lexCompares", inPlace := ["internal/bytealg.abigen_runtime_cmpstring"], apart := false, narrowed := true }
def LexComparesUptoSaid : Prop := lexComparesUptoRow.holds Try.pinned (OpenSpec.upto lexComparesSpec)

/-- 'sluicegatelaw01.LexRow', WHERE WHAT IT READS IS OF BULK AT MOST 1048576: true; the input reads as it did. -/
def lexRowUptoRow : OpenClaim := { program := "ytelieidgolfboaa", sum := "cae287ab37fc3d34fd1be139119b0790f33338ba51cdc25075601586033560ac", func := "sluicegate/sluicegatelaw01.LexRow", spec := "lexRow", inPlace := ["internal/bytealg.abigen_runtime_cmpstring"], apart := false, narrowed := true }
def LexRowUptoSaid : Prop := lexRowUptoRow.holds Try.pinned (OpenSpec.upto lexRowSpec)

/-- 'sluicegatelaw10.BufRights', WHERE WHAT IT READS IS OF BULK AT MOST 1048576: true; the input reads as it did. -/
def bufRightsUptoRow : OpenClaim := { program := "ytelieidgolfboaa", sum := "cae287ab37fc3d34fd1be139119b0790f33338ba51cdc25075601586033560ac", func := "sluicegate/sluicegatelaw10.BufRights", spec := "bufRights", inPlace := ["internal/bytealg.abigen_runtime_cmpstring"], apart := false, narrowed := true }
def BufRightsUptoSaid : Prop := bufRightsUptoRow.holds Try.pinned (OpenSpec.upto bufRightsSpec)

/-- 'sluicegatelaw12.FanWays', WHERE WHAT IT READS IS OF BULK AT MOST 1048576: true; the input reads as it did. -/
def fanWaysUptoRow : OpenClaim := { program := "ytelieidgolfboaa", sum := "cae287ab37fc3d34fd1be139119b0790f33338ba51cdc25075601586033560ac", func := "sluicegate/sluicegatelaw12.FanWays", spec := "fanWays", inPlace := ["internal/bytealg.abigen_runtime_cmpstring"], unfollowed := true, recurses := true, apart := false, narrowed := true }
def FanWaysUptoSaid : Prop := fanWaysUptoRow.holds Try.pinned (OpenSpec.upto fanWaysSpec)

/-- 'sluicegatelaw12.FanOne', WHERE WHAT IT READS IS OF BULK AT MOST 1048576: true; the input reads as it did. -/
def fanOneUptoRow : OpenClaim := { program := "ytelieidgolfboaa", sum := "cae287ab37fc3d34fd1be139119b0790f33338ba51cdc25075601586033560ac", func := "sluicegate/sluicegatelaw12.FanOne", spec := "fanOne", inPlace := ["internal/bytealg.abigen_runtime_cmpstring"], unfollowed := true, recurses := true, apart := false, narrowed := true }
def FanOneUptoSaid : Prop := fanOneUptoRow.holds Try.pinned (OpenSpec.upto fanOneSpec)

/-- 'sluicegatelaw10.BufParts', WHERE WHAT IT READS IS OF BULK AT MOST 1048576: true; the input reads as it did. -/
def bufPartsUptoRow : OpenClaim := { program := "ytelieidgolfboaa", sum := "cae287ab37fc3d34fd1be139119b0790f33338ba51cdc25075601586033560ac", func := "sluicegate/sluicegatelaw10.BufParts", spec := "bufParts", inPlace := ["internal/bytealg.abigen_runtime_cmpstring"], unfollowed := true, recurses := true, apart := false, narrowed := true }
def BufPartsUptoSaid : Prop := bufPartsUptoRow.holds Try.pinned (OpenSpec.upto bufPartsSpec)

/-- 'sluicegatelaw10.BufPuts', WHERE WHAT IT READS IS OF BULK AT MOST 1048576: true; the input reads as it did. -/
def bufPutsUptoRow : OpenClaim := { program := "ytelieidgolfboaa", sum := "cae287ab37fc3d34fd1be139119b0790f33338ba51cdc25075601586033560ac", func := "sluicegate/sluicegatelaw10.BufPuts", spec := "bufPuts", inPlace := ["internal/bytealg.abigen_runtime_cmpstring", "slices.overlaps[sluicegate/api.Msg]"], unfollowed := true, recurses := true, apart := false, narrowed := true }
def BufPutsUptoSaid : Prop := bufPutsUptoRow.holds Try.pinned (OpenSpec.upto bufPutsSpec)

/-- 'sluicegatelaw10.BufWhole', WHERE WHAT IT READS IS OF BULK AT MOST 1048576: true; the input reads as it did. -/
def bufWholeUptoRow : OpenClaim := { program := "ytelieidgolfboaa", sum := "cae287ab37fc3d34fd1be139119b0790f33338ba51cdc25075601586033560ac", func := "sluicegate/sluicegatelaw10.BufWhole", spec := "bufWhole", inPlace := ["internal/bytealg.abigen_runtime_cmpstring", "slices.overlaps[sluicegate/api.Msg]"], unfollowed := true, recurses := true, apart := false, narrowed := true }
def BufWholeUptoSaid : Prop := bufWholeUptoRow.holds Try.pinned (OpenSpec.upto bufWholeSpec)

end Rows
end Go.Proofs.Ytelieidgolfboaa
