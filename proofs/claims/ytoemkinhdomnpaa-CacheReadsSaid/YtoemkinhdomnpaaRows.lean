/-
  No cell of these rows narrows 'for every input' (looked for: loops, veiled, ifaces, maps, wideKeys, modest, calm, conditions, laid).
  DERIVED. THE GIVEN ROWS OF THIS SEAT. 12 by the template 'for every input the law returns true; each argument reads behind the call as it read before'; 0 by the template 'total and deterministic' (their statements: YtoemkinhdomnpaaTotals.lean).
  GIVEN WITH THE SEED: the statements are not yours to turn. If you find one false, say at which input.
  Laid BY PROGRAM, IN A SANDBOX (cutbox-rows.mjs): the forced cells as the released guide's own fill.sh prints them over the translation 41163b9d6f76f343… (all of the seat's roots in one cut). By AI agents, Wed Nov 11 2026. No macro, syntax, notation, axiom, sorry.
-/
import Derived.Test.YtoemkinhdomnpaaChecked
import GoSem.Claim
import GoSem.ClaimJoined
import GoSem.ClaimMapViews
import Derived.JoinedTies
import Derived.KernelRfl
namespace Go.Proofs.Ytoemkinhdomnpaa
/- THE CELL 'sum', in the pinned program and in every row, IS THE sha256 OF THE DUMP (.gsa) THAT YtoemkinhdomnpaaProg.lean LOADS. Nothing in Lean hashes anything: it is a label: what it is worth is what the hold of that sum in a sandbox is worth. -/
noncomputable def Try.pinned : Pinned := { name := "ytoemkinhdomnpaa", sum := "41163b9d6f76f34365708b03a8b928db94828867c435599d54d3ef9ac134ad8a", checked := Try.checked }
namespace Rows
def none {H : Type} : Left H := { results := [], args := [] }

/-- 'sluicegatelaw06.DevWrites': WHATEVER THE INPUT: true; the input reads as it did. -/
def devWritesSpec : ChangeSpec := { name := "devWrites", fn := fun _ => fun
  | [d1, d2] => { results := [.lit (.bool true)], args := [d1, d2] }
  | _ => none }
def devWritesRow : OpenClaim := { program := "ytoemkinhdomnpaa", sum := "41163b9d6f76f34365708b03a8b928db94828867c435599d54d3ef9ac134ad8a", func := "sluicegate/sluicegatelaw06.DevWrites", spec := "devWrites", apart := false }
def DevWritesSaid : Prop := devWritesRow.holds Try.pinned (OpenSpec.ofChange devWritesSpec)

/-- ITS FALSE NEIGHBOUR: 'it returns false'. Refute it at one input. -/
def devWritesWrong : ChangeSpec := { name := "devWrites", fn := fun _ => fun
  | [d1, d2] => { results := [.lit (.bool false)], args := [d1, d2] }
  | _ => none }
def DevWritesWrongFalsely : Prop := devWritesRow.holds Try.pinned (OpenSpec.ofChange devWritesWrong)

/-- 'sluicegatelaw06.DevFrom': WHATEVER THE INPUT: true; the input reads as it did. -/
def devFromSpec : ChangeSpec := { name := "devFrom", fn := fun _ => fun
  | [d1, d2, d3] => { results := [.lit (.bool true)], args := [d1, d2, d3] }
  | _ => none }
def devFromRow : OpenClaim := { program := "ytoemkinhdomnpaa", sum := "41163b9d6f76f34365708b03a8b928db94828867c435599d54d3ef9ac134ad8a", func := "sluicegate/sluicegatelaw06.DevFrom", spec := "devFrom", apart := false }
def DevFromSaid : Prop := devFromRow.holds Try.pinned (OpenSpec.ofChange devFromSpec)

/-- ITS FALSE NEIGHBOUR: 'it returns false'. Refute it at one input. -/
def devFromWrong : ChangeSpec := { name := "devFrom", fn := fun _ => fun
  | [d1, d2, d3] => { results := [.lit (.bool false)], args := [d1, d2, d3] }
  | _ => none }
def DevFromWrongFalsely : Prop := devFromRow.holds Try.pinned (OpenSpec.ofChange devFromWrong)

/-- 'sluicegatelaw06.DevNobody': WHATEVER THE INPUT: true; the input reads as it did. -/
def devNobodySpec : ChangeSpec := { name := "devNobody", fn := fun _ => fun
  | [d1, d2] => { results := [.lit (.bool true)], args := [d1, d2] }
  | _ => none }
def devNobodyRow : OpenClaim := { program := "ytoemkinhdomnpaa", sum := "41163b9d6f76f34365708b03a8b928db94828867c435599d54d3ef9ac134ad8a", func := "sluicegate/sluicegatelaw06.DevNobody", spec := "devNobody", apart := false }
def DevNobodySaid : Prop := devNobodyRow.holds Try.pinned (OpenSpec.ofChange devNobodySpec)

/-- ITS FALSE NEIGHBOUR: 'it returns false'. Refute it at one input. -/
def devNobodyWrong : ChangeSpec := { name := "devNobody", fn := fun _ => fun
  | [d1, d2] => { results := [.lit (.bool false)], args := [d1, d2] }
  | _ => none }
def DevNobodyWrongFalsely : Prop := devNobodyRow.holds Try.pinned (OpenSpec.ofChange devNobodyWrong)

/-- 'sluicegatelaw06.DevPlays': WHATEVER THE INPUT: true; the input reads as it did. -/
def devPlaysSpec : ChangeSpec := { name := "devPlays", fn := fun _ => fun
  | [d1, d2, d3] => { results := [.lit (.bool true)], args := [d1, d2, d3] }
  | _ => none }
def devPlaysRow : OpenClaim := { program := "ytoemkinhdomnpaa", sum := "41163b9d6f76f34365708b03a8b928db94828867c435599d54d3ef9ac134ad8a", func := "sluicegate/sluicegatelaw06.DevPlays", spec := "devPlays", apart := false }
def DevPlaysSaid : Prop := devPlaysRow.holds Try.pinned (OpenSpec.ofChange devPlaysSpec)

/-- ITS FALSE NEIGHBOUR: 'it returns false'. Refute it at one input. -/
def devPlaysWrong : ChangeSpec := { name := "devPlays", fn := fun _ => fun
  | [d1, d2, d3] => { results := [.lit (.bool false)], args := [d1, d2, d3] }
  | _ => none }
def DevPlaysWrongFalsely : Prop := devPlaysRow.holds Try.pinned (OpenSpec.ofChange devPlaysWrong)

/-- 'sluicegatelaw28.TruthAsks': WHATEVER THE INPUT: true; the input reads as it did. -/
def truthAsksSpec : ChangeSpec := { name := "truthAsks", fn := fun _ => fun
  | [d1, d2, d3] => { results := [.lit (.bool true)], args := [d1, d2, d3] }
  | _ => none }
def truthAsksRow : OpenClaim := { program := "ytoemkinhdomnpaa", sum := "41163b9d6f76f34365708b03a8b928db94828867c435599d54d3ef9ac134ad8a", func := "sluicegate/sluicegatelaw28.TruthAsks", spec := "truthAsks", inPlace := ["internal/bytealg.abigen_runtime_cmpstring", "slices.overlaps[sluicegate/api.Pair]"], unfollowed := true, recurses := true, apart := false }
def TruthAsksSaid : Prop := truthAsksRow.holds Try.pinned (OpenSpec.ofChange truthAsksSpec)

/-- ITS FALSE NEIGHBOUR: 'it returns false'. Refute it at one input. -/
def truthAsksWrong : ChangeSpec := { name := "truthAsks", fn := fun _ => fun
  | [d1, d2, d3] => { results := [.lit (.bool false)], args := [d1, d2, d3] }
  | _ => none }
def TruthAsksWrongFalsely : Prop := truthAsksRow.holds Try.pinned (OpenSpec.ofChange truthAsksWrong)

/-- 'sluicegatelaw28.TruthSame': WHATEVER THE INPUT: true; the input reads as it did. -/
def truthSameSpec : ChangeSpec := { name := "truthSame", fn := fun _ => fun
  | [d1, d2, d3] => { results := [.lit (.bool true)], args := [d1, d2, d3] }
  | _ => none }
def truthSameRow : OpenClaim := { program := "ytoemkinhdomnpaa", sum := "41163b9d6f76f34365708b03a8b928db94828867c435599d54d3ef9ac134ad8a", func := "sluicegate/sluicegatelaw28.TruthSame", spec := "truthSame", inPlace := ["internal/bytealg.abigen_runtime_cmpstring", "slices.overlaps[sluicegate/api.Pair]"], unfollowed := true, recurses := true, apart := false }
def TruthSameSaid : Prop := truthSameRow.holds Try.pinned (OpenSpec.ofChange truthSameSpec)

/-- ITS FALSE NEIGHBOUR: 'it returns false'. Refute it at one input. -/
def truthSameWrong : ChangeSpec := { name := "truthSame", fn := fun _ => fun
  | [d1, d2, d3] => { results := [.lit (.bool false)], args := [d1, d2, d3] }
  | _ => none }
def TruthSameWrongFalsely : Prop := truthSameRow.holds Try.pinned (OpenSpec.ofChange truthSameWrong)

/-- 'sluicegatelaw15.PourMoves': WHATEVER THE INPUT: true; the input reads as it did. -/
def pourMovesSpec : ChangeSpec := { name := "pourMoves", fn := fun _ => fun
  | [d1, d2, d3, d4, d5] => { results := [.lit (.bool true)], args := [d1, d2, d3, d4, d5] }
  | _ => none }
def pourMovesRow : OpenClaim := { program := "ytoemkinhdomnpaa", sum := "41163b9d6f76f34365708b03a8b928db94828867c435599d54d3ef9ac134ad8a", func := "sluicegate/sluicegatelaw15.PourMoves", spec := "pourMoves", inPlace := ["internal/bytealg.abigen_runtime_cmpstring", "slices.overlaps[sluicegate/api.Pair]"], unfollowed := true, recurses := true, apart := false }
def PourMovesSaid : Prop := pourMovesRow.holds Try.pinned (OpenSpec.ofChange pourMovesSpec)

/-- ITS FALSE NEIGHBOUR: 'it returns false'. Refute it at one input. -/
def pourMovesWrong : ChangeSpec := { name := "pourMoves", fn := fun _ => fun
  | [d1, d2, d3, d4, d5] => { results := [.lit (.bool false)], args := [d1, d2, d3, d4, d5] }
  | _ => none }
def PourMovesWrongFalsely : Prop := pourMovesRow.holds Try.pinned (OpenSpec.ofChange pourMovesWrong)

/-- 'sluicegatelaw15.PourKeeps': WHATEVER THE INPUT: true; the input reads as it did. -/
def pourKeepsSpec : ChangeSpec := { name := "pourKeeps", fn := fun _ => fun
  | [d1, d2, d3, d4, d5] => { results := [.lit (.bool true)], args := [d1, d2, d3, d4, d5] }
  | _ => none }
def pourKeepsRow : OpenClaim := { program := "ytoemkinhdomnpaa", sum := "41163b9d6f76f34365708b03a8b928db94828867c435599d54d3ef9ac134ad8a", func := "sluicegate/sluicegatelaw15.PourKeeps", spec := "pourKeeps", inPlace := ["internal/bytealg.abigen_runtime_cmpstring", "slices.overlaps[sluicegate/api.Pair]"], unfollowed := true, recurses := true, apart := false }
def PourKeepsSaid : Prop := pourKeepsRow.holds Try.pinned (OpenSpec.ofChange pourKeepsSpec)

/-- ITS FALSE NEIGHBOUR: 'it returns false'. Refute it at one input. -/
def pourKeepsWrong : ChangeSpec := { name := "pourKeeps", fn := fun _ => fun
  | [d1, d2, d3, d4, d5] => { results := [.lit (.bool false)], args := [d1, d2, d3, d4, d5] }
  | _ => none }
def PourKeepsWrongFalsely : Prop := pourKeepsRow.holds Try.pinned (OpenSpec.ofChange pourKeepsWrong)

/-- 'sluicegatelaw08.CacheCosts': WHATEVER THE INPUT: true; the input reads as it did. -/
def cacheCostsSpec : ChangeSpec := { name := "cacheCosts", fn := fun _ => fun
  | [d1, d2] => { results := [.lit (.bool true)], args := [d1, d2] }
  | _ => none }
def cacheCostsRow : OpenClaim := { program := "ytoemkinhdomnpaa", sum := "41163b9d6f76f34365708b03a8b928db94828867c435599d54d3ef9ac134ad8a", func := "sluicegate/sluicegatelaw08.CacheCosts", spec := "cacheCosts", unfollowed := true, recurses := true, apart := false }
def CacheCostsSaid : Prop := cacheCostsRow.holds Try.pinned (OpenSpec.ofChange cacheCostsSpec)

/-- ITS FALSE NEIGHBOUR: 'it returns false'. Refute it at one input. -/
def cacheCostsWrong : ChangeSpec := { name := "cacheCosts", fn := fun _ => fun
  | [d1, d2] => { results := [.lit (.bool false)], args := [d1, d2] }
  | _ => none }
def CacheCostsWrongFalsely : Prop := cacheCostsRow.holds Try.pinned (OpenSpec.ofChange cacheCostsWrong)

/-- 'sluicegatelaw08.CacheReads': WHATEVER THE INPUT: true; the input reads as it did. -/
def cacheReadsSpec : ChangeSpec := { name := "cacheReads", fn := fun _ => fun
  | [d1, d2, d3] => { results := [.lit (.bool true)], args := [d1, d2, d3] }
  | _ => none }
def cacheReadsRow : OpenClaim := { program := "ytoemkinhdomnpaa", sum := "41163b9d6f76f34365708b03a8b928db94828867c435599d54d3ef9ac134ad8a", func := "sluicegate/sluicegatelaw08.CacheReads", spec := "cacheReads", unfollowed := true, recurses := true, apart := false }
def CacheReadsSaid : Prop := cacheReadsRow.holds Try.pinned (OpenSpec.ofChange cacheReadsSpec)

/-- ITS FALSE NEIGHBOUR: 'it returns false'. Refute it at one input. -/
def cacheReadsWrong : ChangeSpec := { name := "cacheReads", fn := fun _ => fun
  | [d1, d2, d3] => { results := [.lit (.bool false)], args := [d1, d2, d3] }
  | _ => none }
def CacheReadsWrongFalsely : Prop := cacheReadsRow.holds Try.pinned (OpenSpec.ofChange cacheReadsWrong)

/-- 'sluicegatelaw08.CacheNobody': WHATEVER THE INPUT: true; the input reads as it did. -/
def cacheNobodySpec : ChangeSpec := { name := "cacheNobody", fn := fun _ => fun
  | [d1, d2, d3] => { results := [.lit (.bool true)], args := [d1, d2, d3] }
  | _ => none }
def cacheNobodyRow : OpenClaim := { program := "ytoemkinhdomnpaa", sum := "41163b9d6f76f34365708b03a8b928db94828867c435599d54d3ef9ac134ad8a", func := "sluicegate/sluicegatelaw08.CacheNobody", spec := "cacheNobody", unfollowed := true, recurses := true, apart := false }
def CacheNobodySaid : Prop := cacheNobodyRow.holds Try.pinned (OpenSpec.ofChange cacheNobodySpec)

/-- ITS FALSE NEIGHBOUR: 'it returns false'. Refute it at one input. -/
def cacheNobodyWrong : ChangeSpec := { name := "cacheNobody", fn := fun _ => fun
  | [d1, d2, d3] => { results := [.lit (.bool false)], args := [d1, d2, d3] }
  | _ => none }
def CacheNobodyWrongFalsely : Prop := cacheNobodyRow.holds Try.pinned (OpenSpec.ofChange cacheNobodyWrong)

/-- 'sluicegatelaw08.CachePlays': WHATEVER THE INPUT: true; the input reads as it did. -/
def cachePlaysSpec : ChangeSpec := { name := "cachePlays", fn := fun _ => fun
  | [d1, d2, d3, d4] => { results := [.lit (.bool true)], args := [d1, d2, d3, d4] }
  | _ => none }
def cachePlaysRow : OpenClaim := { program := "ytoemkinhdomnpaa", sum := "41163b9d6f76f34365708b03a8b928db94828867c435599d54d3ef9ac134ad8a", func := "sluicegate/sluicegatelaw08.CachePlays", spec := "cachePlays", unfollowed := true, recurses := true, apart := false }
def CachePlaysSaid : Prop := cachePlaysRow.holds Try.pinned (OpenSpec.ofChange cachePlaysSpec)

/-- ITS FALSE NEIGHBOUR: 'it returns false'. Refute it at one input. -/
def cachePlaysWrong : ChangeSpec := { name := "cachePlays", fn := fun _ => fun
  | [d1, d2, d3, d4] => { results := [.lit (.bool false)], args := [d1, d2, d3, d4] }
  | _ => none }
def CachePlaysWrongFalsely : Prop := cachePlaysRow.holds Try.pinned (OpenSpec.ofChange cachePlaysWrong)

/- THE SECOND FORM. 'bulk': how many values and letters a reading holds, each counted each time it is reached (what is shared counts as often as it is met; a slice's spare places count too). A statement '..UptoSaid' is the law's where the arguments, and the package variables that the reading takes, are together of bulk at most 1048576: NARROWER than '..Said'. Prove '..Said' where nothing that the law and all that it calls make is longer than what came in: it says more and counts as full. Else prove '..UptoSaid'. A law counts once. -/
mutual
def uptoBulk {H : Type} : DataW H → Nat
  | .lit (.string bytes) => bytes.length + 1
  | .lit _ => 1
  | .nil => 1
  | .ptr d => uptoBulk d + 1
  | .slice elems spare => uptoBulkAll elems + uptoBulkAll spare + 1
  | .agg parts => uptoBulkAll parts + 1
  | .iface _ d => uptoBulk d + 1
  | .map entries => uptoBulkEntries entries + 1
  | .held _ => 1
def uptoBulkAll {H : Type} : List (DataW H) → Nat
  | [] => 0
  | d :: r => uptoBulk d + uptoBulkAll r
def uptoBulkEntries {H : Type} : List (Lit × DataW H) → Nat
  | [] => 0
  | x :: r => uptoBulkEntry x + uptoBulkEntries r
def uptoBulkEntry {H : Type} : Lit × DataW H → Nat
  | (.string bytes, d) => bytes.length + uptoBulk d + 1
  | (_, d) => uptoBulk d + 1
 end
def uptoSmall : (H : Type) → List (DataW H) → Bool := fun _ ds => decide (uptoBulkAll ds ≤ 1048576)
def OpenSpec.upto (s : _root_.Go.ChangeSpec) : _root_.Go.OpenSpec := { _root_.Go.OpenSpec.ofChange s with cond := some uptoSmall }

/-- 'sluicegatelaw06.DevWrites', WHERE WHAT IT READS IS OF BULK AT MOST 1048576: true; the input reads as it did. -/
def devWritesUptoRow : OpenClaim := { program := "ytoemkinhdomnpaa", sum := "41163b9d6f76f34365708b03a8b928db94828867c435599d54d3ef9ac134ad8a", func := "sluicegate/sluicegatelaw06.DevWrites", spec := "devWrites", apart := false, narrowed := true }
def DevWritesUptoSaid : Prop := devWritesUptoRow.holds Try.pinned (OpenSpec.upto devWritesSpec)

/-- 'sluicegatelaw06.DevFrom', WHERE WHAT IT READS IS OF BULK AT MOST 1048576: true; the input reads as it did. -/
def devFromUptoRow : OpenClaim := { program := "ytoemkinhdomnpaa", sum := "41163b9d6f76f34365708b03a8b928db94828867c435599d54d3ef9ac134ad8a", func := "sluicegate/sluicegatelaw06.DevFrom", spec := "devFrom", apart := false, narrowed := true }
def DevFromUptoSaid : Prop := devFromUptoRow.holds Try.pinned (OpenSpec.upto devFromSpec)

/-- 'sluicegatelaw06.DevNobody', WHERE WHAT IT READS IS OF BULK AT MOST 1048576: true; the input reads as it did. -/
def devNobodyUptoRow : OpenClaim := { program := "ytoemkinhdomnpaa", sum := "41163b9d6f76f34365708b03a8b928db94828867c435599d54d3ef9ac134ad8a", func := "sluicegate/sluicegatelaw06.DevNobody", spec := "devNobody", apart := false, narrowed := true }
def DevNobodyUptoSaid : Prop := devNobodyUptoRow.holds Try.pinned (OpenSpec.upto devNobodySpec)

/-- 'sluicegatelaw06.DevPlays', WHERE WHAT IT READS IS OF BULK AT MOST 1048576: true; the input reads as it did. -/
def devPlaysUptoRow : OpenClaim := { program := "ytoemkinhdomnpaa", sum := "41163b9d6f76f34365708b03a8b928db94828867c435599d54d3ef9ac134ad8a", func := "sluicegate/sluicegatelaw06.DevPlays", spec := "devPlays", apart := false, narrowed := true }
def DevPlaysUptoSaid : Prop := devPlaysUptoRow.holds Try.pinned (OpenSpec.upto devPlaysSpec)

/-- 'sluicegatelaw28.TruthAsks', WHERE WHAT IT READS IS OF BULK AT MOST 1048576: true; the input reads as it did. -/
def truthAsksUptoRow : OpenClaim := { program := "ytoemkinhdomnpaa", sum := "41163b9d6f76f34365708b03a8b928db94828867c435599d54d3ef9ac134ad8a", func := "sluicegate/sluicegatelaw28.TruthAsks", spec := "truthAsks", inPlace := ["internal/bytealg.abigen_runtime_cmpstring", "slices.overlaps[sluicegate/api.Pair]"], unfollowed := true, recurses := true, apart := false, narrowed := true }
def TruthAsksUptoSaid : Prop := truthAsksUptoRow.holds Try.pinned (OpenSpec.upto truthAsksSpec)

/-- 'sluicegatelaw28.TruthSame', WHERE WHAT IT READS IS OF BULK AT MOST 1048576: true; the input reads as it did. -/
def truthSameUptoRow : OpenClaim := { program := "ytoemkinhdomnpaa", sum := "41163b9d6f76f34365708b03a8b928db94828867c435599d54d3ef9ac134ad8a", func := "sluicegate/sluicegatelaw28.TruthSame", spec := "truthSame", inPlace := ["internal/bytealg.abigen_runtime_cmpstring", "slices.overlaps[sluicegate/api.Pair]"], unfollowed := true, recurses := true, apart := false, narrowed := true }
def TruthSameUptoSaid : Prop := truthSameUptoRow.holds Try.pinned (OpenSpec.upto truthSameSpec)

/-- 'sluicegatelaw15.PourMoves', WHERE WHAT IT READS IS OF BULK AT MOST 1048576: true; the input reads as it did. -/
def pourMovesUptoRow : OpenClaim := { program := "ytoemkinhdomnpaa", sum := "41163b9d6f76f34365708b03a8b928db94828867c435599d54d3ef9ac134ad8a", func := "sluicegate/sluicegatelaw15.PourMoves", spec := "pourMoves", inPlace := ["internal/bytealg.abigen_runtime_cmpstring", "slices.overlaps[sluicegate/api.Pair]"], unfollowed := true, recurses := true, apart := false, narrowed := true }
def PourMovesUptoSaid : Prop := pourMovesUptoRow.holds Try.pinned (OpenSpec.upto pourMovesSpec)

/-- 'sluicegatelaw15.PourKeeps', WHERE WHAT IT READS IS OF BULK AT MOST 1048576: true; the input reads as it did. -/
def pourKeepsUptoRow : OpenClaim := { program := "ytoemkinhdomnpaa", sum := "41163b9d6f76f34365708b03a8b928db94828867c435599d54d3ef9ac134ad8a", func := "sluicegate/sluicegatelaw15.PourKeeps", spec := "pourKeeps", inPlace := ["internal/bytealg.abigen_runtime_cmpstring", "slices.overlaps[sluicegate/api.Pair]"], unfollowed := true, recurses := true, apart := false, narrowed := true }
def PourKeepsUptoSaid : Prop := pourKeepsUptoRow.holds Try.pinned (OpenSpec.upto pourKeepsSpec)

/-- 'sluicegatelaw08.CacheCosts', WHERE WHAT IT READS IS OF BULK AT MOST 1048576: true; the input reads as it did. -/
def cacheCostsUptoRow : OpenClaim := { program := "ytoemkinhdomnpaa", sum := "41163b9d6f76f34365708b03a8b928db94828867c435599d54d3ef9ac134ad8a", func := "sluicegate/sluicegatelaw08.CacheCosts", spec := "cacheCosts", unfollowed := true, recurses := true, apart := false, narrowed := true }
def CacheCostsUptoSaid : Prop := cacheCostsUptoRow.holds Try.pinned (OpenSpec.upto cacheCostsSpec)

/-- 'sluicegatelaw08.CacheReads', WHERE WHAT IT READS IS OF BULK AT MOST 1048576: true; the input reads as it did. -/
def cacheReadsUptoRow : OpenClaim := { program := "ytoemkinhdomnpaa", sum := "41163b9d6f76f34365708b03a8b928db94828867c435599d54d3ef9ac134ad8a", func := "sluicegate/sluicegatelaw08.CacheReads", spec := "cacheReads", unfollowed := true, recurses := true, apart := false, narrowed := true }
def CacheReadsUptoSaid : Prop := cacheReadsUptoRow.holds Try.pinned (OpenSpec.upto cacheReadsSpec)

/-- 'sluicegatelaw08.CacheNobody', WHERE WHAT IT READS IS OF BULK AT MOST 1048576: true; the input reads as it did. -/
def cacheNobodyUptoRow : OpenClaim := { program := "ytoemkinhdomnpaa", sum := "41163b9d6f76f34365708b03a8b928db94828867c435599d54d3ef9ac134ad8a", func := "sluicegate/sluicegatelaw08.CacheNobody", spec := "cacheNobody", unfollowed := true, recurses := true, apart := false, narrowed := true }
def CacheNobodyUptoSaid : Prop := cacheNobodyUptoRow.holds Try.pinned (OpenSpec.upto cacheNobodySpec)

/-- 'sluicegatelaw08.CachePlays', WHERE WHAT IT READS IS OF BULK AT MOST 1048576: true; the input reads as it did. -/
def cachePlaysUptoRow : OpenClaim := { program := "ytoemkinhdomnpaa", sum := "41163b9d6f76f34365708b03a8b928db94828867c435599d54d3ef9ac134ad8a", func := "sluicegate/sluicegatelaw08.CachePlays", spec := "cachePlays", unfollowed := true, recurses := true, apart := false, narrowed := true }
def CachePlaysUptoSaid : Prop := cachePlaysUptoRow.holds Try.pinned (OpenSpec.upto cachePlaysSpec)

end Rows
end Go.Proofs.Ytoemkinhdomnpaa
