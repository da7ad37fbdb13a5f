/-
  No cell of these rows narrows 'for every input' (looked for: loops, veiled, ifaces, maps, wideKeys, modest, calm, conditions, laid).
  DERIVED. THE GIVEN ROWS OF THIS SEAT. 9 by the template 'for every input the law returns true; each argument reads behind the call as it read before'; 0 by the template 'total and deterministic' (their statements: YtjoglkamhjcmhaaTotals.lean).
  GIVEN WITH THE SEED: the statements are not yours to turn. If you find one false, say at which input.
  Laid BY PROGRAM, IN A SANDBOX (cutbox-rows.mjs): the forced cells as the released guide's own fill.sh prints them over the translation a47849868a0f231c… (all of the seat's roots in one cut). By AI agents, Wed Nov 11 2026. No macro, syntax, notation, axiom, sorry.
-/
import Derived.Test.YtjoglkamhjcmhaaChecked
import GoSem.Claim
import GoSem.ClaimJoined
import GoSem.ClaimMapViews
import Derived.JoinedTies
import Derived.KernelRfl
namespace Go.Proofs.Ytjoglkamhjcmhaa
/- THE CELL 'sum', in the pinned program and in every row, IS THE sha256 OF THE DUMP (.gsa) THAT YtjoglkamhjcmhaaProg.lean LOADS. Nothing in Lean hashes anything: it is a label: what it is worth is what the hold of that sum in a sandbox is worth. -/
noncomputable def Try.pinned : Pinned := { name := "ytjoglkamhjcmhaa", sum := "a47849868a0f231c1078b337b1c4a4a8165965081d9fc51d6019f78e1d3826a5", checked := Try.checked }
namespace Rows
def none {H : Type} : Left H := { results := [], args := [] }

/-- 'raddlelaw30.BedAsks': WHATEVER THE INPUT: true; the input reads as it did. -/
def bedAsksSpec : ChangeSpec := { name := "bedAsks", fn := fun _ => fun
  | [d1, d2, d3, d4] => { results := [.lit (.bool true)], args := [d1, d2, d3, d4] }
  | _ => none }
def bedAsksRow : OpenClaim := { program := "ytjoglkamhjcmhaa", sum := "a47849868a0f231c1078b337b1c4a4a8165965081d9fc51d6019f78e1d3826a5", func := "raddle/raddlelaw30.BedAsks", spec := "bedAsks", unfollowed := true, recurses := true, apart := false }
def BedAsksSaid : Prop := bedAsksRow.holds Try.pinned (OpenSpec.ofChange bedAsksSpec)

/-- ITS FALSE NEIGHBOUR: 'it returns false'. Refute it at one input. -/
def bedAsksWrong : ChangeSpec := { name := "bedAsks", fn := fun _ => fun
  | [d1, d2, d3, d4] => { results := [.lit (.bool false)], args := [d1, d2, d3, d4] }
  | _ => none }
def BedAsksWrongFalsely : Prop := bedAsksRow.holds Try.pinned (OpenSpec.ofChange bedAsksWrong)

/-- 'raddlelaw30.BedDoes': WHATEVER THE INPUT: true; the input reads as it did. -/
def bedDoesSpec : ChangeSpec := { name := "bedDoes", fn := fun _ => fun
  | [d1, d2] => { results := [.lit (.bool true)], args := [d1, d2] }
  | _ => none }
def bedDoesRow : OpenClaim := { program := "ytjoglkamhjcmhaa", sum := "a47849868a0f231c1078b337b1c4a4a8165965081d9fc51d6019f78e1d3826a5", func := "raddle/raddlelaw30.BedDoes", spec := "bedDoes", inPlace := ["slices.overlaps[raddle/api.Hook]", "slices.overlaps[raddle/api.Feed]"], unfollowed := true, recurses := true, apart := false }
def BedDoesSaid : Prop := bedDoesRow.holds Try.pinned (OpenSpec.ofChange bedDoesSpec)

/-- ITS FALSE NEIGHBOUR: 'it returns false'. Refute it at one input. -/
def bedDoesWrong : ChangeSpec := { name := "bedDoes", fn := fun _ => fun
  | [d1, d2] => { results := [.lit (.bool false)], args := [d1, d2] }
  | _ => none }
def BedDoesWrongFalsely : Prop := bedDoesRow.holds Try.pinned (OpenSpec.ofChange bedDoesWrong)

/-- 'raddlelaw30.BedRuns': WHATEVER THE INPUT: true; the input reads as it did. -/
def bedRunsSpec : ChangeSpec := { name := "bedRuns", fn := fun _ => fun
  | [d1, d2] => { results := [.lit (.bool true)], args := [d1, d2] }
  | _ => none }
def bedRunsRow : OpenClaim := { program := "ytjoglkamhjcmhaa", sum := "a47849868a0f231c1078b337b1c4a4a8165965081d9fc51d6019f78e1d3826a5", func := "raddle/raddlelaw30.BedRuns", spec := "bedRuns", inPlace := ["slices.overlaps[raddle/api.Hook]", "slices.overlaps[raddle/api.Feed]"], unfollowed := true, recurses := true, apart := false }
def BedRunsSaid : Prop := bedRunsRow.holds Try.pinned (OpenSpec.ofChange bedRunsSpec)

/-- ITS FALSE NEIGHBOUR: 'it returns false'. Refute it at one input. -/
def bedRunsWrong : ChangeSpec := { name := "bedRuns", fn := fun _ => fun
  | [d1, d2] => { results := [.lit (.bool false)], args := [d1, d2] }
  | _ => none }
def BedRunsWrongFalsely : Prop := bedRunsRow.holds Try.pinned (OpenSpec.ofChange bedRunsWrong)

/-- 'raddlelaw30.BedNames': WHATEVER THE INPUT: true; the input reads as it did. -/
def bedNamesSpec : ChangeSpec := { name := "bedNames", fn := fun _ => fun
  | [] => { results := [.lit (.bool true)], args := [] }
  | _ => none }
def bedNamesRow : OpenClaim := { program := "ytjoglkamhjcmhaa", sum := "a47849868a0f231c1078b337b1c4a4a8165965081d9fc51d6019f78e1d3826a5", func := "raddle/raddlelaw30.BedNames", spec := "bedNames", inPlace := ["slices.overlaps[raddle/api.Hook]", "slices.overlaps[raddle/api.Feed]"], unfollowed := true, recurses := true, apart := false }
def BedNamesSaid : Prop := bedNamesRow.holds Try.pinned (OpenSpec.ofChange bedNamesSpec)

/-- ITS FALSE NEIGHBOUR: 'it returns false'. Refute it at one input. -/
def bedNamesWrong : ChangeSpec := { name := "bedNames", fn := fun _ => fun
  | [] => { results := [.lit (.bool false)], args := [] }
  | _ => none }
def BedNamesWrongFalsely : Prop := bedNamesRow.holds Try.pinned (OpenSpec.ofChange bedNamesWrong)

/-- 'raddlelaw30.BedValid': WHATEVER THE INPUT: true; the input reads as it did. -/
def bedValidSpec : ChangeSpec := { name := "bedValid", fn := fun _ => fun
  | [d1, d2] => { results := [.lit (.bool true)], args := [d1, d2] }
  | _ => none }
def bedValidRow : OpenClaim := { program := "ytjoglkamhjcmhaa", sum := "a47849868a0f231c1078b337b1c4a4a8165965081d9fc51d6019f78e1d3826a5", func := "raddle/raddlelaw30.BedValid", spec := "bedValid", inPlace := ["slices.overlaps[raddle/api.Hook]", "slices.overlaps[raddle/api.Feed]"], unfollowed := true, recurses := true, apart := false }
def BedValidSaid : Prop := bedValidRow.holds Try.pinned (OpenSpec.ofChange bedValidSpec)

/-- ITS FALSE NEIGHBOUR: 'it returns false'. Refute it at one input. -/
def bedValidWrong : ChangeSpec := { name := "bedValid", fn := fun _ => fun
  | [d1, d2] => { results := [.lit (.bool false)], args := [d1, d2] }
  | _ => none }
def BedValidWrongFalsely : Prop := bedValidRow.holds Try.pinned (OpenSpec.ofChange bedValidWrong)

/-- 'raddlelaw30.BedLoops': WHATEVER THE INPUT: true; the input reads as it did. -/
def bedLoopsSpec : ChangeSpec := { name := "bedLoops", fn := fun _ => fun
  | [d] => { results := [.lit (.bool true)], args := [d] }
  | _ => none }
def bedLoopsRow : OpenClaim := { program := "ytjoglkamhjcmhaa", sum := "a47849868a0f231c1078b337b1c4a4a8165965081d9fc51d6019f78e1d3826a5", func := "raddle/raddlelaw30.BedLoops", spec := "bedLoops", inPlace := ["slices.overlaps[raddle/api.Hook]", "slices.overlaps[raddle/api.Feed]"], unfollowed := true, recurses := true, apart := false }
def BedLoopsSaid : Prop := bedLoopsRow.holds Try.pinned (OpenSpec.ofChange bedLoopsSpec)

/-- ITS FALSE NEIGHBOUR: 'it returns false'. Refute it at one input. -/
def bedLoopsWrong : ChangeSpec := { name := "bedLoops", fn := fun _ => fun
  | [d] => { results := [.lit (.bool false)], args := [d] }
  | _ => none }
def BedLoopsWrongFalsely : Prop := bedLoopsRow.holds Try.pinned (OpenSpec.ofChange bedLoopsWrong)

/-- 'raddlelaw30.BedBack': WHATEVER THE INPUT: true; the input reads as it did. -/
def bedBackSpec : ChangeSpec := { name := "bedBack", fn := fun _ => fun
  | [d1, d2, d3] => { results := [.lit (.bool true)], args := [d1, d2, d3] }
  | _ => none }
def bedBackRow : OpenClaim := { program := "ytjoglkamhjcmhaa", sum := "a47849868a0f231c1078b337b1c4a4a8165965081d9fc51d6019f78e1d3826a5", func := "raddle/raddlelaw30.BedBack", spec := "bedBack", inPlace := ["slices.overlaps[raddle/api.Hook]", "slices.overlaps[raddle/api.Feed]"], unfollowed := true, recurses := true, apart := false }
def BedBackSaid : Prop := bedBackRow.holds Try.pinned (OpenSpec.ofChange bedBackSpec)

/-- ITS FALSE NEIGHBOUR: 'it returns false'. Refute it at one input. -/
def bedBackWrong : ChangeSpec := { name := "bedBack", fn := fun _ => fun
  | [d1, d2, d3] => { results := [.lit (.bool false)], args := [d1, d2, d3] }
  | _ => none }
def BedBackWrongFalsely : Prop := bedBackRow.holds Try.pinned (OpenSpec.ofChange bedBackWrong)

/-- 'raddlelaw30.BedParts': WHATEVER THE INPUT: true; the input reads as it did. -/
def bedPartsSpec : ChangeSpec := { name := "bedParts", fn := fun _ => fun
  | [d1, d2, d3] => { results := [.lit (.bool true)], args := [d1, d2, d3] }
  | _ => none }
def bedPartsRow : OpenClaim := { program := "ytjoglkamhjcmhaa", sum := "a47849868a0f231c1078b337b1c4a4a8165965081d9fc51d6019f78e1d3826a5", func := "raddle/raddlelaw30.BedParts", spec := "bedParts", inPlace := ["slices.overlaps[raddle/api.Hook]", "slices.overlaps[raddle/api.Feed]"], unfollowed := true, recurses := true, apart := false }
def BedPartsSaid : Prop := bedPartsRow.holds Try.pinned (OpenSpec.ofChange bedPartsSpec)

/-- ITS FALSE NEIGHBOUR: 'it returns false'. Refute it at one input. -/
def bedPartsWrong : ChangeSpec := { name := "bedParts", fn := fun _ => fun
  | [d1, d2, d3] => { results := [.lit (.bool false)], args := [d1, d2, d3] }
  | _ => none }
def BedPartsWrongFalsely : Prop := bedPartsRow.holds Try.pinned (OpenSpec.ofChange bedPartsWrong)

/-- 'raddlelaw30.BedElse': WHATEVER THE INPUT: true; the input reads as it did. -/
def bedElseSpec : ChangeSpec := { name := "bedElse", fn := fun _ => fun
  | [d1, d2, d3, d4] => { results := [.lit (.bool true)], args := [d1, d2, d3, d4] }
  | _ => none }
def bedElseRow : OpenClaim := { program := "ytjoglkamhjcmhaa", sum := "a47849868a0f231c1078b337b1c4a4a8165965081d9fc51d6019f78e1d3826a5", func := "raddle/raddlelaw30.BedElse", spec := "bedElse", inPlace := ["slices.overlaps[raddle/api.Hook]", "slices.overlaps[raddle/api.Feed]"], unfollowed := true, recurses := true, apart := false }
def BedElseSaid : Prop := bedElseRow.holds Try.pinned (OpenSpec.ofChange bedElseSpec)

/-- ITS FALSE NEIGHBOUR: 'it returns false'. Refute it at one input. -/
def bedElseWrong : ChangeSpec := { name := "bedElse", fn := fun _ => fun
  | [d1, d2, d3, d4] => { results := [.lit (.bool false)], args := [d1, d2, d3, d4] }
  | _ => none }
def BedElseWrongFalsely : Prop := bedElseRow.holds Try.pinned (OpenSpec.ofChange bedElseWrong)

/- THE SECOND FORM. 'bulk': how many values and letters a reading holds, each counted each time it is reached (what is shared counts as often as it is met; a slice's spare places count too). A statement '..UptoSaid' is the law's where the arguments, and the package variables that the reading takes, are together of bulk at most 1048576: NARROWER than '..Said'. Prove '..Said' where nothing that the law and all that it calls make is longer than what came in: it says more and counts as full. Else prove '..UptoSaid'. A law counts once. -/
mutual
def uptoBulk {H : Type} : DataW H → Nat
  | .lit (.string bytes) => bytes.length + 1
  | .lit _ => 1
  | .nil => 1
  | .ptr d => uptoBulk d + 1
  | .slice elems spare => uptoBulkAll elems + uptoBulkAll spare + 1
  | .agg parts => uptoBulkAll parts + 1
  | .iface _ d => uptoBulk d + 1
  | .map entries => uptoBulkEntries entries + 1
  | .held _ => 1
def uptoBulkAll {H : Type} : List (DataW H) → Nat
  | [] => 0
  | d :: r => uptoBulk d + uptoBulkAll r
def uptoBulkEntries {H : Type} : List (Lit × DataW H) → Nat
  | [] => 0
  | x :: r => uptoBulkEntry x + uptoBulkEntries r
def uptoBulkEntry {H : Type} : Lit × DataW H → Nat
  | (.string bytes, d) => bytes.length + uptoBulk d + 1
  | (_, d) => uptoBulk d + 1
 end
def uptoSmall : (H : Type) → List (DataW H) → Bool := fun _ ds => decide (uptoBulkAll ds ≤ 1048576)
def OpenSpec.upto (s : _root_.Go.ChangeSpec) : _root_.Go.OpenSpec := { _root_.Go.OpenSpec.ofChange s with cond := some uptoSmall }

/-- 'raddlelaw30.BedAsks', WHERE WHAT IT READS IS OF BULK AT MOST 1048576: true; the input reads as it did. -/
def bedAsksUptoRow : OpenClaim := { program := "ytjoglkamhjcmhaa", sum := "a47849868a0f231c1078b337b1c4a4a8165965081d9fc51d6019f78e1d3826a5", func := "raddle/raddlelaw30.BedAsks", spec := "bedAsks", unfollowed := true, recurses := true, apart := false, narrowed := true }
def BedAsksUptoSaid : Prop := bedAsksUptoRow.holds Try.pinned (OpenSpec.upto bedAsksSpec)

/-- 'raddlelaw30.BedDoes', WHERE WHAT IT READS IS OF BULK AT MOST 1048576: true; the input reads as it did. -/
def bedDoesUptoRow : OpenClaim := { program := "ytjoglkamhjcmhaa", sum := "a47849868a0f231c1078b337b1c4a4a8165965081d9fc51d6019f78e1d3826a5", func := "raddle/raddlelaw30.BedDoes", spec := "bedDoes", inPlace := ["slices.overlaps[raddle/api.Hook]", "slices.overlaps[raddle/api.Feed]"], unfollowed := true, recurses := true, apart := false, narrowed := true }
def BedDoesUptoSaid : Prop := bedDoesUptoRow.holds Try.pinned (OpenSpec.upto bedDoesSpec)

/-- 'raddlelaw30.BedRuns', WHERE WHAT IT READS IS OF BULK AT MOST 1048576: true; the input reads as it did. -/
def bedRunsUptoRow : OpenClaim := { program := "ytjoglkamhjcmhaa", sum := "a47849868a0f231c1078b337b1c4a4a8165965081d9fc51d6019f78e1d3826a5", func := "raddle/raddlelaw30.BedRuns", spec := "bedRuns", inPlace := ["slices.overlaps[raddle/api.Hook]", "slices.overlaps[raddle/api.Feed]"], unfollowed := true, recurses := true, apart := false, narrowed := true }
def BedRunsUptoSaid : Prop := bedRunsUptoRow.holds Try.pinned (OpenSpec.upto bedRunsSpec)

/-- 'raddlelaw30.BedNames', WHERE WHAT IT READS IS OF BULK AT MOST 1048576: true; the input reads as it did. -/
def bedNamesUptoRow : OpenClaim := { program := "ytjoglkamhjcmhaa", sum := "a47849868a0f231c1078b337b1c4a4a8165965081d9fc51d6019f78e1d3826a5", func := "raddle/raddlelaw30.BedNames", spec := "bedNames", inPlace := ["slices.overlaps[raddle/api.Hook]", "slices.overlaps[raddle/api.Feed]"], unfollowed := true, recurses := true, apart := false, narrowed := true }
def BedNamesUptoSaid : Prop := bedNamesUptoRow.holds Try.pinned (OpenSpec.upto bedNamesSpec)

/-- 'raddlelaw30.BedValid', WHERE WHAT IT READS IS OF BULK AT MOST 1048576: true; the input reads as it did. -/
def bedValidUptoRow : OpenClaim := { program := "ytjoglkamhjcmhaa", sum := "a47849868a0f231c1078b337b1c4a4a8165965081d9fc51d6019f78e1d3826a5", func := "raddle/raddlelaw30.BedValid", spec := "bedValid", inPlace := ["slices.overlaps[raddle/api.Hook]", "slices.overlaps[raddle/api.Feed]"], unfollowed := true, recurses := true, apart := false, narrowed := true }
def BedValidUptoSaid : Prop := bedValidUptoRow.holds Try.pinned (OpenSpec.upto bedValidSpec)

/-- 'raddlelaw30.BedLoops', WHERE WHAT IT READS IS OF BULK AT MOST 1048576: true; the input reads as it did. -/
def bedLoopsUptoRow : OpenClaim := { program := "ytjoglkamhjcmhaa", sum := "a47849868a0f231c1078b337b1c4a4a8165965081d9fc51d6019f78e1d3826a5", func := "raddle/raddlelaw30.BedLoops", spec := "bedLoops", inPlace := ["slices.overlaps[raddle/api.Hook]", "slices.overlaps[raddle/api.Feed]"], unfollowed := true, recurses := true, apart := false, narrowed := true }
def BedLoopsUptoSaid : Prop := bedLoopsUptoRow.holds Try.pinned (OpenSpec.upto bedLoopsSpec)

/-- 'raddlelaw30.BedBack', WHERE WHAT IT READS IS OF BULK AT MOST 1048576: true; the input reads as it did. -/
def bedBackUptoRow : OpenClaim := { program := "ytjoglkamhjcmhaa", sum := "a47849868a0f231c1078b337b1c4a4a8165965081d9fc51d6019f78e1d3826a5", func := "raddle/raddlelaw30.BedBack", spec := "bedBack", inPlace := ["slices.overlaps[raddle/api.Hook]", "slices.overlaps[raddle/api.Feed]"], unfollowed := true, recurses := true, apart := false, narrowed := true }
def BedBackUptoSaid : Prop := bedBackUptoRow.holds Try.pinned (OpenSpec.upto bedBackSpec)

/-- 'raddlelaw30.BedParts', WHERE WHAT IT READS IS OF BULK AT MOST 1048576: true; the input reads as it did. -/
def bedPartsUptoRow : OpenClaim := { program := "ytjoglkamhjcmhaa", sum := "a47849868a0f231c1078b337b1c4a4a8165965081d9fc51d6019f78e1d3826a5", func := "raddle/raddlelaw30.BedParts", spec := "bedParts", inPlace := ["slices.overlaps[raddle/api.Hook]", "slices.overlaps[raddle/api.Feed]"], unfollowed := true, recurses := true, apart := false, narrowed := true }
def BedPartsUptoSaid : Prop := bedPartsUptoRow.holds Try.pinned (OpenSpec.upto bedPartsSpec)

/-- 'raddlelaw30.BedElse', WHERE WHAT IT READS IS OF BULK AT MOST 1048576: true; the input reads as it did. -/
def bedElseUptoRow : OpenClaim := { program := "ytjoglkamhjcmhaa", sum := "a47849868a0f231c1078b337b1c4a4a8165965081d9fc51d6019f78e1d3826a5", func := "raddle/raddlelaw30.BedElse", spec := "bedElse", inPlace := ["slices.overlaps[raddle/api.Hook]", "slices.overlaps[raddle/api.Feed]"], unfollowed := true, recurses := true, apart := false, narrowed := true }
def BedElseUptoSaid : Prop := bedElseUptoRow.holds Try.pinned (OpenSpec.upto bedElseSpec)

end Rows
end Go.Proofs.Ytjoglkamhjcmhaa
