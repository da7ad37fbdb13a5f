/-
  No cell of these rows narrows 'for every input' (looked for: loops, veiled, ifaces, maps, wideKeys, modest, calm, conditions, laid).
  DERIVED. THE GIVEN ROWS OF THIS SEAT. 6 by the template 'for every input the law returns true; each argument reads behind the call as it read before'; 0 by the template 'total and deterministic' (their statements: YtbibndpkcilblaaTotals.lean).
  GIVEN WITH THE SEED: the statements are not yours to turn. If you find one false, say at which input.
  Laid BY PROGRAM, IN A SANDBOX (cutbox-rows.mjs): the forced cells as the released guide's own fill.sh prints them over the translation 3298acfd5b50a33f… (all of the seat's roots in one cut). By AI agents, Wed Nov 11 2026. No macro, syntax, notation, axiom, sorry.
-/
import Derived.Test.YtbibndpkcilblaaChecked
import GoSem.Claim
import GoSem.ClaimJoined
import GoSem.ClaimMapViews
import Derived.JoinedTies
import Derived.KernelRfl
namespace Go.Proofs.Ytbibndpkcilblaa
/- THE CELL 'sum', in the pinned program and in every row, IS THE sha256 OF THE DUMP (.gsa) THAT YtbibndpkcilblaaProg.lean LOADS. Nothing in Lean hashes anything: it is a label: what it is worth is what the hold of that sum in a sandbox is worth. -/
noncomputable def Try.pinned : Pinned := { name := "ytbibndpkcilblaa", sum := "3298acfd5b50a33f50739a00331fa757dbab5c7f000e909982c510b76e62a917", checked := Try.checked }
namespace Rows
def none {H : Type} : Left H := { results := [], args := [] }

/-- 'raddlelaw28.LadderRuns': WHATEVER THE INPUT: true; the input reads as it did. -/
def ladderRunsSpec : ChangeSpec := { name := "ladderRuns", fn := fun _ => fun
  | [d1, d2] => { results := [.lit (.bool true)], args := [d1, d2] }
  | _ => none }
def ladderRunsRow : OpenClaim := { program := "ytbibndpkcilblaa", sum := "3298acfd5b50a33f50739a00331fa757dbab5c7f000e909982c510b76e62a917", func := "raddle/raddlelaw28.LadderRuns", spec := "ladderRuns", unfollowed := true, recurses := true, apart := false }
def LadderRunsSaid : Prop := ladderRunsRow.holds Try.pinned (OpenSpec.ofChange ladderRunsSpec)

/-- ITS FALSE NEIGHBOUR: 'it returns false'. Refute it at one input. -/
def ladderRunsWrong : ChangeSpec := { name := "ladderRuns", fn := fun _ => fun
  | [d1, d2] => { results := [.lit (.bool false)], args := [d1, d2] }
  | _ => none }
def LadderRunsWrongFalsely : Prop := ladderRunsRow.holds Try.pinned (OpenSpec.ofChange ladderRunsWrong)

/-- 'raddlelaw28.LadderMore': WHATEVER THE INPUT: true; the input reads as it did. -/
def ladderMoreSpec : ChangeSpec := { name := "ladderMore", fn := fun _ => fun
  | [d1, d2, d3] => { results := [.lit (.bool true)], args := [d1, d2, d3] }
  | _ => none }
def ladderMoreRow : OpenClaim := { program := "ytbibndpkcilblaa", sum := "3298acfd5b50a33f50739a00331fa757dbab5c7f000e909982c510b76e62a917", func := "raddle/raddlelaw28.LadderMore", spec := "ladderMore", unfollowed := true, recurses := true, apart := false }
def LadderMoreSaid : Prop := ladderMoreRow.holds Try.pinned (OpenSpec.ofChange ladderMoreSpec)

/-- ITS FALSE NEIGHBOUR: 'it returns false'. Refute it at one input. -/
def ladderMoreWrong : ChangeSpec := { name := "ladderMore", fn := fun _ => fun
  | [d1, d2, d3] => { results := [.lit (.bool false)], args := [d1, d2, d3] }
  | _ => none }
def LadderMoreWrongFalsely : Prop := ladderMoreRow.holds Try.pinned (OpenSpec.ofChange ladderMoreWrong)

/-- 'raddlelaw28.LadderStops': WHATEVER THE INPUT: true; the input reads as it did. -/
def ladderStopsSpec : ChangeSpec := { name := "ladderStops", fn := fun _ => fun
  | [d1, d2] => { results := [.lit (.bool true)], args := [d1, d2] }
  | _ => none }
def ladderStopsRow : OpenClaim := { program := "ytbibndpkcilblaa", sum := "3298acfd5b50a33f50739a00331fa757dbab5c7f000e909982c510b76e62a917", func := "raddle/raddlelaw28.LadderStops", spec := "ladderStops", unfollowed := true, recurses := true, apart := false }
def LadderStopsSaid : Prop := ladderStopsRow.holds Try.pinned (OpenSpec.ofChange ladderStopsSpec)

/-- ITS FALSE NEIGHBOUR: 'it returns false'. Refute it at one input. -/
def ladderStopsWrong : ChangeSpec := { name := "ladderStops", fn := fun _ => fun
  | [d1, d2] => { results := [.lit (.bool false)], args := [d1, d2] }
  | _ => none }
def LadderStopsWrongFalsely : Prop := ladderStopsRow.holds Try.pinned (OpenSpec.ofChange ladderStopsWrong)

/-- 'raddlelaw28.LadderDepths': WHATEVER THE INPUT: true; the input reads as it did. -/
def ladderDepthsSpec : ChangeSpec := { name := "ladderDepths", fn := fun _ => fun
  | [d1, d2] => { results := [.lit (.bool true)], args := [d1, d2] }
  | _ => none }
def ladderDepthsRow : OpenClaim := { program := "ytbibndpkcilblaa", sum := "3298acfd5b50a33f50739a00331fa757dbab5c7f000e909982c510b76e62a917", func := "raddle/raddlelaw28.LadderDepths", spec := "ladderDepths", unfollowed := true, recurses := true, apart := false }
def LadderDepthsSaid : Prop := ladderDepthsRow.holds Try.pinned (OpenSpec.ofChange ladderDepthsSpec)

/-- ITS FALSE NEIGHBOUR: 'it returns false'. Refute it at one input. -/
def ladderDepthsWrong : ChangeSpec := { name := "ladderDepths", fn := fun _ => fun
  | [d1, d2] => { results := [.lit (.bool false)], args := [d1, d2] }
  | _ => none }
def LadderDepthsWrongFalsely : Prop := ladderDepthsRow.holds Try.pinned (OpenSpec.ofChange ladderDepthsWrong)

/-- 'raddlelaw28.LadderExact': WHATEVER THE INPUT: true; the input reads as it did. -/
def ladderExactSpec : ChangeSpec := { name := "ladderExact", fn := fun _ => fun
  | [d1, d2, d3] => { results := [.lit (.bool true)], args := [d1, d2, d3] }
  | _ => none }
def ladderExactRow : OpenClaim := { program := "ytbibndpkcilblaa", sum := "3298acfd5b50a33f50739a00331fa757dbab5c7f000e909982c510b76e62a917", func := "raddle/raddlelaw28.LadderExact", spec := "ladderExact", unfollowed := true, recurses := true, apart := false }
def LadderExactSaid : Prop := ladderExactRow.holds Try.pinned (OpenSpec.ofChange ladderExactSpec)

/-- ITS FALSE NEIGHBOUR: 'it returns false'. Refute it at one input. -/
def ladderExactWrong : ChangeSpec := { name := "ladderExact", fn := fun _ => fun
  | [d1, d2, d3] => { results := [.lit (.bool false)], args := [d1, d2, d3] }
  | _ => none }
def LadderExactWrongFalsely : Prop := ladderExactRow.holds Try.pinned (OpenSpec.ofChange ladderExactWrong)

/-- 'raddlelaw28.LadderNames': WHATEVER THE INPUT: true; the input reads as it did. -/
def ladderNamesSpec : ChangeSpec := { name := "ladderNames", fn := fun _ => fun
  | [] => { results := [.lit (.bool true)], args := [] }
  | _ => none }
def ladderNamesRow : OpenClaim := { program := "ytbibndpkcilblaa", sum := "3298acfd5b50a33f50739a00331fa757dbab5c7f000e909982c510b76e62a917", func := "raddle/raddlelaw28.LadderNames", spec := "ladderNames", unfollowed := true, recurses := true, apart := false }
def LadderNamesSaid : Prop := ladderNamesRow.holds Try.pinned (OpenSpec.ofChange ladderNamesSpec)

/-- ITS FALSE NEIGHBOUR: 'it returns false'. Refute it at one input. -/
def ladderNamesWrong : ChangeSpec := { name := "ladderNames", fn := fun _ => fun
  | [] => { results := [.lit (.bool false)], args := [] }
  | _ => none }
def LadderNamesWrongFalsely : Prop := ladderNamesRow.holds Try.pinned (OpenSpec.ofChange ladderNamesWrong)

/- THE SECOND FORM. 'bulk': how many values and letters a reading holds, each counted each time it is reached (what is shared counts as often as it is met; a slice's spare places count too). A statement '..UptoSaid' is the law's where the arguments, and the package variables that the reading takes, are together of bulk at most 1048576: NARROWER than '..Said'. Prove '..Said' where nothing that the law and all that it calls make is longer than what came in: it says more and counts as full. Else prove '..UptoSaid'. A law counts once. -/
mutual
def uptoBulk {H : Type} : DataW H → Nat
  | .lit (.string bytes) => bytes.length + 1
  | .lit _ => 1
  | .nil => 1
  | .ptr d => uptoBulk d + 1
  | .slice elems spare => uptoBulkAll elems + uptoBulkAll spare + 1
  | .agg parts => uptoBulkAll parts + 1
  | .iface _ d => uptoBulk d + 1
  | .map entries => uptoBulkEntries entries + 1
  | .held _ => 1
def uptoBulkAll {H : Type} : List (DataW H) → Nat
  | [] => 0
  | d :: r => uptoBulk d + uptoBulkAll r
def uptoBulkEntries {H : Type} : List (Lit × DataW H) → Nat
  | [] => 0
  | x :: r => uptoBulkEntry x + uptoBulkEntries r
def uptoBulkEntry {H : Type} : Lit × DataW H → Nat
  | (.string bytes, d) => bytes.length + uptoBulk d + 1
  | (_, d) => uptoBulk d + 1
 end
def uptoSmall : (H : Type) → List (DataW H) → Bool := fun _ ds => decide (uptoBulkAll ds ≤ 1048576)
def OpenSpec.upto (s : _root_.Go.ChangeSpec) : _root_.Go.OpenSpec := { _root_.Go.OpenSpec.ofChange s with cond := some uptoSmall }

/-- 'raddlelaw28.LadderRuns', WHERE WHAT IT READS IS OF BULK AT MOST 1048576: true; the input reads as it did. -/
def ladderRunsUptoRow : OpenClaim := { program := "ytbibndpkcilblaa", sum := "3298acfd5b50a33f50739a00331fa757dbab5c7f000e909982c510b76e62a917", func := "raddle/raddlelaw28.LadderRuns", spec := "ladderRuns", unfollowed := true, recurses := true, apart := false, narrowed := true }
def LadderRunsUptoSaid : Prop := ladderRunsUptoRow.holds Try.pinned (OpenSpec.upto ladderRunsSpec)

/-- 'raddlelaw28.LadderMore', WHERE WHAT IT READS IS OF BULK AT MOST 1048576: true; the input reads as it did. -/
def ladderMoreUptoRow : OpenClaim := { program := "ytbibndpkcilblaa", sum := "3298acfd5b50a33f50739a00331fa757dbab5c7f000e909982c510b76e62a917", func := "raddle/raddlelaw28.LadderMore", spec := "ladderMore", unfollowed := true, recurses := true, apart := false, narrowed := true }
def LadderMoreUptoSaid : Prop := ladderMoreUptoRow.holds Try.pinned (OpenSpec.upto ladderMoreSpec)

/-- 'raddlelaw28.LadderStops', WHERE WHAT IT READS IS OF BULK AT MOST 1048576: true; the input reads as it did. -/
def ladderStopsUptoRow : OpenClaim := { program := "ytbibndpkcilblaa", sum := "3298acfd5b50a33f50739a00331fa757dbab5c7f000e909982c510b76e62a917", func := "raddle/raddlelaw28.LadderStops", spec := "ladderStops", unfollowed := true, recurses := true, apart := false, narrowed := true }
def LadderStopsUptoSaid : Prop := ladderStopsUptoRow.holds Try.pinned (OpenSpec.upto ladderStopsSpec)

/-- 'raddlelaw28.LadderDepths', WHERE WHAT IT READS IS OF BULK AT MOST 1048576: true; the input reads as it did. -/
def ladderDepthsUptoRow : OpenClaim := { program := "ytbibndpkcilblaa", sum := "3298acfd5b50a33f50739a00331fa757dbab5c7f000e909982c510b76e62a917", func := "raddle/raddlelaw28.LadderDepths", spec := "ladderDepths", unfollowed := true, recurses := true, apart := false, narrowed := true }
def LadderDepthsUptoSaid : Prop := ladderDepthsUptoRow.holds Try.pinned (OpenSpec.upto ladderDepthsSpec)

/-- 'raddlelaw28.LadderExact', WHERE WHAT IT READS IS OF BULK AT MOST 1048576: true; the input reads as it did. -/
def ladderExactUptoRow : OpenClaim := { program := "ytbibndpkcilblaa", sum := "3298acfd5b50a33f50739a00331fa757dbab5c7f000e909982c510b76e62a917", func := "raddle/raddlelaw28.LadderExact", spec := "ladderExact", unfollowed := true, recurses := true, apart := false, narrowed := true }
def LadderExactUptoSaid : Prop := ladderExactUptoRow.holds Try.pinned (OpenSpec.upto ladderExactSpec)

/-- 'raddlelaw28.LadderNames', WHERE WHAT IT READS IS OF BULK AT MOST 1048576: true; the input reads as it did. -/
def ladderNamesUptoRow : OpenClaim := { program := "ytbibndpkcilblaa", sum := "3298acfd5b50a33f50739a00331fa757dbab5c7f000e909982c510b76e62a917", func := "raddle/raddlelaw28.LadderNames", spec := "ladderNames", unfollowed := true, recurses := true, apart := false, narrowed := true }
def LadderNamesUptoSaid : Prop := ladderNamesUptoRow.holds Try.pinned (OpenSpec.upto ladderNamesSpec)

end Rows
end Go.Proofs.Ytbibndpkcilblaa
