/-
  No cell of these rows narrows 'for every input' (looked for: loops, veiled, ifaces, maps, wideKeys, modest, calm, conditions, laid).
  DERIVED. THE GIVEN ROWS OF THIS SEAT. 6 by the template 'for every input the law returns true; each argument reads behind the call as it read before'; 0 by the template 'total and deterministic' (their statements: YtbnddpknejgmhaaTotals.lean).
  GIVEN WITH THE SEED: the statements are not yours to turn. If you find one false, say at which input.
  Laid BY PROGRAM, IN A SANDBOX (cutbox-rows.mjs): the forced cells as the released guide's own fill.sh prints them over the translation e7f2abe8cf4ee07f… (all of the seat's roots in one cut). By AI agents, Wed Nov 11 2026. No macro, syntax, notation, axiom, sorry.
-/
import Derived.Test.YtbnddpknejgmhaaChecked
import GoSem.Claim
import GoSem.ClaimJoined
import GoSem.ClaimMapViews
import Derived.JoinedTies
import Derived.KernelRfl
namespace Go.Proofs.Ytbnddpknejgmhaa
/- THE CELL 'sum', in the pinned program and in every row, IS THE sha256 OF THE DUMP (.gsa) THAT YtbnddpknejgmhaaProg.lean LOADS. Nothing in Lean hashes anything: it is a label: what it is worth is what the hold of that sum in a sandbox is worth. -/
noncomputable def Try.pinned : Pinned := { name := "ytbnddpknejgmhaa", sum := "e7f2abe8cf4ee07fbb78e475b1bdcf0a18f92b7fb381987c6c8e12a053f0e80a", checked := Try.checked }
namespace Rows
def none {H : Type} : Left H := { results := [], args := [] }

/-- 'raddlelaw31.PassesSplit': WHATEVER THE INPUT: true; the input reads as it did. -/
def passesSplitSpec : ChangeSpec := { name := "passesSplit", fn := fun _ => fun
  | [d1, d2, d3] => { results := [.lit (.bool true)], args := [d1, d2, d3] }
  | _ => none }
def passesSplitRow : OpenClaim := { program := "ytbnddpknejgmhaa", sum := "e7f2abe8cf4ee07fbb78e475b1bdcf0a18f92b7fb381987c6c8e12a053f0e80a", func := "raddle/raddlelaw31.PassesSplit", spec := "passesSplit", unfollowed := true, recurses := true, plainKeys := false, apart := false }
def PassesSplitSaid : Prop := passesSplitRow.holds Try.pinned (OpenSpec.ofChange passesSplitSpec)

/-- ITS FALSE NEIGHBOUR: 'it returns false'. Refute it at one input. -/
def passesSplitWrong : ChangeSpec := { name := "passesSplit", fn := fun _ => fun
  | [d1, d2, d3] => { results := [.lit (.bool false)], args := [d1, d2, d3] }
  | _ => none }
def PassesSplitWrongFalsely : Prop := passesSplitRow.holds Try.pinned (OpenSpec.ofChange passesSplitWrong)

/-- 'raddlelaw31.PassesCompile': WHATEVER THE INPUT: true; the input reads as it did. -/
def passesCompileSpec : ChangeSpec := { name := "passesCompile", fn := fun _ => fun
  | [d] => { results := [.lit (.bool true)], args := [d] }
  | _ => none }
def passesCompileRow : OpenClaim := { program := "ytbnddpknejgmhaa", sum := "e7f2abe8cf4ee07fbb78e475b1bdcf0a18f92b7fb381987c6c8e12a053f0e80a", func := "raddle/raddlelaw31.PassesCompile", spec := "passesCompile", unfollowed := true, recurses := true, plainKeys := false, apart := false }
def PassesCompileSaid : Prop := passesCompileRow.holds Try.pinned (OpenSpec.ofChange passesCompileSpec)

/-- ITS FALSE NEIGHBOUR: 'it returns false'. Refute it at one input. -/
def passesCompileWrong : ChangeSpec := { name := "passesCompile", fn := fun _ => fun
  | [d] => { results := [.lit (.bool false)], args := [d] }
  | _ => none }
def PassesCompileWrongFalsely : Prop := passesCompileRow.holds Try.pinned (OpenSpec.ofChange passesCompileWrong)

/-- 'raddlelaw31.PassesFew': WHATEVER THE INPUT: true; the input reads as it did. -/
def passesFewSpec : ChangeSpec := { name := "passesFew", fn := fun _ => fun
  | [d] => { results := [.lit (.bool true)], args := [d] }
  | _ => none }
def passesFewRow : OpenClaim := { program := "ytbnddpknejgmhaa", sum := "e7f2abe8cf4ee07fbb78e475b1bdcf0a18f92b7fb381987c6c8e12a053f0e80a", func := "raddle/raddlelaw31.PassesFew", spec := "passesFew", unfollowed := true, recurses := true, plainKeys := false, apart := false }
def PassesFewSaid : Prop := passesFewRow.holds Try.pinned (OpenSpec.ofChange passesFewSpec)

/-- ITS FALSE NEIGHBOUR: 'it returns false'. Refute it at one input. -/
def passesFewWrong : ChangeSpec := { name := "passesFew", fn := fun _ => fun
  | [d] => { results := [.lit (.bool false)], args := [d] }
  | _ => none }
def PassesFewWrongFalsely : Prop := passesFewRow.holds Try.pinned (OpenSpec.ofChange passesFewWrong)

/-- 'raddlelaw31.PassesParts': WHATEVER THE INPUT: true; the input reads as it did. -/
def passesPartsSpec : ChangeSpec := { name := "passesParts", fn := fun _ => fun
  | [d1, d2, d3, d4] => { results := [.lit (.bool true)], args := [d1, d2, d3, d4] }
  | _ => none }
def passesPartsRow : OpenClaim := { program := "ytbnddpknejgmhaa", sum := "e7f2abe8cf4ee07fbb78e475b1bdcf0a18f92b7fb381987c6c8e12a053f0e80a", func := "raddle/raddlelaw31.PassesParts", spec := "passesParts", unfollowed := true, recurses := true, plainKeys := false, apart := false }
def PassesPartsSaid : Prop := passesPartsRow.holds Try.pinned (OpenSpec.ofChange passesPartsSpec)

/-- ITS FALSE NEIGHBOUR: 'it returns false'. Refute it at one input. -/
def passesPartsWrong : ChangeSpec := { name := "passesParts", fn := fun _ => fun
  | [d1, d2, d3, d4] => { results := [.lit (.bool false)], args := [d1, d2, d3, d4] }
  | _ => none }
def PassesPartsWrongFalsely : Prop := passesPartsRow.holds Try.pinned (OpenSpec.ofChange passesPartsWrong)

/-- 'raddlelaw31.PassesBest': WHATEVER THE INPUT: true; the input reads as it did. -/
def passesBestSpec : ChangeSpec := { name := "passesBest", fn := fun _ => fun
  | [d1, d2, d3] => { results := [.lit (.bool true)], args := [d1, d2, d3] }
  | _ => none }
def passesBestRow : OpenClaim := { program := "ytbnddpknejgmhaa", sum := "e7f2abe8cf4ee07fbb78e475b1bdcf0a18f92b7fb381987c6c8e12a053f0e80a", func := "raddle/raddlelaw31.PassesBest", spec := "passesBest", unfollowed := true, recurses := true, plainKeys := false, apart := false }
def PassesBestSaid : Prop := passesBestRow.holds Try.pinned (OpenSpec.ofChange passesBestSpec)

/-- ITS FALSE NEIGHBOUR: 'it returns false'. Refute it at one input. -/
def passesBestWrong : ChangeSpec := { name := "passesBest", fn := fun _ => fun
  | [d1, d2, d3] => { results := [.lit (.bool false)], args := [d1, d2, d3] }
  | _ => none }
def PassesBestWrongFalsely : Prop := passesBestRow.holds Try.pinned (OpenSpec.ofChange passesBestWrong)

/-- 'raddlelaw31.PassesNames': WHATEVER THE INPUT: true; the input reads as it did. -/
def passesNamesSpec : ChangeSpec := { name := "passesNames", fn := fun _ => fun
  | [] => { results := [.lit (.bool true)], args := [] }
  | _ => none }
def passesNamesRow : OpenClaim := { program := "ytbnddpknejgmhaa", sum := "e7f2abe8cf4ee07fbb78e475b1bdcf0a18f92b7fb381987c6c8e12a053f0e80a", func := "raddle/raddlelaw31.PassesNames", spec := "passesNames", unfollowed := true, recurses := true, plainKeys := false, apart := false }
def PassesNamesSaid : Prop := passesNamesRow.holds Try.pinned (OpenSpec.ofChange passesNamesSpec)

/-- ITS FALSE NEIGHBOUR: 'it returns false'. Refute it at one input. -/
def passesNamesWrong : ChangeSpec := { name := "passesNames", fn := fun _ => fun
  | [] => { results := [.lit (.bool false)], args := [] }
  | _ => none }
def PassesNamesWrongFalsely : Prop := passesNamesRow.holds Try.pinned (OpenSpec.ofChange passesNamesWrong)

/- THE SECOND FORM. 'bulk': how many values and letters a reading holds, each counted each time it is reached (what is shared counts as often as it is met; a slice's spare places count too). A statement '..UptoSaid' is the law's where the arguments, and the package variables that the reading takes, are together of bulk at most 1048576: NARROWER than '..Said'. Prove '..Said' where nothing that the law and all that it calls make is longer than what came in: it says more and counts as full. Else prove '..UptoSaid'. A law counts once. -/
mutual
def uptoBulk {H : Type} : DataW H → Nat
  | .lit (.string bytes) => bytes.length + 1
  | .lit _ => 1
  | .nil => 1
  | .ptr d => uptoBulk d + 1
  | .slice elems spare => uptoBulkAll elems + uptoBulkAll spare + 1
  | .agg parts => uptoBulkAll parts + 1
  | .iface _ d => uptoBulk d + 1
  | .map entries => uptoBulkEntries entries + 1
  | .held _ => 1
def uptoBulkAll {H : Type} : List (DataW H) → Nat
  | [] => 0
  | d :: r => uptoBulk d + uptoBulkAll r
def uptoBulkEntries {H : Type} : List (Lit × DataW H) → Nat
  | [] => 0
  | x :: r => uptoBulkEntry x + uptoBulkEntries r
def uptoBulkEntry {H : Type} : Lit × DataW H → Nat
  | (.string bytes, d) => bytes.length + uptoBulk d + 1
  | (_, d) => uptoBulk d + 1
 end
def uptoSmall : (H : Type) → List (DataW H) → Bool := fun _ ds => decide (uptoBulkAll ds ≤ 1048576)
def OpenSpec.upto (s : _root_.Go.ChangeSpec) : _root_.Go.OpenSpec := { _root_.Go.OpenSpec.ofChange s with cond := some uptoSmall }

/-- 'raddlelaw31.PassesSplit', WHERE WHAT IT READS IS OF BULK AT MOST 1048576: true; the input reads as it did. -/
def passesSplitUptoRow : OpenClaim := { program := "ytbnddpknejgmhaa", sum := "e7f2abe8cf4ee07fbb78e475b1bdcf0a18f92b7fb381987c6c8e12a053f0e80a", func := "raddle/raddlelaw31.PassesSplit", spec := "passesSplit", unfollowed := true, recurses := true, plainKeys := false, apart := false, narrowed := true }
def PassesSplitUptoSaid : Prop := passesSplitUptoRow.holds Try.pinned (OpenSpec.upto passesSplitSpec)

/-- 'raddlelaw31.PassesCompile', WHERE WHAT IT READS IS OF BULK AT MOST 1048576: true; the input reads as it did. -/
def passesCompileUptoRow : OpenClaim := { program := "ytbnddpknejgmhaa", sum := "e7f2abe8cf4ee07fbb78e475b1bdcf0a18f92b7fb381987c6c8e12a053f0e80a", func := "raddle/raddlelaw31.PassesCompile", spec := "passesCompile", unfollowed := true, recurses := true, plainKeys := false, apart := false, narrowed := true }
def PassesCompileUptoSaid : Prop := passesCompileUptoRow.holds Try.pinned (OpenSpec.upto passesCompileSpec)

/-- 'raddlelaw31.PassesFew', WHERE WHAT IT READS IS OF BULK AT MOST 1048576: true; the input reads as it did. -/
def passesFewUptoRow : OpenClaim := { program := "ytbnddpknejgmhaa", sum := "e7f2abe8cf4ee07fbb78e475b1bdcf0a18f92b7fb381987c6c8e12a053f0e80a", func := "raddle/raddlelaw31.PassesFew", spec := "passesFew", unfollowed := true, recurses := true, plainKeys := false, apart := false, narrowed := true }
def PassesFewUptoSaid : Prop := passesFewUptoRow.holds Try.pinned (OpenSpec.upto passesFewSpec)

/-- 'raddlelaw31.PassesParts', WHERE WHAT IT READS IS OF BULK AT MOST 1048576: true; the input reads as it did. -/
def passesPartsUptoRow : OpenClaim := { program := "ytbnddpknejgmhaa", sum := "e7f2abe8cf4ee07fbb78e475b1bdcf0a18f92b7fb381987c6c8e12a053f0e80a", func := "raddle/raddlelaw31.PassesParts", spec := "passesParts", unfollowed := true, recurses := true, plainKeys := false, apart := false, narrowed := true }
def PassesPartsUptoSaid : Prop := passesPartsUptoRow.holds Try.pinned (OpenSpec.upto passesPartsSpec)

/-- 'raddlelaw31.PassesBest', WHERE WHAT IT READS IS OF BULK AT MOST 1048576: true; the input reads as it did. -/
def passesBestUptoRow : OpenClaim := { program := "ytbnddpknejgmhaa", sum := "e7f2abe8cf4ee07fbb78e475b1bdcf0a18f92b7fb381987c6c8e12a053f0e80a", func := "raddle/raddlelaw31.PassesBest", spec := "passesBest", unfollowed := true, recurses := true, plainKeys := false, apart := false, narrowed := true }
def PassesBestUptoSaid : Prop := passesBestUptoRow.holds Try.pinned (OpenSpec.upto passesBestSpec)

/-- 'raddlelaw31.PassesNames', WHERE WHAT IT READS IS OF BULK AT MOST 1048576: true; the input reads as it did. -/
def passesNamesUptoRow : OpenClaim := { program := "ytbnddpknejgmhaa", sum := "e7f2abe8cf4ee07fbb78e475b1bdcf0a18f92b7fb381987c6c8e12a053f0e80a", func := "raddle/raddlelaw31.PassesNames", spec := "passesNames", unfollowed := true, recurses := true, plainKeys := false, apart := false, narrowed := true }
def PassesNamesUptoSaid : Prop := passesNamesUptoRow.holds Try.pinned (OpenSpec.upto passesNamesSpec)

end Rows
end Go.Proofs.Ytbnddpknejgmhaa
