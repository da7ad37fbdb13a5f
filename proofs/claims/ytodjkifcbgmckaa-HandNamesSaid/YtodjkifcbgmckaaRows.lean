/-
  No cell of these rows narrows 'for every input' (looked for: loops, veiled, ifaces, maps, wideKeys, modest, calm, conditions, laid).
  DERIVED. THE GIVEN ROWS OF THIS SEAT. 8 by the template 'for every input the law returns true; each argument reads behind the call as it read before'; 0 by the template 'total and deterministic' (their statements: YtodjkifcbgmckaaTotals.lean).
  GIVEN WITH THE SEED: the statements are not yours to turn. If you find one false, say at which input.
  Laid BY PROGRAM, IN A SANDBOX (cutbox-rows.mjs): the forced cells as the released guide's own fill.sh prints them over the translation 7308d93ce7b67b6c… (all of the seat's roots in one cut). By AI agents, Wed Nov 11 2026. No macro, syntax, notation, axiom, sorry.
-/
import Derived.Test.YtodjkifcbgmckaaChecked
import GoSem.Claim
import GoSem.ClaimJoined
import GoSem.ClaimMapViews
import Derived.JoinedTies
import Derived.KernelRfl
namespace Go.Proofs.Ytodjkifcbgmckaa
/- THE CELL 'sum', in the pinned program and in every row, IS THE sha256 OF THE DUMP (.gsa) THAT YtodjkifcbgmckaaProg.lean LOADS. Nothing in Lean hashes anything: it is a label: what it is worth is what the hold of that sum in a sandbox is worth. -/
noncomputable def Try.pinned : Pinned := { name := "ytodjkifcbgmckaa", sum := "7308d93ce7b67b6cff33755553db939ed0d11b2f7897428747bd24c3176b0da8", checked := Try.checked }
namespace Rows
def none {H : Type} : Left H := { results := [], args := [] }

/-- 'raddlelaw29.HandReplays': WHATEVER THE INPUT: true; the input reads as it did. -/
def handReplaysSpec : ChangeSpec := { name := "handReplays", fn := fun _ => fun
  | [d1, d2, d3] => { results := [.lit (.bool true)], args := [d1, d2, d3] }
  | _ => none }
def handReplaysRow : OpenClaim := { program := "ytodjkifcbgmckaa", sum := "7308d93ce7b67b6cff33755553db939ed0d11b2f7897428747bd24c3176b0da8", func := "raddle/raddlelaw29.HandReplays", spec := "handReplays", unfollowed := true, recurses := true, apart := false }
def HandReplaysSaid : Prop := handReplaysRow.holds Try.pinned (OpenSpec.ofChange handReplaysSpec)

/-- ITS FALSE NEIGHBOUR: 'it returns false'. Refute it at one input. -/
def handReplaysWrong : ChangeSpec := { name := "handReplays", fn := fun _ => fun
  | [d1, d2, d3] => { results := [.lit (.bool false)], args := [d1, d2, d3] }
  | _ => none }
def HandReplaysWrongFalsely : Prop := handReplaysRow.holds Try.pinned (OpenSpec.ofChange handReplaysWrong)

/-- 'raddlelaw29.HandChecks': WHATEVER THE INPUT: true; the input reads as it did. -/
def handChecksSpec : ChangeSpec := { name := "handChecks", fn := fun _ => fun
  | [d1, d2, d3, d4] => { results := [.lit (.bool true)], args := [d1, d2, d3, d4] }
  | _ => none }
def handChecksRow : OpenClaim := { program := "ytodjkifcbgmckaa", sum := "7308d93ce7b67b6cff33755553db939ed0d11b2f7897428747bd24c3176b0da8", func := "raddle/raddlelaw29.HandChecks", spec := "handChecks", unfollowed := true, recurses := true, apart := false }
def HandChecksSaid : Prop := handChecksRow.holds Try.pinned (OpenSpec.ofChange handChecksSpec)

/-- ITS FALSE NEIGHBOUR: 'it returns false'. Refute it at one input. -/
def handChecksWrong : ChangeSpec := { name := "handChecks", fn := fun _ => fun
  | [d1, d2, d3, d4] => { results := [.lit (.bool false)], args := [d1, d2, d3, d4] }
  | _ => none }
def HandChecksWrongFalsely : Prop := handChecksRow.holds Try.pinned (OpenSpec.ofChange handChecksWrong)

/-- 'raddlelaw29.HandPlans': WHATEVER THE INPUT: true; the input reads as it did. -/
def handPlansSpec : ChangeSpec := { name := "handPlans", fn := fun _ => fun
  | [d1, d2, d3] => { results := [.lit (.bool true)], args := [d1, d2, d3] }
  | _ => none }
def handPlansRow : OpenClaim := { program := "ytodjkifcbgmckaa", sum := "7308d93ce7b67b6cff33755553db939ed0d11b2f7897428747bd24c3176b0da8", func := "raddle/raddlelaw29.HandPlans", spec := "handPlans", unfollowed := true, recurses := true, apart := false }
def HandPlansSaid : Prop := handPlansRow.holds Try.pinned (OpenSpec.ofChange handPlansSpec)

/-- ITS FALSE NEIGHBOUR: 'it returns false'. Refute it at one input. -/
def handPlansWrong : ChangeSpec := { name := "handPlans", fn := fun _ => fun
  | [d1, d2, d3] => { results := [.lit (.bool false)], args := [d1, d2, d3] }
  | _ => none }
def HandPlansWrongFalsely : Prop := handPlansRow.holds Try.pinned (OpenSpec.ofChange handPlansWrong)

/-- 'raddlelaw29.HandFirst': WHATEVER THE INPUT: true; the input reads as it did. -/
def handFirstSpec : ChangeSpec := { name := "handFirst", fn := fun _ => fun
  | [d1, d2, d3] => { results := [.lit (.bool true)], args := [d1, d2, d3] }
  | _ => none }
def handFirstRow : OpenClaim := { program := "ytodjkifcbgmckaa", sum := "7308d93ce7b67b6cff33755553db939ed0d11b2f7897428747bd24c3176b0da8", func := "raddle/raddlelaw29.HandFirst", spec := "handFirst", unfollowed := true, recurses := true, apart := false }
def HandFirstSaid : Prop := handFirstRow.holds Try.pinned (OpenSpec.ofChange handFirstSpec)

/-- ITS FALSE NEIGHBOUR: 'it returns false'. Refute it at one input. -/
def handFirstWrong : ChangeSpec := { name := "handFirst", fn := fun _ => fun
  | [d1, d2, d3] => { results := [.lit (.bool false)], args := [d1, d2, d3] }
  | _ => none }
def HandFirstWrongFalsely : Prop := handFirstRow.holds Try.pinned (OpenSpec.ofChange handFirstWrong)

/-- 'raddlelaw29.HandCables': WHATEVER THE INPUT: true; the input reads as it did. -/
def handCablesSpec : ChangeSpec := { name := "handCables", fn := fun _ => fun
  | [d1, d2, d3, d4] => { results := [.lit (.bool true)], args := [d1, d2, d3, d4] }
  | _ => none }
def handCablesRow : OpenClaim := { program := "ytodjkifcbgmckaa", sum := "7308d93ce7b67b6cff33755553db939ed0d11b2f7897428747bd24c3176b0da8", func := "raddle/raddlelaw29.HandCables", spec := "handCables", unfollowed := true, recurses := true, apart := false }
def HandCablesSaid : Prop := handCablesRow.holds Try.pinned (OpenSpec.ofChange handCablesSpec)

/-- ITS FALSE NEIGHBOUR: 'it returns false'. Refute it at one input. -/
def handCablesWrong : ChangeSpec := { name := "handCables", fn := fun _ => fun
  | [d1, d2, d3, d4] => { results := [.lit (.bool false)], args := [d1, d2, d3, d4] }
  | _ => none }
def HandCablesWrongFalsely : Prop := handCablesRow.holds Try.pinned (OpenSpec.ofChange handCablesWrong)

/-- 'raddlelaw29.HandWorks': WHATEVER THE INPUT: true; the input reads as it did. -/
def handWorksSpec : ChangeSpec := { name := "handWorks", fn := fun _ => fun
  | [d1, d2] => { results := [.lit (.bool true)], args := [d1, d2] }
  | _ => none }
def handWorksRow : OpenClaim := { program := "ytodjkifcbgmckaa", sum := "7308d93ce7b67b6cff33755553db939ed0d11b2f7897428747bd24c3176b0da8", func := "raddle/raddlelaw29.HandWorks", spec := "handWorks", unfollowed := true, recurses := true, apart := false }
def HandWorksSaid : Prop := handWorksRow.holds Try.pinned (OpenSpec.ofChange handWorksSpec)

/-- ITS FALSE NEIGHBOUR: 'it returns false'. Refute it at one input. -/
def handWorksWrong : ChangeSpec := { name := "handWorks", fn := fun _ => fun
  | [d1, d2] => { results := [.lit (.bool false)], args := [d1, d2] }
  | _ => none }
def HandWorksWrongFalsely : Prop := handWorksRow.holds Try.pinned (OpenSpec.ofChange handWorksWrong)

/-- 'raddlelaw29.HandExact': WHATEVER THE INPUT: true; the input reads as it did. -/
def handExactSpec : ChangeSpec := { name := "handExact", fn := fun _ => fun
  | [d1, d2, d3] => { results := [.lit (.bool true)], args := [d1, d2, d3] }
  | _ => none }
def handExactRow : OpenClaim := { program := "ytodjkifcbgmckaa", sum := "7308d93ce7b67b6cff33755553db939ed0d11b2f7897428747bd24c3176b0da8", func := "raddle/raddlelaw29.HandExact", spec := "handExact", unfollowed := true, recurses := true, apart := false }
def HandExactSaid : Prop := handExactRow.holds Try.pinned (OpenSpec.ofChange handExactSpec)

/-- ITS FALSE NEIGHBOUR: 'it returns false'. Refute it at one input. -/
def handExactWrong : ChangeSpec := { name := "handExact", fn := fun _ => fun
  | [d1, d2, d3] => { results := [.lit (.bool false)], args := [d1, d2, d3] }
  | _ => none }
def HandExactWrongFalsely : Prop := handExactRow.holds Try.pinned (OpenSpec.ofChange handExactWrong)

/-- 'raddlelaw29.HandNames': WHATEVER THE INPUT: true; the input reads as it did. -/
def handNamesSpec : ChangeSpec := { name := "handNames", fn := fun _ => fun
  | [] => { results := [.lit (.bool true)], args := [] }
  | _ => none }
def handNamesRow : OpenClaim := { program := "ytodjkifcbgmckaa", sum := "7308d93ce7b67b6cff33755553db939ed0d11b2f7897428747bd24c3176b0da8", func := "raddle/raddlelaw29.HandNames", spec := "handNames", unfollowed := true, recurses := true, apart := false }
def HandNamesSaid : Prop := handNamesRow.holds Try.pinned (OpenSpec.ofChange handNamesSpec)

/-- ITS FALSE NEIGHBOUR: 'it returns false'. Refute it at one input. -/
def handNamesWrong : ChangeSpec := { name := "handNames", fn := fun _ => fun
  | [] => { results := [.lit (.bool false)], args := [] }
  | _ => none }
def HandNamesWrongFalsely : Prop := handNamesRow.holds Try.pinned (OpenSpec.ofChange handNamesWrong)

/- THE SECOND FORM. 'bulk': how many values and letters a reading holds, each counted each time it is reached (what is shared counts as often as it is met; a slice's spare places count too). A statement '..UptoSaid' is the law's where the arguments, and the package variables that the reading takes, are together of bulk at most 1048576: NARROWER than '..Said'. Prove '..Said' where nothing that the law and all that it calls make is longer than what came in: it says more and counts as full. Else prove '..UptoSaid'. A law counts once. -/
mutual
def uptoBulk {H : Type} : DataW H → Nat
  | .lit (.string bytes) => bytes.length + 1
  | .lit _ => 1
  | .nil => 1
  | .ptr d => uptoBulk d + 1
  | .slice elems spare => uptoBulkAll elems + uptoBulkAll spare + 1
  | .agg parts => uptoBulkAll parts + 1
  | .iface _ d => uptoBulk d + 1
  | .map entries => uptoBulkEntries entries + 1
  | .held _ => 1
def uptoBulkAll {H : Type} : List (DataW H) → Nat
  | [] => 0
  | d :: r => uptoBulk d + uptoBulkAll r
def uptoBulkEntries {H : Type} : List (Lit × DataW H) → Nat
  | [] => 0
  | x :: r => uptoBulkEntry x + uptoBulkEntries r
def uptoBulkEntry {H : Type} : Lit × DataW H → Nat
  | (.string bytes, d) => bytes.length + uptoBulk d + 1
  | (_, d) => uptoBulk d + 1
 end
def uptoSmall : (H : Type) → List (DataW H) → Bool := fun _ ds => decide (uptoBulkAll ds ≤ 1048576)
def OpenSpec.upto (s : _root_.Go.ChangeSpec) : _root_.Go.OpenSpec := { _root_.Go.OpenSpec.ofChange s with cond := some uptoSmall }

/-- 'raddlelaw29.HandReplays', WHERE WHAT IT READS IS OF BULK AT MOST 1048576: true; the input reads as it did. -/
def handReplaysUptoRow : OpenClaim := { program := "ytodjkifcbgmckaa", sum := "7308d93ce7b67b6cff33755553db939ed0d11b2f7897428747bd24c3176b0da8", func := "raddle/raddlelaw29.HandReplays", spec := "handReplays", unfollowed := true, recurses := true, apart := false, narrowed := true }
def HandReplaysUptoSaid : Prop := handReplaysUptoRow.holds Try.pinned (OpenSpec.upto handReplaysSpec)

/-- 'raddlelaw29.HandChecks', WHERE WHAT IT READS IS OF BULK AT MOST 1048576: true; the input reads as it did. -/
def handChecksUptoRow : OpenClaim := { program := "ytodjkifcbgmckaa", sum := "7308d93ce7b67b6cff33755553db939ed0d11b2f7897428747bd24c3176b0da8", func := "raddle/raddlelaw29.HandChecks", spec := "handChecks", unfollowed := true, recurses := true, apart := false, narrowed := true }
def HandChecksUptoSaid : Prop := handChecksUptoRow.holds Try.pinned (OpenSpec.upto handChecksSpec)

/-- 'raddlelaw29.HandPlans', WHERE WHAT IT READS IS OF BULK AT MOST 1048576: true; the input reads as it did. -/
def handPlansUptoRow : OpenClaim := { program := "ytodjkifcbgmckaa", sum := "7308d93ce7b67b6cff33755553db939ed0d11b2f7897428747bd24c3176b0da8", func := "raddle/raddlelaw29.HandPlans", spec := "handPlans", unfollowed := true, recurses := true, apart := false, narrowed := true }
def HandPlansUptoSaid : Prop := handPlansUptoRow.holds Try.pinned (OpenSpec.upto handPlansSpec)

/-- 'raddlelaw29.HandFirst', WHERE WHAT IT READS IS OF BULK AT MOST 1048576: true; the input reads as it did. -/
def handFirstUptoRow : OpenClaim := { program := "ytodjkifcbgmckaa", sum := "7308d93ce7b67b6cff33755553db939ed0d11b2f7897428747bd24c3176b0da8", func := "raddle/raddlelaw29.HandFirst", spec := "handFirst", unfollowed := true, recurses := true, apart := false, narrowed := true }
def HandFirstUptoSaid : Prop := handFirstUptoRow.holds Try.pinned (OpenSpec.upto handFirstSpec)

/-- 'raddlelaw29.HandCables', WHERE WHAT IT READS IS OF BULK AT MOST 1048576: true; the input reads as it did. -/
def handCablesUptoRow : OpenClaim := { program := "ytodjkifcbgmckaa", sum := "7308d93ce7b67b6cff33755553db939ed0d11b2f7897428747bd24c3176b0da8", func := "raddle/raddlelaw29.HandCables", spec := "handCables", unfollowed := true, recurses := true, apart := false, narrowed := true }
def HandCablesUptoSaid : Prop := handCablesUptoRow.holds Try.pinned (OpenSpec.upto handCablesSpec)

/-- 'raddlelaw29.HandWorks', WHERE WHAT IT READS IS OF BULK AT MOST 1048576: true; the input reads as it did. -/
def handWorksUptoRow : OpenClaim := { program := "ytodjkifcbgmckaa", sum := "7308d93ce7b67b6cff33755553db939ed0d11b2f7897428747bd24c3176b0da8", func := "raddle/raddlelaw29.HandWorks", spec := "handWorks", unfollowed := true, recurses := true, apart := false, narrowed := true }
def HandWorksUptoSaid : Prop := handWorksUptoRow.holds Try.pinned (OpenSpec.upto handWorksSpec)

/-- 'raddlelaw29.HandExact', WHERE WHAT IT READS IS OF BULK AT MOST 1048576: true; the input reads as it did. -/
def handExactUptoRow : OpenClaim := { program := "ytodjkifcbgmckaa", sum := "7308d93ce7b67b6cff33755553db939ed0d11b2f7897428747bd24c3176b0da8", func := "raddle/raddlelaw29.HandExact", spec := "handExact", unfollowed := true, recurses := true, apart := false, narrowed := true }
def HandExactUptoSaid : Prop := handExactUptoRow.holds Try.pinned (OpenSpec.upto handExactSpec)

/-- 'raddlelaw29.HandNames', WHERE WHAT IT READS IS OF BULK AT MOST 1048576: true; the input reads as it did. -/
def handNamesUptoRow : OpenClaim := { program := "ytodjkifcbgmckaa", sum := "7308d93ce7b67b6cff33755553db939ed0d11b2f7897428747bd24c3176b0da8", func := "raddle/raddlelaw29.HandNames", spec := "handNames", unfollowed := true, recurses := true, apart := false, narrowed := true }
def HandNamesUptoSaid : Prop := handNamesUptoRow.holds Try.pinned (OpenSpec.upto handNamesSpec)

end Rows
end Go.Proofs.Ytodjkifcbgmckaa
