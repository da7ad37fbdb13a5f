/-
  No cell of these rows narrows 'for every input' (looked for: loops, veiled, ifaces, maps, wideKeys, modest, calm, conditions, laid).
  DERIVED. THE GIVEN ROWS OF THIS SEAT. 5 by the template 'for every input the law returns true; each argument reads behind the call as it read before'; 0 by the template 'total and deterministic' (their statements: YtflpikickbellaaTotals.lean).
  GIVEN WITH THE SEED: the statements are not yours to turn. If you find one false, say at which input.
  Laid BY PROGRAM, IN A SANDBOX (cutbox-rows.mjs): the forced cells as the released guide's own fill.sh prints them over the translation d328bd77090443bc… (all of the seat's roots in one cut). By AI agents, Wed Nov 11 2026. No macro, syntax, notation, axiom, sorry.
-/
import Derived.Test.YtflpikickbellaaChecked
import GoSem.Claim
import GoSem.ClaimJoined
import GoSem.ClaimMapViews
import Derived.JoinedTies
import Derived.KernelRfl
namespace Go.Proofs.Ytflpikickbellaa
/- THE CELL 'sum', in the pinned program and in every row, IS THE sha256 OF THE DUMP (.gsa) THAT YtflpikickbellaaProg.lean LOADS. Nothing in Lean hashes anything: it is a label: what it is worth is what the hold of that sum in a sandbox is worth. -/
noncomputable def Try.pinned : Pinned := { name := "ytflpikickbellaa", sum := "d328bd77090443bc00f7cb2adcd0addaceada7646f566bcae06223ca8ad61577", checked := Try.checked }
namespace Rows
def none {H : Type} : Left H := { results := [], args := [] }

/-- 'raddlelaw32.TransferPlans': WHATEVER THE INPUT: true; the input reads as it did. -/
def transferPlansSpec : ChangeSpec := { name := "transferPlans", fn := fun _ => fun
  | [d] => { results := [.lit (.bool true)], args := [d] }
  | _ => none }
def transferPlansRow : OpenClaim := { program := "ytflpikickbellaa", sum := "d328bd77090443bc00f7cb2adcd0addaceada7646f566bcae06223ca8ad61577", func := "raddle/raddlelaw32.TransferPlans", spec := "transferPlans", unfollowed := true, recurses := true, apart := false }
def TransferPlansSaid : Prop := transferPlansRow.holds Try.pinned (OpenSpec.ofChange transferPlansSpec)

/-- ITS FALSE NEIGHBOUR: 'it returns false'. Refute it at one input. -/
def transferPlansWrong : ChangeSpec := { name := "transferPlans", fn := fun _ => fun
  | [d] => { results := [.lit (.bool false)], args := [d] }
  | _ => none }
def TransferPlansWrongFalsely : Prop := transferPlansRow.holds Try.pinned (OpenSpec.ofChange transferPlansWrong)

/-- 'raddlelaw32.TransferCells': WHATEVER THE INPUT: true; the input reads as it did. -/
def transferCellsSpec : ChangeSpec := { name := "transferCells", fn := fun _ => fun
  | [d1, d2, d3] => { results := [.lit (.bool true)], args := [d1, d2, d3] }
  | _ => none }
def transferCellsRow : OpenClaim := { program := "ytflpikickbellaa", sum := "d328bd77090443bc00f7cb2adcd0addaceada7646f566bcae06223ca8ad61577", func := "raddle/raddlelaw32.TransferCells", spec := "transferCells", unfollowed := true, recurses := true, apart := false }
def TransferCellsSaid : Prop := transferCellsRow.holds Try.pinned (OpenSpec.ofChange transferCellsSpec)

/-- ITS FALSE NEIGHBOUR: 'it returns false'. Refute it at one input. -/
def transferCellsWrong : ChangeSpec := { name := "transferCells", fn := fun _ => fun
  | [d1, d2, d3] => { results := [.lit (.bool false)], args := [d1, d2, d3] }
  | _ => none }
def TransferCellsWrongFalsely : Prop := transferCellsRow.holds Try.pinned (OpenSpec.ofChange transferCellsWrong)

/-- 'raddlelaw32.TransferFew': WHATEVER THE INPUT: true; the input reads as it did. -/
def transferFewSpec : ChangeSpec := { name := "transferFew", fn := fun _ => fun
  | [d] => { results := [.lit (.bool true)], args := [d] }
  | _ => none }
def transferFewRow : OpenClaim := { program := "ytflpikickbellaa", sum := "d328bd77090443bc00f7cb2adcd0addaceada7646f566bcae06223ca8ad61577", func := "raddle/raddlelaw32.TransferFew", spec := "transferFew", unfollowed := true, recurses := true, apart := false }
def TransferFewSaid : Prop := transferFewRow.holds Try.pinned (OpenSpec.ofChange transferFewSpec)

/-- ITS FALSE NEIGHBOUR: 'it returns false'. Refute it at one input. -/
def transferFewWrong : ChangeSpec := { name := "transferFew", fn := fun _ => fun
  | [d] => { results := [.lit (.bool false)], args := [d] }
  | _ => none }
def TransferFewWrongFalsely : Prop := transferFewRow.holds Try.pinned (OpenSpec.ofChange transferFewWrong)

/-- 'raddlelaw32.TransferNames': WHATEVER THE INPUT: true; the input reads as it did. -/
def transferNamesSpec : ChangeSpec := { name := "transferNames", fn := fun _ => fun
  | [] => { results := [.lit (.bool true)], args := [] }
  | _ => none }
def transferNamesRow : OpenClaim := { program := "ytflpikickbellaa", sum := "d328bd77090443bc00f7cb2adcd0addaceada7646f566bcae06223ca8ad61577", func := "raddle/raddlelaw32.TransferNames", spec := "transferNames", unfollowed := true, recurses := true, apart := false }
def TransferNamesSaid : Prop := transferNamesRow.holds Try.pinned (OpenSpec.ofChange transferNamesSpec)

/-- ITS FALSE NEIGHBOUR: 'it returns false'. Refute it at one input. -/
def transferNamesWrong : ChangeSpec := { name := "transferNames", fn := fun _ => fun
  | [] => { results := [.lit (.bool false)], args := [] }
  | _ => none }
def TransferNamesWrongFalsely : Prop := transferNamesRow.holds Try.pinned (OpenSpec.ofChange transferNamesWrong)

/-- 'raddlelaw32.TransferExact': WHATEVER THE INPUT: true; the input reads as it did. -/
def transferExactSpec : ChangeSpec := { name := "transferExact", fn := fun _ => fun
  | [d1, d2] => { results := [.lit (.bool true)], args := [d1, d2] }
  | _ => none }
def transferExactRow : OpenClaim := { program := "ytflpikickbellaa", sum := "d328bd77090443bc00f7cb2adcd0addaceada7646f566bcae06223ca8ad61577", func := "raddle/raddlelaw32.TransferExact", spec := "transferExact", unfollowed := true, recurses := true, apart := false }
def TransferExactSaid : Prop := transferExactRow.holds Try.pinned (OpenSpec.ofChange transferExactSpec)

/-- ITS FALSE NEIGHBOUR: 'it returns false'. Refute it at one input. -/
def transferExactWrong : ChangeSpec := { name := "transferExact", fn := fun _ => fun
  | [d1, d2] => { results := [.lit (.bool false)], args := [d1, d2] }
  | _ => none }
def TransferExactWrongFalsely : Prop := transferExactRow.holds Try.pinned (OpenSpec.ofChange transferExactWrong)

/- THE SECOND FORM. 'bulk': how many values and letters a reading holds, each counted each time it is reached (what is shared counts as often as it is met; a slice's spare places count too). A statement '..UptoSaid' is the law's where the arguments, and the package variables that the reading takes, are together of bulk at most 1048576: NARROWER than '..Said'. Prove '..Said' where nothing that the law and all that it calls make is longer than what came in: it says more and counts as full. Else prove '..UptoSaid'. A law counts once. -/
mutual
def uptoBulk {H : Type} : DataW H → Nat
  | .lit (.string bytes) => bytes.length + 1
  | .lit _ => 1
  | .nil => 1
  | .ptr d => uptoBulk d + 1
  | .slice elems spare => uptoBulkAll elems + uptoBulkAll spare + 1
  | .agg parts => uptoBulkAll parts + 1
  | .iface _ d => uptoBulk d + 1
  | .map entries => uptoBulkEntries entries + 1
  | .held _ => 1
def uptoBulkAll {H : Type} : List (DataW H) → Nat
  | [] => 0
  | d :: r => uptoBulk d + uptoBulkAll r
def uptoBulkEntries {H : Type} : List (Lit × DataW H) → Nat
  | [] => 0
  | x :: r => uptoBulkEntry x + uptoBulkEntries r
def uptoBulkEntry {H : Type} : Lit × DataW H → Nat
  | (.string bytes, d) => bytes.length + uptoBulk d + 1
  | (_, d) => uptoBulk d + 1
 end
def uptoSmall : (H : Type) → List (DataW H) → Bool := fun _ ds => decide (uptoBulkAll ds ≤ 1048576)
def OpenSpec.upto (s : _root_.Go.ChangeSpec) : _root_.Go.OpenSpec := { _root_.Go.OpenSpec.ofChange s with cond := some uptoSmall }

/-- 'raddlelaw32.TransferPlans', WHERE WHAT IT READS IS OF BULK AT MOST 1048576: true; the input reads as it did. -/
def transferPlansUptoRow : OpenClaim := { program := "ytflpikickbellaa", sum := "d328bd77090443bc00f7cb2adcd0addaceada7646f566bcae06223ca8ad61577", func := "raddle/raddlelaw32.TransferPlans", spec := "transferPlans", unfollowed := true, recurses := true, apart := false, narrowed := true }
def TransferPlansUptoSaid : Prop := transferPlansUptoRow.holds Try.pinned (OpenSpec.upto transferPlansSpec)

/-- 'raddlelaw32.TransferCells', WHERE WHAT IT READS IS OF BULK AT MOST 1048576: true; the input reads as it did. -/
def transferCellsUptoRow : OpenClaim := { program := "ytflpikickbellaa", sum := "d328bd77090443bc00f7cb2adcd0addaceada7646f566bcae06223ca8ad61577", func := "raddle/raddlelaw32.TransferCells", spec := "transferCells", unfollowed := true, recurses := true, apart := false, narrowed := true }
def TransferCellsUptoSaid : Prop := transferCellsUptoRow.holds Try.pinned (OpenSpec.upto transferCellsSpec)

/-- 'raddlelaw32.TransferFew', WHERE WHAT IT READS IS OF BULK AT MOST 1048576: true; the input reads as it did. -/
def transferFewUptoRow : OpenClaim := { program := "ytflpikickbellaa", sum := "d328bd77090443bc00f7cb2adcd0addaceada7646f566bcae06223ca8ad61577", func := "raddle/raddlelaw32.TransferFew", spec := "transferFew", unfollowed := true, recurses := true, apart := false, narrowed := true }
def TransferFewUptoSaid : Prop := transferFewUptoRow.holds Try.pinned (OpenSpec.upto transferFewSpec)

/-- 'raddlelaw32.TransferNames', WHERE WHAT IT READS IS OF BULK AT MOST 1048576: true; the input reads as it did. -/
def transferNamesUptoRow : OpenClaim := { program := "ytflpikickbellaa", sum := "d328bd77090443bc00f7cb2adcd0addaceada7646f566bcae06223ca8ad61577", func := "raddle/raddlelaw32.TransferNames", spec := "transferNames", unfollowed := true, recurses := true, apart := false, narrowed := true }
def TransferNamesUptoSaid : Prop := transferNamesUptoRow.holds Try.pinned (OpenSpec.upto transferNamesSpec)

/-- 'raddlelaw32.TransferExact', WHERE WHAT IT READS IS OF BULK AT MOST 1048576: true; the input reads as it did. -/
def transferExactUptoRow : OpenClaim := { program := "ytflpikickbellaa", sum := "d328bd77090443bc00f7cb2adcd0addaceada7646f566bcae06223ca8ad61577", func := "raddle/raddlelaw32.TransferExact", spec := "transferExact", unfollowed := true, recurses := true, apart := false, narrowed := true }
def TransferExactUptoSaid : Prop := transferExactUptoRow.holds Try.pinned (OpenSpec.upto transferExactSpec)

end Rows
end Go.Proofs.Ytflpikickbellaa
