/-
  No cell of these rows narrows 'for every input' (looked for: loops, veiled, ifaces, maps, wideKeys, modest, calm, conditions, laid).
  DERIVED. THE GIVEN ROWS OF THIS SEAT. 4 by the template 'for every input the law returns true; each argument reads behind the call as it read before'; 0 by the template 'total and deterministic' (their statements: YthedmiilkeclaaaTotals.lean).
  GIVEN WITH THE SEED: the statements are not yours to turn. If you find one false, say at which input.
  Laid BY PROGRAM, IN A SANDBOX (cutbox-rows.mjs): the forced cells as the released guide's own fill.sh prints them over the translation 06aeff5afaefda6d… (all of the seat's roots in one cut). By AI agents, Wed Nov 11 2026. No macro, syntax, notation, axiom, sorry.
-/
import Derived.Test.YthedmiilkeclaaaChecked
import GoSem.Claim
import GoSem.ClaimJoined
import GoSem.ClaimMapViews
import Derived.JoinedTies
import Derived.KernelRfl
namespace Go.Proofs.Ythedmiilkeclaaa
/- THE CELL 'sum', in the pinned program and in every row, IS THE sha256 OF THE DUMP (.gsa) THAT YthedmiilkeclaaaProg.lean LOADS. Nothing in Lean hashes anything: it is a label: what it is worth is what the hold of that sum in a sandbox is worth. -/
noncomputable def Try.pinned : Pinned := { name := "ythedmiilkeclaaa", sum := "06aeff5afaefda6d000352da5bb14f1cd7452f23d1c9d157d7ed4b6de33fffbf", checked := Try.checked }
namespace Rows
def none {H : Type} : Left H := { results := [], args := [] }

/-- 'raddlelaw34.IntarsiaAsks': WHATEVER THE INPUT: true; the input reads as it did. -/
def intarsiaAsksSpec : ChangeSpec := { name := "intarsiaAsks", fn := fun _ => fun
  | [d1, d2, d3, d4] => { results := [.lit (.bool true)], args := [d1, d2, d3, d4] }
  | _ => none }
def intarsiaAsksRow : OpenClaim := { program := "ythedmiilkeclaaa", sum := "06aeff5afaefda6d000352da5bb14f1cd7452f23d1c9d157d7ed4b6de33fffbf", func := "raddle/raddlelaw34.IntarsiaAsks", spec := "intarsiaAsks", unfollowed := true, recurses := true, apart := false }
def IntarsiaAsksSaid : Prop := intarsiaAsksRow.holds Try.pinned (OpenSpec.ofChange intarsiaAsksSpec)

/-- ITS FALSE NEIGHBOUR: 'it returns false'. Refute it at one input. -/
def intarsiaAsksWrong : ChangeSpec := { name := "intarsiaAsks", fn := fun _ => fun
  | [d1, d2, d3, d4] => { results := [.lit (.bool false)], args := [d1, d2, d3, d4] }
  | _ => none }
def IntarsiaAsksWrongFalsely : Prop := intarsiaAsksRow.holds Try.pinned (OpenSpec.ofChange intarsiaAsksWrong)

/-- 'raddlelaw34.IntarsiaFloats': WHATEVER THE INPUT: true; the input reads as it did. -/
def intarsiaFloatsSpec : ChangeSpec := { name := "intarsiaFloats", fn := fun _ => fun
  | [d1, d2] => { results := [.lit (.bool true)], args := [d1, d2] }
  | _ => none }
def intarsiaFloatsRow : OpenClaim := { program := "ythedmiilkeclaaa", sum := "06aeff5afaefda6d000352da5bb14f1cd7452f23d1c9d157d7ed4b6de33fffbf", func := "raddle/raddlelaw34.IntarsiaFloats", spec := "intarsiaFloats", inPlace := ["slices.overlaps[raddle/api.Hook]", "slices.overlaps[raddle/api.Feed]"], unfollowed := true, recurses := true, apart := false }
def IntarsiaFloatsSaid : Prop := intarsiaFloatsRow.holds Try.pinned (OpenSpec.ofChange intarsiaFloatsSpec)

/-- ITS FALSE NEIGHBOUR: 'it returns false'. Refute it at one input. -/
def intarsiaFloatsWrong : ChangeSpec := { name := "intarsiaFloats", fn := fun _ => fun
  | [d1, d2] => { results := [.lit (.bool false)], args := [d1, d2] }
  | _ => none }
def IntarsiaFloatsWrongFalsely : Prop := intarsiaFloatsRow.holds Try.pinned (OpenSpec.ofChange intarsiaFloatsWrong)

/-- 'raddlelaw34.IntarsiaFewest': WHATEVER THE INPUT: true; the input reads as it did. -/
def intarsiaFewestSpec : ChangeSpec := { name := "intarsiaFewest", fn := fun _ => fun
  | [d1, d2, d3] => { results := [.lit (.bool true)], args := [d1, d2, d3] }
  | _ => none }
def intarsiaFewestRow : OpenClaim := { program := "ythedmiilkeclaaa", sum := "06aeff5afaefda6d000352da5bb14f1cd7452f23d1c9d157d7ed4b6de33fffbf", func := "raddle/raddlelaw34.IntarsiaFewest", spec := "intarsiaFewest", inPlace := ["slices.overlaps[raddle/api.Hook]", "slices.overlaps[raddle/api.Feed]"], unfollowed := true, recurses := true, apart := false }
def IntarsiaFewestSaid : Prop := intarsiaFewestRow.holds Try.pinned (OpenSpec.ofChange intarsiaFewestSpec)

/-- ITS FALSE NEIGHBOUR: 'it returns false'. Refute it at one input. -/
def intarsiaFewestWrong : ChangeSpec := { name := "intarsiaFewest", fn := fun _ => fun
  | [d1, d2, d3] => { results := [.lit (.bool false)], args := [d1, d2, d3] }
  | _ => none }
def IntarsiaFewestWrongFalsely : Prop := intarsiaFewestRow.holds Try.pinned (OpenSpec.ofChange intarsiaFewestWrong)

/-- 'raddlelaw34.IntarsiaMirrors': WHATEVER THE INPUT: true; the input reads as it did. -/
def intarsiaMirrorsSpec : ChangeSpec := { name := "intarsiaMirrors", fn := fun _ => fun
  | [d1, d2, d3, d4] => { results := [.lit (.bool true)], args := [d1, d2, d3, d4] }
  | _ => none }
def intarsiaMirrorsRow : OpenClaim := { program := "ythedmiilkeclaaa", sum := "06aeff5afaefda6d000352da5bb14f1cd7452f23d1c9d157d7ed4b6de33fffbf", func := "raddle/raddlelaw34.IntarsiaMirrors", spec := "intarsiaMirrors", inPlace := ["slices.overlaps[raddle/api.Hook]", "slices.overlaps[raddle/api.Feed]"], unfollowed := true, recurses := true, apart := false }
def IntarsiaMirrorsSaid : Prop := intarsiaMirrorsRow.holds Try.pinned (OpenSpec.ofChange intarsiaMirrorsSpec)

/-- ITS FALSE NEIGHBOUR: 'it returns false'. Refute it at one input. -/
def intarsiaMirrorsWrong : ChangeSpec := { name := "intarsiaMirrors", fn := fun _ => fun
  | [d1, d2, d3, d4] => { results := [.lit (.bool false)], args := [d1, d2, d3, d4] }
  | _ => none }
def IntarsiaMirrorsWrongFalsely : Prop := intarsiaMirrorsRow.holds Try.pinned (OpenSpec.ofChange intarsiaMirrorsWrong)

/- THE SECOND FORM. 'bulk': how many values and letters a reading holds, each counted each time it is reached (what is shared counts as often as it is met; a slice's spare places count too). A statement '..UptoSaid' is the law's where the arguments, and the package variables that the reading takes, are together of bulk at most 1048576: NARROWER than '..Said'. Prove '..Said' where nothing that the law and all that it calls make is longer than what came in: it says more and counts as full. Else prove '..UptoSaid'. A law counts once. -/
mutual
def uptoBulk {H : Type} : DataW H → Nat
  | .lit (.string bytes) => bytes.length + 1
  | .lit _ => 1
  | .nil => 1
  | .ptr d => uptoBulk d + 1
  | .slice elems spare => uptoBulkAll elems + uptoBulkAll spare + 1
  | .agg parts => uptoBulkAll parts + 1
  | .iface _ d => uptoBulk d + 1
  | .map entries => uptoBulkEntries entries + 1
  | .held _ => 1
def uptoBulkAll {H : Type} : List (DataW H) → Nat
  | [] => 0
  | d :: r => uptoBulk d + uptoBulkAll r
def uptoBulkEntries {H : Type} : List (Lit × DataW H) → Nat
  | [] => 0
  | x :: r => uptoBulkEntry x + uptoBulkEntries r
def uptoBulkEntry {H : Type} : Lit × DataW H → Nat
  | (.string bytes, d) => bytes.length + uptoBulk d + 1
  | (_, d) => uptoBulk d + 1
 end
def uptoSmall : (H : Type) → List (DataW H) → Bool := fun _ ds => decide (uptoBulkAll ds ≤ 1048576)
def OpenSpec.upto (s : _root_.Go.ChangeSpec) : _root_.Go.OpenSpec := { _root_.Go.OpenSpec.ofChange s with cond := some uptoSmall }

/-- 'raddlelaw34.IntarsiaAsks', WHERE WHAT IT READS IS OF BULK AT MOST 1048576: true; the input reads as it did. -/
def intarsiaAsksUptoRow : OpenClaim := { program := "ythedmiilkeclaaa", sum := "06aeff5afaefda6d000352da5bb14f1cd7452f23d1c9d157d7ed4b6de33fffbf", func := "raddle/raddlelaw34.IntarsiaAsks", spec := "intarsiaAsks", unfollowed := true, recurses := true, apart := false, narrowed := true }
def IntarsiaAsksUptoSaid : Prop := intarsiaAsksUptoRow.holds Try.pinned (OpenSpec.upto intarsiaAsksSpec)

/-- 'raddlelaw34.IntarsiaFloats', WHERE WHAT IT READS IS OF BULK AT MOST 1048576: true; the input reads as it did. -/
def intarsiaFloatsUptoRow : OpenClaim := { program := "ythedmiilkeclaaa", sum := "06aeff5afaefda6d000352da5bb14f1cd7452f23d1c9d157d7ed4b6de33fffbf", func := "raddle/raddlelaw34.IntarsiaFloats", spec := "intarsiaFloats", inPlace := ["slices.overlaps[raddle/api.Hook]", "slices.overlaps[raddle/api.Feed]"], unfollowed := true, recurses := true, apart := false, narrowed := true }
def IntarsiaFloatsUptoSaid : Prop := intarsiaFloatsUptoRow.holds Try.pinned (OpenSpec.upto intarsiaFloatsSpec)

/-- 'raddlelaw34.IntarsiaFewest', WHERE WHAT IT READS IS OF BULK AT MOST 1048576: true; the input reads as it did. -/
def intarsiaFewestUptoRow : OpenClaim := { program := "ythedmiilkeclaaa", sum := "06aeff5afaefda6d000352da5bb14f1cd7452f23d1c9d157d7ed4b6de33fffbf", func := "raddle/raddlelaw34.IntarsiaFewest", spec := "intarsiaFewest", inPlace := ["slices.overlaps[raddle/api.Hook]", "slices.overlaps[raddle/api.Feed]"], unfollowed := true, recurses := true, apart := false, narrowed := true }
def IntarsiaFewestUptoSaid : Prop := intarsiaFewestUptoRow.holds Try.pinned (OpenSpec.upto intarsiaFewestSpec)

/-- 'raddlelaw34.IntarsiaMirrors', WHERE WHAT IT READS IS OF BULK AT MOST 1048576: true; the input reads as it did. -/
def intarsiaMirrorsUptoRow : OpenClaim := { program := "ythedmiilkeclaaa", sum := "06aeff5afaefda6d000352da5bb14f1cd7452f23d1c9d157d7ed4b6de33fffbf", func := "raddle/raddlelaw34.IntarsiaMirrors", spec := "intarsiaMirrors", inPlace := ["slices.overlaps[raddle/api.Hook]", "slices.overlaps[raddle/api.Feed]"], unfollowed := true, recurses := true, apart := false, narrowed := true }
def IntarsiaMirrorsUptoSaid : Prop := intarsiaMirrorsUptoRow.holds Try.pinned (OpenSpec.upto intarsiaMirrorsSpec)

end Rows
end Go.Proofs.Ythedmiilkeclaaa
