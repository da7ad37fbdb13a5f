/- Layer 29, plain: the pairs that cross in front, as two loops find them. -/
import Derived.Test.YtodjkifcbgmckaaHp1
namespace Go.Proofs.Ytodjkifcbgmckaa
open Go.RowKit
set_option maxRecDepth 100000

def frP (to_ deep : List Int) (a b : Nat) : Bool := chg to_ a b && decide (deep.getD b 0 < deep.getD a 0)
/-- The pairs of a, up to b. -/
def frB (to_ deep : List Int) (a b : Nat) : List (Int × Int) := ((List.range b).filter (frP to_ deep a)).map fun (y : Nat) => ((a : Int), (y : Int))
def frA (n : Nat) (to_ deep : List Int) (a : Nat) : List (Int × Int) := (List.range a).flatMap fun (x : Nat) => frB to_ deep x n
theorem fr_all (n : Nat) (to_ deep : List Int) : rpFronts n to_ deep = frA n to_ deep n := rfl
theorem fr_start (to_ deep : List Int) (a : Nat) : frB to_ deep a (a + 1) = [] := by
  unfold frB
  rw [List.filter_eq_nil_iff.2]
  · rfl
  · intro b hb
    have : b < a + 1 := List.mem_range.1 hb
    unfold frP chg
    rw [decide_eq_false (by omega)]
    simp
theorem fr_step (to_ deep : List Int) (a b : Nat) : frB to_ deep a (b + 1) = if frP to_ deep a b = true then frB to_ deep a b ++ [((a : Int), (b : Int))] else frB to_ deep a b := by
  unfold frB
  rw [List.range_succ, List.filter_append, List.map_append]
  cases h : frP to_ deep a b with
  | true => rw [if_pos rfl, List.filter_cons_of_pos (by rw [h]), List.filter_nil]; rfl
  | false => rw [if_neg (by simp), List.filter_cons_of_neg (by rw [h]; simp), List.filter_nil, List.map_nil, List.append_nil]
theorem fr_next (n : Nat) (to_ deep : List Int) (a : Nat) : frA n to_ deep (a + 1) = frA n to_ deep a ++ frB to_ deep a n := by
  unfold frA
  rw [List.range_succ, List.flatMap_append]
  simp
theorem frB_len (to_ deep : List Int) (a b : Nat) : (frB to_ deep a b).length ≤ b := by
  unfold frB
  rw [List.length_map]
  exact Nat.le_trans (List.length_filter_le _ _) (by rw [List.length_range]; exact Nat.le_refl _)
theorem frA_len (n : Nat) (to_ deep : List Int) : ∀ a, (frA n to_ deep a).length ≤ a * n
  | 0 => by simp [frA]
  | a + 1 => by
    rw [fr_next, List.length_append]
    have h1 := frA_len n to_ deep a
    have h2 := frB_len to_ deep a n
    rw [Nat.add_mul, Nat.one_mul]
    omega
/-- The cells of pairs. -/
def prCells (l : List (Int × Int)) : List Value := (l.map fun p => [Value.int .i64 p.1, Value.int .i64 p.2]).flatten
theorem pr_snoc (l : List (Int × Int)) (p : Int × Int) : prCells (l ++ [p]) = prCells l ++ [.int .i64 p.1, .int .i64 p.2] := by unfold prCells; simp
end Go.Proofs.Ytodjkifcbgmckaa
