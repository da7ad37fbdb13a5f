/- Layer 29, plain: Of, as the reference builds it. -/
import Derived.Test.YtodjkifcbgmckaaHof2
namespace Go.Proofs.Ytodjkifcbgmckaa
open Go.RowKit
set_option maxRecDepth 100000

/-- What the reference has appended: i loops of the first part. -/
def toA (b i : Nat) : List Int := (List.range i).map fun j => ((b + j : Nat) : Int)
def toB (i : Nat) : List Int := (List.range i).map fun (j : Nat) => (j : Int)
theorem toA_next (b i : Nat) : toA b (i + 1) = toA b i ++ [((b + i : Nat) : Int)] := by unfold toA; rw [List.range_succ, List.map_append]; rfl
theorem toB_next (i : Nat) : toB (i + 1) = toB i ++ [(i : Int)] := by unfold toB; rw [List.range_succ, List.map_append]; rfl
theorem toC_parts (a b : Nat) : toC a b = toA b a ++ toB b := by
  refine List.ext_getElem? fun j => ?_
  unfold toC toA toB
  by_cases hj : j < a
  · rw [List.getElem?_append_left (by simpa using hj), List.getElem?_map, List.getElem?_map, List.getElem?_range (by omega), List.getElem?_range hj]
    simp only [Option.map_some]
    rw [Nat.mod_eq_of_lt (by omega), Nat.add_comm]
  · rw [List.getElem?_append_right (by simp; omega)]
    simp only [List.length_map, List.length_range]
    rw [List.getElem?_map, List.getElem?_map]
    by_cases hb : j < a + b
    · rw [List.getElem?_range hb, List.getElem?_range (by omega)]
      simp only [Option.map_some]
      rw [show j + b = (j - a) + (a + b) by omega, Nat.add_mod_right, Nat.mod_eq_of_lt (by omega)]
    · rw [List.getElem?_eq_none (by simp; omega), List.getElem?_eq_none (by simp; omega)]
      rfl
/-- Behind the first part no pair is found. -/
theorem frC_all (q : Bool) (a b : Nat) : ∀ d, frC q a b (a + d) = frC q a b a
  | 0 => rfl
  | d + 1 => by
    rw [← Nat.add_assoc, frC_next, frC_all q a b d, frK_not (fun h => by omega), List.append_nil]
theorem frC_not (a b : Nat) : ∀ n, frC false a b n = []
  | 0 => rfl
  | n + 1 => by rw [frC_next, frC_not a b n, frK_not (fun h => by cases h.1)]; rfl
end Go.Proofs.Ytodjkifcbgmckaa
