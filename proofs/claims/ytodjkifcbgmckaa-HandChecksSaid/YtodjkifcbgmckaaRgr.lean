/- Layer 29: Great. -/
import Derived.Test.YtodjkifcbgmckaaHrP
namespace Go.Proofs.Ytodjkifcbgmckaa
open Go.RowKit Go.Shelf
set_option maxRecDepth 100000

def greatB (b : Brd) : Bool := decide (20 < b.to_.length) || decide (100 < b.fronts.length)
theorem great_any (A F : Option Addr) (c fc : Nat) (b : Brd) (w : World) : Calls Try.prog 14 #[.agg #[.slice A b.to_.length c, .slice F b.fronts.length fc]] w fun e w' => e = .returned (.bool (greatB b)) ∧ Below w.heap.size w w' := by
  have HB := Lib.hid ((Below.refl w.heap.size w).alloc (Nat.le_refl _) (.cells #[.slice A b.to_.length c, .slice F b.fronts.length fc] 26))
  by_cases h1 : 20 < b.to_.length
  · have d1 : decide (20 < b.to_.length) = true := decide_eq_true h1
    have d2 : decide ((20 : Int) < (b.to_.length : Int)) = true := decide_eq_true (by omega)
    have HF : Hid (greatB b = true) := by show _ = _; unfold greatB; rw [d1]; rfl
    clear h1
    go_enter Try.func14, Try.ntmps14
    go_wp2
    go_ret
    exact ⟨ret_bool HF.out.symm, HB.out⟩
  have d1 : decide (20 < b.to_.length) = false := decide_eq_false h1
  have d2 : decide ((20 : Int) < (b.to_.length : Int)) = false := decide_eq_false (by omega)
  by_cases h2 : 100 < b.fronts.length
  · have d3 : decide (100 < b.fronts.length) = true := decide_eq_true h2
    have d4 : decide ((100 : Int) < (b.fronts.length : Int)) = true := decide_eq_true (by omega)
    have HF : Hid (greatB b = true) := by show _ = _; unfold greatB; rw [d3, Bool.or_true]
    clear h1 h2
    go_enter Try.func14, Try.ntmps14
    go_wp2
    go_ret
    exact ⟨ret_bool HF.out.symm, HB.out⟩
  have d3 : decide (100 < b.fronts.length) = false := decide_eq_false h2
  have d4 : decide ((100 : Int) < (b.fronts.length : Int)) = false := decide_eq_false (by omega)
  have HF : Hid (greatB b = false) := by show _ = _; unfold greatB; rw [d1, d3]; rfl
  clear h1 h2
  go_enter Try.func14, Try.ntmps14
  go_wp2
  go_ret
  exact ⟨ret_bool HF.out.symm, HB.out⟩
end Go.Proofs.Ytodjkifcbgmckaa
