/- Layer 29: Great. -/
import Derived.Test.YtodjkifcbgmckaaHsm
namespace Go.Proofs.Ytodjkifcbgmckaa
open Go.RowKit Go.Shelf
set_option maxRecDepth 100000

def greatB (b : Brd) : Bool := decide (20 < b.to_.length) || decide (100 < b.fronts.length)
theorem great_any (A F : Option Addr) (c fc : Nat) (b : Brd) (w : World) : Calls Try.prog 14 #[.agg #[.slice A b.to_.length c, .slice F b.fronts.length fc]] w fun e w' => e = .returned (.bool (greatB b)) ∧ Below w.heap.size w w' := by
  have HB := Lib.hid ((Below.refl w.heap.size w).alloc (Nat.le_refl _) (.cells #[.slice A b.to_.length c, .slice F b.fronts.length fc] 26))
  by_cases h1 : 20 < b.to_.length
  · have d1 : decide (20 < b.to_.length) = true := decide_eq_true h1
    have d2 : decide ((20 : Int) < (b.to_.length : Int)) = true := decide_eq_true (by omega)
    have HF : Hid (greatB b = true) := by show _ = _; unfold greatB; rw [d1]; rfl
    clear h1
    go_enter Try.func14, Try.ntmps14
    go_wp2
    go_ret
    exact ⟨ret_bool HF.out.symm, HB.out⟩
  have d1 : decide (20 < b.to_.length) = false := decide_eq_false h1
  have d2 : decide ((20 : Int) < (b.to_.length : Int)) = false := decide_eq_false (by omega)
  by_cases h2 : 100 < b.fronts.length
  · have d3 : decide (100 < b.fronts.length) = true := decide_eq_true h2
    have d4 : decide ((100 : Int) < (b.fronts.length : Int)) = true := decide_eq_true (by omega)
    have HF : Hid (greatB b = true) := by show _ = _; unfold greatB; rw [d3, Bool.or_true]
    clear h1 h2
    go_enter Try.func14, Try.ntmps14
    go_wp2
    go_ret
    exact ⟨ret_bool HF.out.symm, HB.out⟩
  have d3 : decide (100 < b.fronts.length) = false := decide_eq_false h2
  have d4 : decide ((100 : Int) < (b.fronts.length : Int)) = false := decide_eq_false (by omega)
  have HF : Hid (greatB b = false) := by show _ = _; unfold greatB; rw [d1, d3]; rfl
  clear h1 h2
  go_enter Try.func14, Try.ntmps14
  go_wp2
  go_ret
  exact ⟨ret_bool HF.out.symm, HB.out⟩
/-- A braid in a box, and its lists. -/
structure BrBx (pb : Nat) (A F : Option Addr) (c fc : Nat) (to_ : List Int) (fr : List (Int × Int)) (W : World) : Prop where
  c0 : W.cell? ⟨pb, 0, none⟩ = some (.slice A to_.length c)
  c1 : W.cell? ⟨pb, 1, none⟩ = some (.slice F fr.length fc)
  tz : SlI W W.heap.size A to_
  fr : SlPr W W.heap.size F fr
theorem BrBx.to {pb : Nat} {A F : Option Addr} {c fc : Nat} {to_ : List Int} {fr : List (Int × Int)} {W W' : World} (h : BrBx pb A F c fc to_ fr W) (hb : Below W.heap.size W W') : BrBx pb A F c fc to_ fr W' :=
  ⟨(bcell hb (lt_of_cell h.c0) _).trans h.c0, (bcell hb (lt_of_cell h.c1) _).trans h.c1, (h.tz.below hb).more hb.size, (h.fr.below hb).more hb.size⟩
theorem BrBx.new {A F : Option Addr} {c fc : Nat} {to_ : List Int} {fr : List (Int × Int)} {W : World} (h : SlI W W.heap.size A to_) (h' : SlPr W W.heap.size F fr) : BrBx W.heap.size A F c fc to_ fr (W.alloc (.cells #[.slice A to_.length c, .slice F fr.length fc] 26)) :=
  ⟨cell_new rfl rfl rfl, cell_new rfl rfl rfl, (h.below ((Below.refl _ W).alloc (Nat.le_refl _) _)).more (by simp), (h'.below ((Below.refl _ W).alloc (Nat.le_refl _) _)).more (by simp)⟩
/-- The arguments of a law, as they lie: a braid, two lists. -/
structure Ag (w : World) (A F : Option Addr) (c fc : Nat) (b : Brd) (An : Option Addr) (ns : List Int) (Ap : Option Addr) (plan : List Int) (W : World) : Prop where
  lo : Below w.heap.size w W
  br : BrBx w.heap.size A F c fc b.to_ b.fronts W
  ns : SlI W W.heap.size An ns
  pl : SlI W W.heap.size Ap plan
theorem Ag.to {w W W' : World} {A F : Option Addr} {c fc : Nat} {b : Brd} {An : Option Addr} {ns : List Int} {Ap : Option Addr} {plan : List Int} (h : Ag w A F c fc b An ns Ap plan W) (hb : Below W.heap.size W W') : Ag w A F c fc b An ns Ap plan W' :=
  ⟨h.lo.trans (hb.mono h.lo.size), h.br.to hb, (h.ns.below hb).more hb.size, (h.pl.below hb).more hb.size⟩
end Go.Proofs.Ytodjkifcbgmckaa
