/- Arguments opened: a slice of instructions, a slice of ints. -/
import Derived.Test.YtodjkifcbgmckaaSlE
import Derived.Test.YtodjkifcbgmckaaLaw
import Derived.Deep.Slices
import Derived.Deep.Fields
import Derived.ChangeSame
namespace Go.Proofs.Ytodjkifcbgmckaa
open Go.ChangeShapes Go.WideShapes Go.ChangeAt Go.RowKit Go.Deep
set_option maxRecDepth 100000

section
variable {H : Type} {enc : TypeId × Value → H} {w : World} {base : Nat} {held : Bool} {spare : Nat → Bool}
theorem field_read {fs : Array Field} {n : Nat} {cs : List Value} {xs : List (DataW H × List MemPlace)} (hone : oneCellFields Try.prog fs = true) (hlen : xs.length = fs.size) (hc : cs.length = fs.size)
    (hg : ∀ (i : Nat) (f : Field), fs[i]? = some f → DataW.trod enc Try.prog w base spare held n f.type ((cs.drop f.offset).take (Try.prog.cellsOf f.type)) = xs[i]?) {j : Nat} {T : TypeId} (hT : fs[j]?.map (·.type) = some T) :
    ∃ v y, cs[j]? = some v ∧ DataW.trod enc Try.prog w base spare held n T [v] = some y := by
  obtain ⟨f, hf, rfl⟩ := Option.map_eq_some_iff.1 hT
  obtain ⟨ho, hk⟩ := hone_of hone j f hf
  have hj := (Array.getElem?_eq_some_iff.1 hf).1
  have h1 := hg j f hf
  have e : (cs.drop j).take 1 = [cs[j]'(by omega)] := by rw [List.drop_eq_getElem_cons (by omega)]; rfl
  rw [ho, hk, e, List.getElem?_eq_getElem (show j < xs.length by omega)] at h1
  exact ⟨_, _, List.getElem?_eq_getElem (by omega), h1⟩
theorem open_ints_sl {fuel : Nat} {A : Option Addr} {len cap : Nat} {x : DataW H × List MemPlace} (h : DataW.trod enc Try.prog w base (fun _ => true) held fuel 22 [.slice A len cap] = some x) :
    ∃ l : List Int, l.length = len ∧ len ≤ cap ∧ len ≤ maxLen ∧ SlI w w.heap.size A l := by
  rcases open_ints Try.underlying22 Try.underlying3 (by kernel_rfl) h with ⟨hcs, _⟩ | ⟨a, len', cap', zs, hcs, _, hl, hm, hlen, _, hc, _⟩
  · simp only [List.cons.injEq, Value.slice.injEq, and_true] at hcs
    obtain ⟨rfl, rfl, rfl⟩ := hcs
    exact ⟨[], rfl, Nat.le_refl _, Nat.zero_le _, SlI.nil⟩
  · simp only [List.cons.injEq, Value.slice.injEq, and_true] at hcs
    obtain ⟨rfl, rfl, rfl⟩ := hcs
    simp only [if_true] at hlen
    refine ⟨zs.take len, by rw [List.length_take]; omega, hl, by omega, fun hn => ?_⟩
    have hpos : 0 < len := by
      rcases Nat.eq_zero_or_pos len with e | e
      · subst e; simp at hn
      · exact e
    obtain ⟨b, off, rfl, hB⟩ := addr_form (hc 0 (by omega))
    refine ⟨b, off, rfl, hB, fun j z hz => ?_⟩
    have hj := (List.getElem?_eq_some_iff.1 hz).1
    rw [List.length_take] at hj
    have := hc j (by omega)
    rw [add_lit] at this
    rw [this, List.getD]
    rw [List.getElem?_take, if_pos (by omega)] at hz
    rw [hz]; rfl
end
end Go.Proofs.Ytodjkifcbgmckaa
