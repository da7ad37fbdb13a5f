/- Arguments opened: a slice whose elements read. -/
import Derived.Test.YtodjkifcbgmckaaOpen
namespace Go.Proofs.Ytodjkifcbgmckaa
open Go.ChangeShapes Go.WideShapes Go.ChangeAt Go.RowKit Go.Deep
set_option maxRecDepth 100000

section
variable {H : Type} {enc : TypeId × Value → H} {w : World} {base : Nat} {held : Bool}
/-- A slice whose elements read, opened. -/
theorem open_elems {α : Type} [Inhabited α] {t e : TypeId} {k : Nat} (ht : Try.prog.underlying t = some (.slice e)) (hC : Try.prog.cellsOf e = k) (hk : 0 < k) (Q : α → List Value → Prop)
    (hread : ∀ (n : Nat) (cs : List Value) (x : DataW H × List MemPlace), DataW.trod enc Try.prog w base (fun _ => true) held n e cs = some x → ∃ r, Q r cs) {fuel : Nat} {cs : List Value} {x : DataW H × List MemPlace} (h : DataW.trod enc Try.prog w base (fun _ => true) held fuel t cs = some x) :
    ∃ (A : Option Addr) (l : List α) (cap : Nat), cs = [.slice A l.length cap] ∧ l.length ≤ cap ∧ l.length ≤ maxLen ∧ (∀ r ∈ l, ∃ c, Q r c) ∧ (l ≠ [] → ∃ b off, A = some ⟨b, off, none⟩ ∧ b < w.heap.size ∧ ∀ (j : Nat) (r : α), l[j]? = some r → ∃ cs' : List Value, Q r cs' ∧ cs'.length = k ∧ ∀ (i : Nat) (v : Value), cs'[i]? = some v → w.cell? ⟨b, off + j * k + i, none⟩ = some v) := by
  rcases open_slice ht h with ⟨hcs, _⟩ | ⟨a, len, cap, m, n, D, Pl, hcs, _, hl, hm, hmm, _, hr⟩
  · exact ⟨none, [], 0, hcs, Nat.le_refl _, Nat.zero_le _, by simp, fun h => absurd rfl h⟩
  · rw [hC] at hr
    simp only [if_true] at hmm
    have hone : ∀ j, j < len → ∃ r : α, ∃ cs' : List Value, Q r cs' ∧ cs'.length = k ∧ ∀ (i : Nat) (v : Value), cs'[i]? = some v → w.cell? ((a.add (j * k)).add i) = some v := fun j hj => by
      obtain ⟨cs', hc, ht⟩ := hr j (by omega)
      obtain ⟨_, hcl, hat⟩ := World.cells?_some hc
      obtain ⟨r, hq⟩ := hread _ _ _ ht
      exact ⟨r, cs', hq, hcl, fun i v hv => by
        have hi := (List.getElem?_eq_some_iff.1 hv).1
        rw [hat i (by omega)]; exact hv⟩
    refine ⟨some a, (List.range len).map fun j => if hj : j < len then Classical.choose (hone j hj) else default, cap, by rw [hcs]; simp, by simpa using hl, by simp; omega, fun r hr' => ?_, fun hn => ?_⟩
    · obtain ⟨j, hj, rfl⟩ := List.mem_map.1 hr'
      have hj' := List.mem_range.1 hj
      rw [dif_pos hj']
      obtain ⟨c, hc, _⟩ := Classical.choose_spec (hone j hj')
      exact ⟨c, hc⟩
    · have hpos : 0 < len := by
        rcases Nat.eq_zero_or_pos len with e | e
        · subst e; simp at hn
        · exact e
      obtain ⟨r0, cs0, -, hl0, h0'⟩ := hone 0 hpos
      have h0 := h0' 0 _ (List.getElem?_eq_getElem (by omega))
      rw [Nat.zero_mul] at h0
      have e0 : (a.add 0) = a := by simp [Addr.add]
      rw [e0] at h0
      obtain ⟨b, off, rfl, hB⟩ := addr_form h0
      refine ⟨b, off, rfl, hB, fun j r hz => ?_⟩
      rw [List.getElem?_map] at hz
      have hjl : j < len := by
        rcases Nat.lt_or_ge j len with e | e
        · exact e
        · rw [List.getElem?_eq_none (by simpa using e)] at hz; cases hz
      rw [List.getElem?_range hjl] at hz
      simp only [Option.map_some, Option.some.injEq] at hz
      rw [dif_pos hjl] at hz
      obtain ⟨c, h1, h2, h3⟩ := Classical.choose_spec (hone j hjl)
      subst hz
      refine ⟨c, h1, h2, fun i v hv => ?_⟩
      have := h3 i v hv
      rw [add_lit, add_lit] at this
      exact this
theorem open_ints2 {fuel : Nat} {cs : List Value} {x : DataW H × List MemPlace} (h : DataW.trod enc Try.prog w base (fun _ => true) held fuel 22 cs = some x) :
    ∃ (A : Option Addr) (l : List Int) (cap : Nat), cs = [.slice A l.length cap] ∧ l.length ≤ cap ∧ SlI w w.heap.size A l := by
  rcases open_slice Try.underlying22 h with ⟨hcs, _⟩ | ⟨a, len, cap, _, _, _, _, hcs, _⟩
  · exact ⟨none, [], 0, hcs, Nat.le_refl _, SlI.nil⟩
  · rw [hcs] at h
    obtain ⟨l, hl, hlc, _, hs⟩ := open_ints_sl h
    exact ⟨some a, l, cap, by rw [hcs, hl], by omega, hs⟩
end
end Go.Proofs.Ytodjkifcbgmckaa
