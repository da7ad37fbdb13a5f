/- bed.distinct: numbers pairwise different, and within bounds. -/
import Derived.Test.YtodjkifcbgmckaaSorted
import Derived.Lib.SlicesCompact
namespace Go.Proofs.Ytodjkifcbgmckaa
open Go.RowKit Go.Shelf Go.Sort
set_option maxRecDepth 100000

def distB' (l : List Int) (n : Int) : Bool := decide (∀ x ∈ l, 0 ≤ x ∧ x < n) && decide l.Nodup
theorem sortZ_perm (l : List Int) : (sortZ l).Perm l := List.mergeSort_perm l _
theorem sortZ_le (l : List Int) : (sortZ l).Pairwise (· ≤ ·) := by
  have h := List.pairwise_mergeSort (le := fun x y : Int => decide (x ≤ y)) (fun a b c h1 h2 => by simp only [decide_eq_true_eq] at *; omega) (fun a b => by simp only [Bool.or_eq_true, decide_eq_true_eq]; omega) l
  exact h.imp fun h => of_decide_eq_true h
theorem get_le {s : List Int} (h : s.Pairwise (· ≤ ·)) {i j : Nat} (hij : i ≤ j) (hj : j < s.length) : s[i]'(by omega) ≤ s[j] := by
  rcases Nat.lt_or_eq_of_le hij with e | e
  · exact List.pairwise_iff_getElem.1 h i j (by omega) hj e
  · subst e; exact Int.le_refl _
theorem compact_iff (s : List Int) : (Lib.compact s).length = s.length ↔ ∀ j (h : j + 1 < s.length), s[j + 1] ≠ s[j] := by
  unfold Lib.compact Lib.compactUpTo
  rw [List.length_map]
  have hr : (List.range s.length).length = s.length := List.length_range
  constructor
  · intro h j hj
    have h1 : ((List.range s.length).filter (Lib.keeps s.toArray)).length = (List.range s.length).length := by rw [h, hr]
    have h2 := List.length_filter_eq_length_iff.1 h1 (j + 1) (List.mem_range.2 hj)
    unfold Lib.keeps at h2
    have h3 := of_decide_eq_true h2
    rw [Nat.add_sub_cancel, getElem!_pos s.toArray (j + 1) (by simpa using hj), getElem!_pos s.toArray j (by simp; omega)] at h3
    rcases h3 with h3 | h3
    · omega
    · simpa using h3
  · intro h
    have h1 : ((List.range s.length).filter (Lib.keeps s.toArray)).length = (List.range s.length).length := by
      refine List.length_filter_eq_length_iff.2 fun j hj => ?_
      have hj' := List.mem_range.1 hj
      unfold Lib.keeps
      rw [decide_eq_true_iff]
      cases j with
      | zero => exact Or.inl rfl
      | succ j =>
        refine Or.inr ?_
        rw [Nat.add_sub_cancel, getElem!_pos s.toArray (j + 1) (by simpa using hj'), getElem!_pos s.toArray j (by simp; omega)]
        simpa using h j hj'
    rw [h1, hr]
theorem lt_of_step {s : List Int} (hle : s.Pairwise (· ≤ ·)) (h : ∀ j (h : j + 1 < s.length), s[j + 1] ≠ s[j]) : s.Nodup := by
  unfold List.Nodup
  rw [List.pairwise_iff_getElem]
  intro i j hi hj hij
  have h1 := get_le hle (i := i) (j := j - 1) (by omega) (by omega)
  have h2 := get_le hle (i := j - 1) (j := j) (by omega) hj
  have h3 := h (j - 1) (by omega)
  simp only [Nat.sub_add_cancel (show 1 ≤ j by omega)] at h3
  intro e
  omega
theorem distinct_plain {l : List Int} (hp : 0 < l.length) (n : Int) (h0 : 0 < (sortZ l).length) (hl : (sortZ l).length - 1 < (sortZ l).length) :
    (decide ((0 : Int) ≤ (sortZ l)[0]) && (decide ((sortZ l)[(sortZ l).length - 1] < n) && decide ((Lib.compact (sortZ l)).length = l.length))) = distB' l n := by
  have hle := sortZ_le l
  have hpm := sortZ_perm l
  have hsl := sortZ_len l
  have hnd : l.Nodup ↔ (sortZ l).Nodup := hpm.nodup_iff.symm
  have hmem : ∀ x, x ∈ sortZ l ↔ x ∈ l := fun x => hpm.mem_iff
  rw [← hsl]
  generalize sortZ l = s at hle hpm hsl hnd hmem h0 hl
  unfold distB'
  rw [Bool.eq_iff_iff]
  simp only [Bool.and_eq_true, decide_eq_true_eq]
  rw [hnd, compact_iff]
  constructor
  · rintro ⟨a, b, c⟩
    refine ⟨fun x hx => ?_, lt_of_step hle c⟩
    obtain ⟨i, hi, rfl⟩ := List.mem_iff_getElem.1 ((hmem x).2 hx)
    have h1 := get_le hle (i := 0) (j := i) (by omega) hi
    have h2 := get_le hle (i := i) (j := s.length - 1) (by omega) hl
    omega
  · rintro ⟨a, c⟩
    refine ⟨(a _ ((hmem _).1 (List.getElem_mem h0))).1, (a _ ((hmem _).1 (List.getElem_mem hl))).2, fun j hj e => ?_⟩
    have := List.pairwise_iff_getElem.1 c j (j + 1) (by omega) hj (by omega)
    exact this e.symm
end Go.Proofs.Ytodjkifcbgmckaa
