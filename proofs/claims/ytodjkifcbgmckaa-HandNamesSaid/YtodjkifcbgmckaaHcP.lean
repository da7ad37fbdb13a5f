/- Layer 29, plain: the cable needles. -/
import Derived.Test.YtodjkifcbgmckaaHp2
import Derived.Test.YtodjkifcbgmckaaDist
namespace Go.Proofs.Ytodjkifcbgmckaa
open Go.RowKit Go.Shelf Go.Sort
set_option maxRecDepth 100000

theorem nodup_compact (l : List Int) : (Lib.compact (sortZ l)).length = l.length ↔ l.Nodup := by
  have hle := sortZ_le l
  have hpm := sortZ_perm l
  rw [← sortZ_len l, compact_iff, ← hpm.nodup_iff]
  refine ⟨lt_of_step hle, fun h j hj e => ?_⟩
  unfold List.Nodup at h
  exact List.pairwise_iff_getElem.1 h j (j + 1) (by omega) hj (by omega) e.symm
theorem compact_le (s : List Int) : (Lib.compact s).length ≤ s.length := by
  unfold Lib.compact Lib.compactUpTo
  rw [List.length_map]
  exact Nat.le_trans (List.length_filter_le _ _) (by rw [List.length_range]; exact Nat.le_refl _)
theorem compact_lt (l : List Int) : decide (((Lib.compact (sortZ l)).length : Int) < (l.length : Int)) = !decide l.Nodup := by
  have h1 := compact_le (sortZ l)
  rw [sortZ_len] at h1
  have h2 := nodup_compact l
  by_cases h : l.Nodup
  · rw [decide_eq_true h, decide_eq_false (by have := h2.2 h; omega)]; rfl
  · rw [decide_eq_false h, decide_eq_true (by have : ¬ (Lib.compact (sortZ l)).length = l.length := fun e => h (h2.1 e); omega)]; rfl
/-- The least and the greatest, as the program asks for them. -/
theorem cab_iff (l : List Int) : cabB l = (decide (l.length ≤ 4) && (!decide ((0 : Int) ∈ l) && (decide l.Nodup && decide (∀ x ∈ l, -4 ≤ x ∧ x ≤ 4)))) := by
  unfold cabB
  rw [Bool.eq_iff_iff]
  simp only [Bool.and_eq_true, decide_eq_true_iff, Bool.not_eq_true', decide_eq_false_iff_not]
  constructor
  · rintro ⟨⟨h1, h2⟩, h3⟩
    exact ⟨h1, fun h => (h2 0 h).1 rfl, h3, fun x hx => (h2 x hx).2⟩
  · rintro ⟨h1, h2, h3, h4⟩
    exact ⟨⟨h1, fun x hx => ⟨fun e => h2 (e ▸ hx), h4 x hx⟩⟩, h3⟩
/-- The reference's loops: the first i numbers are fit. -/
def cabTo (l : List Int) (i : Nat) : Prop := ∀ (j : Nat) (x : Int), j < i → l[j]? = some x → (x ≠ 0 ∧ -4 ≤ x ∧ x ≤ 4) ∧ ∀ (k : Nat) (y : Int), k < j → l[k]? = some y → y ≠ x
theorem cabTo_all {l : List Int} (h : cabTo l l.length) (hl : l.length ≤ 4) : cabB l = true := by
  unfold cabB
  rw [Bool.and_eq_true, Bool.and_eq_true, decide_eq_true_iff, decide_eq_true_iff, decide_eq_true_iff]
  refine ⟨⟨hl, fun x hx => ?_⟩, ?_⟩
  · obtain ⟨j, hj⟩ := List.mem_iff_getElem?.1 hx
    exact (h j x (List.getElem?_eq_some_iff.1 hj).1 hj).1
  · unfold List.Nodup
    rw [List.pairwise_iff_getElem]
    intro i j hi hj hij
    exact (h j l[j] hj (List.getElem?_eq_getElem hj)).2 i l[i] hij (List.getElem?_eq_getElem hi)
theorem cab_bad {l : List Int} {j : Nat} {x : Int} (hj : l[j]? = some x) (hx : ¬ (x ≠ 0 ∧ -4 ≤ x ∧ x ≤ 4)) : cabB l = false := by
  rw [Bool.eq_false_iff]
  intro h
  unfold cabB at h
  rw [Bool.and_eq_true, Bool.and_eq_true, decide_eq_true_iff, decide_eq_true_iff] at h
  exact hx (h.1.2 x (List.mem_of_getElem? hj))
theorem cab_dup {l : List Int} {j k : Nat} {x : Int} (hj : l[j]? = some x) (hk : l[k]? = some x) (hkj : k < j) : cabB l = false := by
  rw [Bool.eq_false_iff]
  intro h
  unfold cabB at h
  rw [Bool.and_eq_true, decide_eq_true_iff (p := l.Nodup)] at h
  obtain ⟨hjl, ej⟩ := List.getElem?_eq_some_iff.1 hj
  obtain ⟨hkl, ek⟩ := List.getElem?_eq_some_iff.1 hk
  exact (List.pairwise_iff_getElem.1 h.2 k j hkl hjl hkj) (by rw [ej, ek])
theorem cab_long {l : List Int} (h : 4 < l.length) : cabB l = false := by
  unfold cabB
  rw [decide_eq_false (by omega)]
  rfl
end Go.Proofs.Ytodjkifcbgmckaa
