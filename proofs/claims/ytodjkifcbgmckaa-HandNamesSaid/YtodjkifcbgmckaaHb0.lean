/- Layer 29, plain: what Check asks of a braid. -/
import Derived.Test.YtodjkifcbgmckaaHcP
namespace Go.Proofs.Ytodjkifcbgmckaa
open Go.RowKit Go.Shelf Go.Sort
set_option maxRecDepth 100000

/-- The numbers 0 .. n - 1, each once. -/
def permB (l : List Int) : Bool := decide (∀ x ∈ l, 0 ≤ x ∧ x < (l.length : Int)) && decide l.Nodup
theorem sorted_lo {s : List Int} (h : s.Pairwise (· < ·)) (h0 : ∀ x ∈ s, 0 ≤ x) : ∀ (j : Nat) (hj : j < s.length), (j : Int) ≤ s[j]
  | 0, hj => by have := h0 s[0] (List.getElem_mem hj); omega
  | j + 1, hj => by
    have h1 := sorted_lo h h0 j (by omega)
    have h2 := List.pairwise_iff_getElem.1 h j (j + 1) (by omega) hj (by omega)
    omega
theorem sorted_hi {s : List Int} {n : Nat} (h : s.Pairwise (· < ·)) (h0 : ∀ x ∈ s, x < (n : Int)) : ∀ (d j : Nat) (hj : j < s.length), j + d + 1 = s.length → s[j] + (d : Int) < (n : Int)
  | 0, j, hj, _ => by have := h0 s[j] (List.getElem_mem hj); omega
  | d + 1, j, hj, e => by
    have h1 := sorted_hi h h0 d (j + 1) (by omega) (by omega)
    have h2 := List.pairwise_iff_getElem.1 h j (j + 1) hj (by omega) (by omega)
    omega
theorem sort_perm (l : List Int) : permB l = true ↔ ∀ (j : Nat) (x : Int), (sortZ l)[j]? = some x → x = (j : Int) := by
  have hpm := sortZ_perm l
  have hle := sortZ_le l
  have hln := sortZ_len l
  unfold permB
  rw [Bool.and_eq_true, decide_eq_true_iff, decide_eq_true_iff]
  constructor
  · rintro ⟨h1, h2⟩ j x hx
    obtain ⟨hj, rfl⟩ := List.getElem?_eq_some_iff.1 hx
    have hnd : (sortZ l).Nodup := hpm.nodup_iff.2 h2
    have hlt : (sortZ l).Pairwise (· < ·) := by
      rw [List.pairwise_iff_getElem]
      intro a b ha hb hab
      have e1 := List.pairwise_iff_getElem.1 hle a b ha hb hab
      have e2 := List.pairwise_iff_getElem.1 hnd a b ha hb hab
      omega
    have g1 := sorted_lo hlt (fun y hy => (h1 y (hpm.mem_iff.1 hy)).1) j hj
    have g2 := sorted_hi (n := l.length) hlt (fun y hy => (h1 y (hpm.mem_iff.1 hy)).2) ((sortZ l).length - j - 1) j hj (by omega)
    omega
  · intro h
    refine ⟨fun x hx => ?_, ?_⟩
    · obtain ⟨j, hj⟩ := List.mem_iff_getElem?.1 (hpm.mem_iff.2 hx)
      have := h j x hj
      have hjl := (List.getElem?_eq_some_iff.1 hj).1
      omega
    · rw [← hpm.nodup_iff]
      unfold List.Nodup
      rw [List.pairwise_iff_getElem]
      intro a b ha hb hab
      have e1 := h a _ (List.getElem?_eq_getElem ha)
      have e2 := h b _ (List.getElem?_eq_getElem hb)
      omega
/-- The reference's loop: the first i numbers are within bounds and different. -/
def permTo (l : List Int) (i : Nat) : Prop := ∀ (j : Nat) (x : Int), j < i → l[j]? = some x → (0 ≤ x ∧ x < (l.length : Int)) ∧ ∀ (k : Nat), k < j → l[k]? ≠ some x
theorem permTo_all {l : List Int} (h : permTo l l.length) : permB l = true := by
  unfold permB
  rw [Bool.and_eq_true, decide_eq_true_iff, decide_eq_true_iff]
  refine ⟨fun x hx => ?_, ?_⟩
  · obtain ⟨j, hj⟩ := List.mem_iff_getElem?.1 hx
    exact (h j x (List.getElem?_eq_some_iff.1 hj).1 hj).1
  · unfold List.Nodup
    rw [List.pairwise_iff_getElem]
    intro a b ha hb hab e
    exact (h b l[b] hb (List.getElem?_eq_getElem hb)).2 a hab (by rw [List.getElem?_eq_getElem ha, e])
theorem perm_out {l : List Int} {j : Nat} {x : Int} (hj : l[j]? = some x) (hx : ¬ (0 ≤ x ∧ x < (l.length : Int))) : permB l = false := by
  rw [Bool.eq_false_iff]
  intro h
  unfold permB at h
  rw [Bool.and_eq_true, decide_eq_true_iff] at h
  exact hx (h.1 x (List.mem_of_getElem? hj))
theorem perm_dup {l : List Int} {j k : Nat} {x : Int} (hj : l[j]? = some x) (hk : l[k]? = some x) (hkj : k < j) : permB l = false := by
  rw [Bool.eq_false_iff]
  intro h
  unfold permB at h
  rw [Bool.and_eq_true, decide_eq_true_iff (p := l.Nodup)] at h
  obtain ⟨hjl, ej⟩ := List.getElem?_eq_some_iff.1 hj
  obtain ⟨hkl, ek⟩ := List.getElem?_eq_some_iff.1 hk
  exact (List.pairwise_iff_getElem.1 h.2 k j hkl hjl hkj) (by rw [ej, ek])
/-- A pair that crosses in front. -/
def frontOk (to_ : List Int) (p : Int × Int) : Bool := decide (0 ≤ p.1 ∧ p.1 < p.2 ∧ p.2 < (to_.length : Int) ∧ to_.getD p.2.toNat 0 < to_.getD p.1.toNat 0)
def ltP (p q : Int × Int) : Bool := decide (p.1 < q.1 ∨ (p.1 = q.1 ∧ p.2 < q.2))
def frTo (to_ : List Int) (l : List (Int × Int)) (i : Nat) : Prop := ∀ (j : Nat) (p : Int × Int), j < i → l[j]? = some p → frontOk to_ p = true ∧ ∀ q, 0 < j → l[j - 1]? = some q → ltP q p = true
def frontsB (to_ : List Int) (l : List (Int × Int)) : Bool := decide (∀ j, (hj : j < l.length) → frontOk to_ l[j] = true ∧ (0 < j → ltP (l.getD (j - 1) (0, 0)) l[j] = true))
theorem fr_iff {to_ : List Int} {l : List (Int × Int)} : frontsB to_ l = true ↔ frTo to_ l l.length := by
  unfold frontsB frTo
  rw [decide_eq_true_iff]
  constructor
  · intro h j p hj hp
    obtain ⟨hjl, rfl⟩ := List.getElem?_eq_some_iff.1 hp
    refine ⟨(h j hjl).1, fun q h0 hq => ?_⟩
    have := (h j hjl).2 h0
    rw [List.getD_eq_getElem?_getD, hq] at this
    exact this
  · intro h j hj
    refine ⟨(h j _ hj (List.getElem?_eq_getElem hj)).1, fun h0 => ?_⟩
    have hj1 : j - 1 < l.length := by omega
    have := (h j _ hj (List.getElem?_eq_getElem hj)).2 l[j - 1] h0 (List.getElem?_eq_getElem hj1)
    rw [List.getD_eq_getElem?_getD, List.getElem?_eq_getElem hj1]
    exact this
/-- What Check answers. -/
def brdE (b : Brd) : Int := if 8 < b.to_.length then 4 else if permB b.to_ && frontsB b.to_ b.fronts then 0 else 8
end Go.Proofs.Ytodjkifcbgmckaa
