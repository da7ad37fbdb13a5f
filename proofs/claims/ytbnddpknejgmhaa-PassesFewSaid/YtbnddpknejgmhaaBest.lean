/- Layer 31, plain: parts of passes are passes; the greedy passes are a partition, and the fewest. -/
import Derived.Test.YtbnddpknejgmhaaPlain
namespace Go.Proofs.Ytbnddpknejgmhaa
open Go.RowKit
set_option maxRecDepth 100000

theorem getD_drop' (l : List Ins) (d j : Nat) : (l.drop d).getD j ins0 = l.getD (d + j) ins0 := by
  rw [List.getD, List.getD, List.getElem?_drop]
theorem names_part {rack : Int} {l : List Ins} {k : Nat} (h : stepR rack l k = true) (hg : groupI (l.getD 0 ins0) ≠ 1) : ∀ q, q < k → namesB (l.getD q ins0) (l.getD k ins0) = false := by
  unfold stepR at h
  rw [if_neg hg, Bool.and_eq_true] at h
  intro q hq
  have := List.all_eq_true.1 h.2 q (List.mem_range.2 hq)
  simpa using this
theorem way_part {rack : Int} {l : List Ins} {k : Nat} (h : stepR rack l k = true) (hg : groupI (l.getD 0 ins0) = 1) : (l.getD k ins0).car = (l.getD 0 ins0).car ∧ (l.getD k ins0).right = (l.getD 0 ins0).right := by
  unfold stepR wayR at h
  rw [if_pos hg, Bool.and_eq_true, Bool.and_eq_true, Bool.and_eq_true] at h
  exact ⟨of_decide_eq_true h.2.1.1, of_decide_eq_true h.2.1.2⟩
/-- A step within a pass is a step of its end, too. -/
theorem step_shift {rack : Int} {l : List Ins} {n d j : Nat} (hs : ∀ q, 1 ≤ q → q < n → stepR rack l q = true) (hd : 0 < d) (hj : 1 ≤ j) (hjn : d + j < n) : stepR rack (l.drop d) j = true := by
  have h1 := hs (d + j) (by omega) hjn
  have h0 := hs d (by omega) (by omega)
  have g0 := step_group h0
  have g1 := step_group h1
  unfold stepR
  rw [getD_drop', getD_drop', getD_drop', Nat.add_zero, show d + (j - 1) = d + j - 1 by omega, g0, g1, decide_eq_true rfl, Bool.true_and]
  by_cases hg : groupI (l.getD 0 ins0) = 1
  · rw [if_pos hg]
    obtain ⟨a1, a2⟩ := way_part h0 hg
    have h2 := h1
    unfold stepR at h2
    rw [if_pos hg, Bool.and_eq_true] at h2
    have h3 := h2.2
    unfold wayR at h3 ⊢
    rw [a1, a2]
    exact h3
  · rw [if_neg hg, List.all_eq_true]
    intro q hq
    rw [getD_drop', names_part h1 hg (d + q) (by have := List.mem_range.1 hq; omega)]; rfl
theorem fit_drop {l : List Ins} (hf : ∀ i ∈ l, i.fit) (d : Nat) : ∀ i ∈ l.drop d, i.fit := fun i hi => hf i (List.mem_of_mem_drop hi)
theorem fit_take {l : List Ins} (hf : ∀ i ∈ l, i.fit) (d : Nat) : ∀ i ∈ l.take d, i.fit := fun i hi => hf i (List.mem_of_mem_take hi)
/-- A part of a pass is a pass. -/
theorem sub_pass {rack : Int} {l : List Ins} (hf : ∀ i ∈ l, i.fit) {n d : Nat} (hn : n ≤ lonF rack l) (hd : 0 < d) (hdn : d < n) : n - d ≤ lonF rack (l.drop d) := by
  have hlen := lonF_le rack l
  have hg : groupI (l.getD 0 ins0) ≠ 0 := fun h => by rw [lonF_zero h (by omega)] at hn; omega
  obtain ⟨f1, -⟩ := lonF_far (rack := rack) hf hg (by omega)
  have hs : ∀ q, 1 ≤ q → q < n → stepR rack l q = true := fun q a b => f1 q a (by omega)
  have hgd : groupI ((l.drop d).getD 0 ins0) ≠ 0 := by
    rw [getD_drop', Nat.add_zero, step_group (hs d (by omega) (by omega))]; exact hg
  have hdl : (l.drop d).length = l.length - d := List.length_drop
  obtain ⟨_, f2⟩ := lonF_far (rack := rack) (fit_drop hf d) hgd (by omega)
  have hp := lonF_pos rack (l := l.drop d) (by omega)
  rcases Nat.lt_or_ge (lonF rack (l.drop d)) (n - d) with h | h
  · have := step_shift hs hd hp (show d + lonF rack (l.drop d) < n by omega)
    rw [f2 (by omega)] at this
    cases this
  · exact h
theorem no_rack {rack : Int} {l : List Ins} (hf : ∀ i ∈ l, i.fit) {n d : Nat} (hn : n ≤ lonF rack l) (hd : 0 < d) (hdn : d < n) : afterI rack (l.take d) = rack := by
  have hlen := lonF_le rack l
  rw [after_pass hf hd (by omega)]
  have hg : groupI (l.getD 0 ins0) ≠ 0 := fun h => by rw [lonF_zero h (by omega)] at hn; omega
  obtain ⟨f1, -⟩ := lonF_far (rack := rack) hf hg (by omega)
  unfold rackedI
  rw [if_neg]
  intro h8
  have gj : groupI (l.getD (d - 1) ins0) = groupI (l.getD 0 ins0) := by
    by_cases e0 : d - 1 = 0
    · rw [e0]
    · exact step_group (f1 (d - 1) (by omega) (by omega))
  have : groupI (l.getD (d - 1) ins0) = 0 := by unfold groupI; rw [h8]; rfl
  exact hg (by rw [← gj, this])
theorem after_add (rack : Int) (l : List Ins) (a b : Nat) : afterI rack (l.take (a + b)) = afterI (afterI rack (l.take a)) ((l.drop a).take b) := by
  unfold afterI; rw [List.take_add, List.foldl_append]
/-- From a place within a pass on: the longest pass there reaches at least as far. -/
theorem far_on {rack : Int} {l : List Ins} (hf : ∀ i ∈ l, i.fit) {n d : Nat} (hn : n ≤ lonF rack l) (hdn : d < n) : n - d ≤ lonF (afterI rack (l.take d)) (l.drop d) := by
  rcases Nat.eq_zero_or_pos d with e | e
  · subst e; exact hn
  · rw [no_rack hf hn e hdn]; exact sub_pass hf hn e hdn
theorem lon_take {rack : Int} {l : List Ins} (hf : ∀ i ∈ l, i.fit) {n : Nat} (h1 : 1 ≤ n) (hn : n ≤ l.length) : (lonF rack (l.take n) < n) ↔ lonF rack l < n := by
  have h := pass_take (rack := rack) hf h1 hn
  have h2 := pass_lon (rack := rack) (fit_take hf n)
  have hl : (l.take n).length = n := by rw [List.length_take]; omega
  have h3 := lonF_le rack (l.take n)
  rw [hl] at h2 h3
  rw [h2, decide_eq_true (show 0 < n by omega), Bool.true_and, decide_eq_decide] at h
  omega
def intsN (l : List Nat) : List Int := l.map fun n : Nat => (n : Int)
/-- The greedy passes are a partition. -/
theorem few_may : ∀ (m : Nat) (rack : Int) (l : List Ins), l.length ≤ m → (∀ i ∈ l, i.fit) → mayB rack l (intsN (few rack l)) = true
  | 0, rack, l, hm, hf => by
    rw [few_nil (by omega)]
    simp [intsN, mayB]; exact List.length_eq_zero_iff.1 (by omega)
  | m + 1, rack, l, hm, hf => by
    rcases Nat.eq_zero_or_pos l.length with e | e
    · rw [few_nil e]
      simp [intsN, mayB]; exact List.length_eq_zero_iff.1 e
    · rw [few_step e]
      have h1 := lonF_pos rack e
      have h2 := lonF_le rack l
      have h3 := lon_take (rack := rack) hf h1 h2
      generalize lonF rack l = n at h1 h2 h3 ⊢
      have ih := few_may m (rackedI rack (l.getD (n - 1) ins0)) (l.drop n) (by rw [List.length_drop]; omega) (fit_drop hf n)
      show mayB rack l ((n : Int) :: intsN (few (rackedI rack (l.getD (n - 1) ins0)) (l.drop n))) = true
      simp only [mayB, Int.toNat_natCast]
      rw [if_neg (by omega)]
      exact ih
/-- .. and no partition has fewer. -/
theorem few_best : ∀ (ps : List Int) (rack : Int) (l : List Ins), (∀ i ∈ l, i.fit) → mayB rack l ps = true → ∀ d, d ≤ l.length → (few (afterI rack (l.take d)) (l.drop d)).length ≤ ps.length
  | [], rack, l, _, h, d, hd => by
    simp only [mayB, decide_eq_true_eq] at h
    rw [few_nil (by rw [List.length_drop]; omega)]
    exact Nat.le_refl _
  | z :: ps, rack, l, hf, h, d, hd => by
    simp only [mayB] at h
    by_cases hc : z < 1 ∨ (l.length : Int) < z ∨ ((lonF rack (l.take z.toNat) : Nat) : Int) < z
    · rw [if_pos hc] at h; cases h
    rw [if_neg hc] at h
    obtain ⟨n, rfl⟩ := Int.eq_ofNat_of_zero_le (show 0 ≤ z by omega)
    rw [Int.toNat_natCast] at h hc
    have hn1 : 1 ≤ n := by omega
    have hn2 : n ≤ l.length := by omega
    have hnl : n ≤ lonF rack l := by
      rcases Nat.lt_or_ge (lonF rack l) n with h' | h'
      · have := (lon_take (rack := rack) hf hn1 hn2).2 h'
        omega
      · exact h'
    have hr : rackedI rack (l.getD (n - 1) ins0) = afterI rack (l.take n) := (after_pass hf hn1 hnl).symm
    have h' : mayB (afterI rack (l.take n)) (l.drop n) ps = true := by rw [← hr]; exact h
    have ih := few_best ps _ (l.drop n) (fit_drop hf n) h'
    have hgo : ∀ e, n ≤ e → e ≤ l.length → (few (afterI rack (l.take e)) (l.drop e)).length ≤ ps.length := fun e h1 h2 => by
      have := ih (e - n) (by rw [List.length_drop]; omega)
      rw [← after_add, List.drop_drop, show n + (e - n) = e by omega] at this
      exact this
    rw [List.length_cons]
    by_cases hdn : d < n
    · have hfar := far_on hf hnl hdn
      have hfd := fit_drop hf d
      have hdl : (l.drop d).length = l.length - d := List.length_drop
      rw [few_step (by omega), List.length_cons]
      have hp := lonF_pos (afterI rack (l.take d)) (l := l.drop d) (by omega)
      have hle := lonF_le (afterI rack (l.take d)) (l.drop d)
      have hap := after_pass (rack := afterI rack (l.take d)) hfd hp (Nat.le_refl _)
      rw [← hap, ← after_add, List.drop_drop]
      have := hgo (d + lonF (afterI rack (l.take d)) (l.drop d)) (by omega) (by omega)
      omega
    · have := hgo d (by omega) hd
      omega
theorem few_least {ps : List Int} {rack : Int} {l : List Ins} (hf : ∀ i ∈ l, i.fit) (h : mayB rack l ps = true) : (few rack l).length ≤ ps.length := few_best ps rack l hf h 0 (Nat.zero_le _)
end Go.Proofs.Ytbnddpknejgmhaa
