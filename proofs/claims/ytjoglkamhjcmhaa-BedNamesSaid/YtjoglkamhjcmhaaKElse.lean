/- BedElse, walked: what is not named does not change. -/
import Derived.Test.YtjoglkamhjcmhaaKValid
namespace Go.Proofs.Ytjoglkamhjcmhaa
open Go.RowKit Go.Shelf Go.Sort
set_option maxRecDepth 100000

theorem feed_set_ne {l xs : List Fd} {c0 c : Int} (hr : risB ltF l = true) (hx : ∀ f ∈ xs, f.car = c0) (hne : c ≠ c0) : feedAt (setF (keyF c0) xs l) c = feedAt l c := by
  have sp := (split3 (monoF hr c0)).1
  have e1 : (eqF (keyF c0) l).find? (fun f => decide (f.car = c)) = none := List.find?_eq_none.2 fun x hx => by
    have := of_decide_eq_true (List.mem_filter.1 hx).2
    unfold keyF at this
    simp; omega
  have e2 : xs.find? (fun f => decide (f.car = c)) = none := List.find?_eq_none.2 fun x h => by
    have e := hx x h
    simp; omega
  have e3 : feedAt l c = (loF (keyF c0) l ++ (eqF (keyF c0) l ++ hiF (keyF c0) l)).find? (fun f => decide (f.car = c)) := by rw [← sp]; rfl
  rw [e3]
  unfold feedAt setF
  simp only [List.find?_append, e1, e2]
def nmB (i : Ins) : Bool := decide (3 ≤ i.op) && !decide (i.op = 8) && !decide (i.op = 5)
/-- The needle is named, or is none. -/
def elseQ (i : Ins) (b n : Int) : Bool := decide (1 < b) || decide (n < -100) || decide (100 < n) || (nmB i && (decide (b = i.bed) && decide (n = i.at_) || (decide (i.op = 6) || decide (i.op = 7)) && !decide (b = i.bed) && decide (n = i.to_)))
theorem pass_feeds {s t : BedS} (h : Good s) {i : Ins} (hp : passS s i = some t) {c : Int} (hc : c ≠ i.car) : feedAt t.feeds c = feedAt s.feeds c := by
  unfold passS at hp
  split at hp
  · cases hp
  · split at hp
    · cases hp
    · cases hp
      exact feed_set_ne h.rf (fun f hf => by rw [List.mem_singleton] at hf; subst hf; rfl) hc
theorem across_else {s t : BedS} {i : Ins} {l : List Int} (hr : risB ltH s.hooks = true) (h : acrossS s i l = some t) : t.feeds = s.feeds ∧ ∀ b n, (b ≠ 1 - i.bed ∨ n ≠ i.to_) → heldAt t.hooks b n = heldAt s.hooks b n := by
  unfold acrossS at h
  split at h
  · cases h
  · rw [lay_same h]
    exact ⟨rfl, fun b n hne => held_put_ne hr _ (by omega)⟩
theorem knit_else {u : BedS} {i : Ins} {old : List Int} (hr : risB ltH u.hooks = true) (hz : (knitS u i old).2 = 0) : (knitS u i old).1.feeds = u.feeds ∧ ∀ b n, (b ≠ i.bed ∨ n ≠ i.at_) → heldAt (knitS u i old).1.hooks b n = heldAt u.hooks b n := by
  unfold knitS at hz ⊢
  split at hz
  · simp at hz
  · rename_i hne
    rw [if_neg hne]
    exact ⟨rfl, fun b n h => held_put_ne hr _ (by omega)⟩
/-- An instruction changes neither the carriers nor the needles that it does not name. -/
theorem doI_else {s : BedS} (h : Good s) {i : Ins} (hwi : i.wf) (hi : i.good) (hz : (doI s i).2 = 0) :
    (∀ c, 1 ≤ c → c ≠ i.car → feedAt (doI s i).1.feeds c = feedAt s.feeds c) ∧ (∀ b n, 0 ≤ b → elseQ i b n = false → heldAt (doI s i).1.hooks b n = heldAt s.hooks b n) := by
  have hwb := hwi.2.2.1
  have tk : ∀ {u : BedS}, Good u → ∀ b n, (b ≠ i.bed ∨ n ≠ i.at_) → heldAt (takeS u i.bed i.at_).hooks b n = heldAt u.hooks b n := fun hu b n hne => held_put_ne hu.rh _ (by omega)
  have at_ : ∀ {b n}, i.op = 3 ∨ i.op = 4 ∨ i.op = 6 ∨ i.op = 7 ∨ i.op = 9 → elseQ i b n = false → (b ≠ i.bed ∨ n ≠ i.at_) := fun {b n} ho hq => by
    unfold elseQ nmB at hq
    simp only [Bool.or_eq_false_iff, Bool.and_eq_false_iff, decide_eq_false_iff_not, Bool.not_eq_false', decide_eq_true_eq] at hq
    omega
  have to_ : ∀ {b n}, 0 ≤ b → i.bed ≤ 1 → i.op = 6 ∨ i.op = 7 → elseQ i b n = false → (b ≠ 1 - i.bed ∨ n ≠ i.to_) := fun {b n} h0 hb1 ho hq => by
    unfold elseQ nmB at hq
    simp only [Bool.or_eq_false_iff, Bool.and_eq_false_iff, decide_eq_false_iff_not, Bool.not_eq_false', decide_eq_true_eq] at hq
    omega
  rcases hi with ⟨ho, h1, h2, h3, h4, h5, hc⟩ | ⟨ho, h1, h2, hc, hb, hn⟩ | ⟨ho, h1, hc, hb, hn, ht⟩ | ⟨ho, h1, h2, h3, hb, hn, ht⟩ | ⟨ho, h1, h2, h3, h4, h5, hr⟩ | ⟨ho, h1, h2, h3, h4, hb, hn⟩
  · unfold doI at hz ⊢
    rcases ho with ho | ho
    · rw [if_pos ho] at hz ⊢
      split at hz
      · simp at hz
      · rename_i hf
        rw [if_neg hf]
        exact ⟨fun c _ hc => feed_set_ne h.rf (fun f hf => by rw [List.mem_singleton] at hf; subst hf; rfl) hc, fun _ _ _ _ => rfl⟩
    · rw [if_neg (by omega), if_pos ho] at hz ⊢
      split at hz
      · rename_i hf
        rw [if_pos hf]
        exact ⟨fun c _ hc => feed_set_ne h.rf (fun f hf => by simp at hf) hc, fun _ _ _ _ => rfl⟩
      · simp at hz
  · have hb' : 0 ≤ i.bed ∧ i.bed ≤ 1 := ⟨hwb, hb⟩
    unfold doI at hz ⊢
    rw [if_neg (by omega), if_neg (by omega), if_neg (by omega), if_neg (by omega), if_neg (by omega)] at hz ⊢
    unfold yarnS at hz ⊢
    cases hp : passS s i with
    | none => rw [hp] at hz; simp at hz
    | some t =>
      have hgt := h.pass hb' hn hc hp
      obtain ⟨e1, e2, e3⟩ := pass_same hp
      rw [hp] at hz
      simp only at hz ⊢
      by_cases h5 : i.op = 5
      · rw [if_pos h5]
        exact ⟨fun c _ hc => pass_feeds h hp hc, fun _ _ _ _ => by rw [e1]⟩
      · rw [if_neg h5] at hz ⊢
        by_cases h4 : i.op = 4
        · rw [if_pos h4] at hz ⊢
          cases hl : layS t i.bed i.at_ [(t.made.length : Int)] with
          | none => rw [hl] at hz; simp at hz
          | some u =>
            rw [hl] at hz
            simp only at hz ⊢
            split at hz
            · simp at hz
            · rename_i hne
              rw [if_neg hne]
              refine ⟨fun c _ hc => ?_, fun b n _ hq => ?_⟩
              · show feedAt u.feeds c = _
                rw [lay_same hl]
                exact pass_feeds h hp hc
              · show heldAt u.hooks b n = _
                rw [lay_same hl]
                show heldAt (putAt t.hooks i.bed i.at_ _) b n = _
                rw [held_put_ne hgt.rh _ (by have := at_ (Or.inr (Or.inl h4)) hq; omega), e1]
        · rw [if_neg h4, if_neg (by omega)] at hz ⊢
          obtain ⟨g1, g2⟩ := knit_else (hgt.take hb' hn).rh hz
          exact ⟨fun c _ hc => by rw [g1]; exact pass_feeds h hp hc, fun b n _ hq => by
            have hx := at_ (by omega) hq
            rw [g2 b n hx, tk hgt b n hx, e1]⟩
  · have hb' : 0 ≤ i.bed ∧ i.bed ≤ 1 := ⟨hwb, hb⟩
    unfold doI at hz ⊢
    rw [if_neg (by omega), if_neg (by omega), if_neg (by omega), if_neg (by omega), if_neg (by omega)] at hz ⊢
    unfold yarnS at hz ⊢
    cases hp : passS s i with
    | none => rw [hp] at hz; simp at hz
    | some t =>
      have hgt := h.pass hb' hn hc hp
      obtain ⟨e1, e2, e3⟩ := pass_same hp
      rw [hp] at hz
      simp only at hz ⊢
      rw [if_neg (by omega), if_neg (by omega), if_pos ho] at hz ⊢
      cases hl : acrossS (takeS t i.bed i.at_) i (heldAt t.hooks i.bed i.at_) with
      | none => rw [hl] at hz; simp at hz
      | some u =>
        rw [hl] at hz
        simp only at hz ⊢
        obtain ⟨a1, a2⟩ := across_else (hgt.take hb' hn).rh hl
        have hru : risB ltH u.hooks = true := (hgt.take hb' hn).across hb' ht (by rw [take_held]; exact hgt.dist.perm (hgt.heldPerm _ _)) hl |>.rh
        obtain ⟨g1, g2⟩ := knit_else hru hz
        exact ⟨fun c _ hc => by rw [g1, a1]; exact pass_feeds h hp hc, fun b n h0 hq => by
          have hx := at_ (by omega) hq
          rw [g2 b n hx, a2 b n (to_ h0 hb (by omega) hq), tk hgt b n hx, e1]⟩
  · have hb' : 0 ≤ i.bed ∧ i.bed ≤ 1 := ⟨hwb, hb⟩
    unfold doI at hz ⊢
    rw [if_neg (by omega), if_neg (by omega), if_neg (by omega), if_neg (by omega), if_pos ho] at hz ⊢
    cases hl : acrossS (takeS s i.bed i.at_) i (heldAt s.hooks i.bed i.at_) with
    | none => rw [hl] at hz; simp at hz
    | some u =>
      simp only
      obtain ⟨a1, a2⟩ := across_else (h.take hb' hn).rh hl
      exact ⟨fun c _ hc => by rw [a1]; rfl, fun b n h0 hq => by
        rw [a2 b n (to_ h0 hb (by omega) hq), tk h b n (at_ (by omega) hq)]⟩
  · unfold doI
    rw [if_neg (by omega), if_neg (by omega), if_pos ho]
    exact ⟨fun _ _ _ => rfl, fun _ _ _ _ => rfl⟩
  · unfold doI
    rw [if_neg (by omega), if_neg (by omega), if_neg (by omega), if_pos ho]
    exact ⟨fun _ _ _ => rfl, fun b n _ hq => tk h b n (at_ (by omega) hq)⟩
end Go.Proofs.Ytjoglkamhjcmhaa
