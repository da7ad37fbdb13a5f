/- BedBack, plain: there and back. -/
import Derived.Test.YtjoglkamhjcmhaaKElse2
namespace Go.Proofs.Ytjoglkamhjcmhaa
open Go.RowKit
set_option maxRecDepth 100000

theorem key_zero {b n : Int} {h : Hk} (hk : keyH b n h = 0) : h.bed = b ∧ h.at_ = n := by
  have := key_hk b n h
  rw [hk] at this
  unfold hkAt at this
  simpa using this
theorem key_self (b n : Int) (ls : List Int) : keyH b n ⟨b, n, ls⟩ = 0 := by
  unfold keyH placeI
  simp
theorem put_self {s : BedS} (h : Good s) (b n : Int) : putAt (putAt s.hooks b n []) b n (heldAt s.hooks b n) = s.hooks := by
  have hm := monoH h.rh b n
  obtain ⟨sp, s1⟩ := split3 hm
  have he := held_eq hm
  have e : putAt s.hooks b n [] = setF (keyH b n) [] s.hooks := by unfold putAt; rw [if_pos rfl]
  rw [e]
  unfold putAt
  have e2 : ∀ xs, setF (keyH b n) xs (setF (keyH b n) [] s.hooks) = loF (keyH b n) s.hooks ++ (xs ++ hiF (keyH b n) s.hooks) := fun xs => by
    show loF _ _ ++ (xs ++ hiF _ _) = _
    rw [loF_set, hiF_set]
  rw [e2]
  conv => rhs; rw [sp]
  congr 2
  have hmem : ∀ x ∈ eqF (keyH b n) s.hooks, x ∈ s.hooks ∧ keyH b n x = 0 := fun x hx => ⟨(List.mem_filter.1 hx).1, of_decide_eq_true (List.mem_filter.1 hx).2⟩
  rw [he]
  revert s1 hmem
  cases eqF (keyH b n) s.hooks with
  | nil => intro _ _; rfl
  | cons a t =>
    intro s1 hmem
    have : t = [] := List.length_eq_zero_iff.1 (by simp only [List.length_cons] at s1; omega)
    subst this
    obtain ⟨ha, hz⟩ := hmem a List.mem_cons_self
    obtain ⟨rfl, rfl⟩ := key_zero hz
    have := (h.hooks a ha).2.2.1
    rw [if_neg (by simp; intro e; rw [e] at this; simp at this)]
    simp
theorem put_put (l : List Hk) (b n : Int) (ls : List Int) : putAt (putAt l b n ls) b n [] = putAt l b n [] := by
  have hx : ∀ x ∈ (if ls = [] then [] else [(⟨b, n, ls⟩ : Hk)]), keyH b n x = 0 := fun x hx => by
    split at hx
    · simp at hx
    · rw [List.mem_singleton] at hx; rw [hx]; exact key_self b n ls
  unfold putAt
  generalize (if ls = [] then [] else [(⟨b, n, ls⟩ : Hk)]) = xs at hx
  rw [if_pos rfl]
  unfold setF
  rw [loF_app, loF_app, hiF_app, hiF_app, loF_loF, loF_hiF, hiF_hiF, hiF_loF, loF_none (l := xs) (fun x h => by rw [hx x h]; omega), hiF_none (l := xs) (fun x h => by rw [hx x h]; omega)]
  simp
theorem put_none {s : BedS} (h : Good s) {b n : Int} (h0 : heldAt s.hooks b n = []) : putAt s.hooks b n [] = s.hooks := by
  have := put_self h b n
  rw [h0, put_put] at this
  exact this
theorem held_put_self (l : List Hk) (b n : Int) (ls : List Int) : heldAt (putAt l b n ls) b n = ls := by
  by_cases hl : ls = []
  · subst hl; exact held_put_nil
  · have e : (putAt l b n ls).find? (hkAt b n) = some ⟨b, n, ls⟩ := by
      unfold putAt setF
      rw [if_neg hl, List.find?_append]
      have e1 : (loF (keyH b n) l).find? (hkAt b n) = none := List.find?_eq_none.2 fun x hx => by
        rw [key_hk]
        have := loF_lo hx
        simp; omega
      rw [e1, List.singleton_append, List.find?_cons, key_hk, key_self]
      rfl
    unfold heldAt
    rw [e]
def xfI (b n tt : Int) : Ins := ⟨7, false, b, n, tt, 0, 0⟩
theorem xfI_good {b n tt : Int} (hb : 0 ≤ b ∧ b ≤ 1) (hn : needleP n) (ht : needleP tt) : (xfI b n tt).good ∧ (xfI b n tt).wf :=
  ⟨Or.inr (Or.inr (Or.inr (Or.inl ⟨rfl, rfl, rfl, rfl, hb.2, hn, ht⟩))), by show (0 : Int) ≤ 7; decide, by show (7 : Int) ≤ 255; decide, hb.1, by show b ≤ 255; omega⟩
theorem back_do1 {s : BedS} (h : Good s) {b n tt : Int} (hcol : colI s.rack b n = colI s.rack (1 - b) tt) (h0 : heldAt s.hooks (1 - b) tt = []) :
    doI s (xfI b n tt) = ({ s with hooks := putAt (putAt s.hooks b n []) (1 - b) tt (heldAt s.hooks b n) }, 0) := by
  unfold doI
  rw [if_neg (by show ¬ (7 : Int) = 1; decide), if_neg (by show ¬ (7 : Int) = 2; decide), if_neg (by show ¬ (7 : Int) = 8; decide), if_neg (by show ¬ (7 : Int) = 9; decide), if_pos (show (xfI b n tt).op = 7 from rfl)]
  have e : acrossS (takeS s (xfI b n tt).bed (xfI b n tt).at_) (xfI b n tt) (heldAt s.hooks (xfI b n tt).bed (xfI b n tt).at_) = some { s with hooks := putAt (putAt s.hooks b n []) (1 - b) tt (heldAt s.hooks b n) } := by
    show acrossS (takeS s b n) (xfI b n tt) (heldAt s.hooks b n) = _
    unfold acrossS
    rw [if_neg (by show ¬ colI s.rack b n ≠ colI s.rack (1 - b) tt; simpa using hcol)]
    show layS (takeS s b n) (1 - b) tt (heldAt s.hooks b n) = _
    have e0 : heldAt (takeS s b n).hooks (1 - b) tt = [] := by
      rw [← h0]
      exact held_put_ne h.rh _ (Or.inl (by omega))
    unfold layS
    rw [e0, List.nil_append, if_neg (by have := h.heldLen b n; omega)]
    rfl
  rw [e]
theorem back_do2 {s : BedS} (h : Good s) {b n tt : Int} (hb : 0 ≤ b ∧ b ≤ 1) (hn : needleP n) (hcol : colI s.rack b n = colI s.rack (1 - b) tt) (h0 : heldAt s.hooks (1 - b) tt = []) :
    doI { s with hooks := putAt (putAt s.hooks b n []) (1 - b) tt (heldAt s.hooks b n) } (xfI (1 - b) tt n) = (s, 0) := by
  have hg := h.take hb hn
  have e0 : heldAt (takeS s b n).hooks (1 - b) tt = [] := by
    rw [← h0]
    exact held_put_ne h.rh _ (Or.inl (by omega))
  have hp := put_none hg e0
  unfold doI
  rw [if_neg (by show ¬ (7 : Int) = 1; decide), if_neg (by show ¬ (7 : Int) = 2; decide), if_neg (by show ¬ (7 : Int) = 8; decide), if_neg (by show ¬ (7 : Int) = 9; decide), if_pos (show (xfI (1 - b) tt n).op = 7 from rfl)]
  have e : acrossS (takeS { s with hooks := putAt (putAt s.hooks b n []) (1 - b) tt (heldAt s.hooks b n) } (xfI (1 - b) tt n).bed (xfI (1 - b) tt n).at_) (xfI (1 - b) tt n) (heldAt (BedS.hooks { s with hooks := putAt (putAt s.hooks b n []) (1 - b) tt (heldAt s.hooks b n) }) (xfI (1 - b) tt n).bed (xfI (1 - b) tt n).at_) = some s := by
    show acrossS (takeS { s with hooks := putAt (putAt s.hooks b n []) (1 - b) tt (heldAt s.hooks b n) } (1 - b) tt) (xfI (1 - b) tt n) (heldAt (putAt (putAt s.hooks b n []) (1 - b) tt (heldAt s.hooks b n)) (1 - b) tt) = some s
    rw [held_put_self]
    have et : takeS { s with hooks := putAt (putAt s.hooks b n []) (1 - b) tt (heldAt s.hooks b n) } (1 - b) tt = takeS s b n := by
      unfold takeS at hp ⊢
      simp only [put_put]
      rw [hp]
    rw [et]
    unfold acrossS
    have e1 : 1 - (xfI (1 - b) tt n).bed = b := by show 1 - (1 - b) = b; omega
    rw [e1, if_neg (by show ¬ colI s.rack (1 - b) tt ≠ colI s.rack b n; rw [hcol]; simp)]
    show layS (takeS s b n) b n (heldAt s.hooks b n) = _
    have e2 : heldAt (takeS s b n).hooks b n = [] := held_put_nil
    unfold layS
    rw [e2, List.nil_append, if_neg (by have := h.heldLen b n; omega)]
    show some { s with hooks := putAt (putAt s.hooks b n []) b n (heldAt s.hooks b n) } = _
    rw [put_self h]
  rw [e]
end Go.Proofs.Ytjoglkamhjcmhaa
