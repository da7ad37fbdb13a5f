/- Layer 29: cables: the depths of cable needles. -/
import Derived.Test.YtodjkifcbgmckaaHdeep
import Derived.Test.YtodjkifcbgmckaaShelf
namespace Go.Proofs.Ytodjkifcbgmckaa
open Go.RowKit Go.Shelf Go.Sort
set_option maxRecDepth 100000

theorem minOf_iff (l : List Int) (hl : l ≠ []) (a : Int) : decide (a ≤ Lib.minOf l) = decide (∀ x ∈ l, a ≤ x) := by
  obtain ⟨x, r, rfl⟩ : ∃ x r, l = x :: r := by cases l with | nil => exact absurd rfl hl | cons x r => exact ⟨x, r, rfl⟩
  have h : ∀ (r : List Int) (x : Int), a ≤ r.foldl min x ↔ a ≤ x ∧ ∀ y ∈ r, a ≤ y := fun r => by
    induction r with
    | nil => intro x; simp
    | cons y r ih => intro x; rw [List.foldl_cons, ih]; simp only [List.mem_cons, forall_eq_or_imp]; rw [Int.le_min, and_assoc]
  rw [decide_eq_decide]
  unfold Lib.minOf
  rw [List.headD_cons, List.foldl_cons, Int.min_self, h]
  simp only [List.mem_cons, forall_eq_or_imp]
theorem maxOf_iff (l : List Int) (hl : l ≠ []) (a : Int) : decide (Lib.maxOf l ≤ a) = decide (∀ x ∈ l, x ≤ a) := by
  obtain ⟨x, r, rfl⟩ : ∃ x r, l = x :: r := by cases l with | nil => exact absurd rfl hl | cons x r => exact ⟨x, r, rfl⟩
  have h : ∀ (r : List Int) (x : Int), r.foldl max x ≤ a ↔ x ≤ a ∧ ∀ y ∈ r, y ≤ a := fun r => by
    induction r with
    | nil => intro x; simp
    | cons y r ih => intro x; rw [List.foldl_cons, ih]; simp only [List.mem_cons, forall_eq_or_imp]; rw [Int.max_le, and_assoc]
  rw [decide_eq_decide]
  unfold Lib.maxOf
  rw [List.headD_cons, List.foldl_cons, Int.max_self, h]
  simp only [List.mem_cons, forall_eq_or_imp]
theorem cab_parts (l : List Int) (h4 : l.length ≤ 4) (h0 : (0 : Int) ∉ l) (hd : l.Nodup) : cabB l = (decide (∀ x ∈ l, -4 ≤ x) && decide (∀ x ∈ l, x ≤ 4)) := by
  rw [cab_iff, decide_eq_true h4, decide_eq_false h0, decide_eq_true hd]
  simp only [Bool.not_false, Bool.true_and]
  rw [Bool.eq_iff_iff, Bool.and_eq_true, decide_eq_true_iff, decide_eq_true_iff, decide_eq_true_iff]
  exact ⟨fun h => ⟨fun x hx => (h x hx).1, fun x hx => (h x hx).2⟩, fun h x hx => ⟨h.1 x hx, h.2 x hx⟩⟩
theorem grown_row {w : World} {g n : Nat} (d : Array Int) : w.grownBy (putRow (Value.int .i64) (Sort.ahead w n) g 0 d) (some g) := by
  refine ⟨rfl, rfl, rfl, by simp, fun k hk hne => ?_⟩
  have : g ≠ k := fun e => hne (by rw [e])
  simp [putRow, mapBlock, Sort.ahead, Array.getElem?_modify, this]
set_option maxHeartbeats 8000000 in
theorem hcables_any (A : Option Addr) (c : Nat) (l : List Int) (hl : l.length ≤ 1000000) (w : World) (hs : SlI w w.heap.size A l) :
    Calls Try.prog 32 #[.slice A l.length c] w fun e w' => e = .returned (.bool (cabB l)) ∧ Below w.heap.size w w' := by
  have HV := Lib.hid (values_any A l.length c w)
  have hb0 : Below w.heap.size w (w.alloc (.cells #[.slice A l.length c] 22)) := (Below.refl _ w).alloc (Nat.le_refl _) _
  have HSo := Lib.hid (sorted_any w.heap.size A c l hl (w.alloc (.cells #[.slice A l.length c] 22)) (by simp) (cell_new rfl rfl rfl) ((hs.below hb0).more hb0.size))
  have HB0 := Lib.hid hb0
  by_cases h4 : 4 < l.length
  · have HF : Hid (cabB l = false) := cab_long h4
    have e4 : decide (4 < l.length) = true := decide_eq_true h4
    have e4' : decide ((4 : Int) < (l.length : Int)) = true := decide_eq_true (by omega)
    clear hs hb0 h4
    go_enter Try.func32, Try.ntmps32
    go_wp2_with (first
      | (go_at_call 44; refine HV.out.mono ?_; rintro e w1 ⟨rfl, rfl⟩)
      | (go_at_call 43; refine HSo.out.mono ?_; rintro e w2 ⟨v, rfl, hown, hb2⟩))
    go_ret
    exact ⟨ret_bool HF.out.symm, HB0.out.trans (hb2.mono HB0.out.size)⟩
  · have e4 : decide (4 < l.length) = false := decide_eq_false h4
    have e4' : decide ((4 : Int) < (l.length : Int)) = false := decide_eq_false (by omega)
    by_cases hp : 0 < l.length
    case neg =>
      have hnil : l = [] := List.length_eq_zero_iff.1 (by omega)
      subst hnil
      have HF : Hid (cabB [] = true) := by unfold Hid; decide
      have HCe := Lib.hid (fun a c W => Try.slices_Contains_int_empty a c 0 W)
      have HPe := Lib.hid (fun a c W => Try.slices_Compact_int_empty a c W)
      clear hs hb0 h4 hp hl
      go_enter Try.func32, Try.ntmps32
      go_upto_region 2 with (first
        | (go_at_call 44; refine HV.out.mono ?_; rintro e w1 ⟨rfl, rfl⟩)
        | (go_at_call 43; refine HSo.out.mono ?_; rintro e w2 ⟨v, rfl, hown, hb2⟩))
      obtain ⟨a9, c9, e9, -⟩ := own_slice hown
      have e9' : v = .slice a9 0 c9 := by rw [sortZ_len] at e9; exact e9
      subst e9'
      have HB2 := Lib.hid (HB0.out.trans (hb2.mono HB0.out.size))
      clear hown hb2 e9 HV HSo
      go_wp2_with (first
        | (go_at_call 51; refine (HCe.out _ _ _).mono ?_; rintro e wd ⟨rfl, rfl⟩)
        | (go_at_call 52; refine (HPe.out _ _ _).mono ?_; rintro e wd ⟨rfl, rfl⟩))
      go_ret
      exact ⟨ret_bool HF.out.symm, HB2.out⟩
    case pos =>
      have hne : l ≠ [] := List.length_pos_iff.1 hp
      obtain ⟨b, off, hA, hbl, hc⟩ := hs hne
      subst hA
      have HCell : Hid (∀ W, Below w.heap.size w W → ∀ j, j < l.length → W.cell? ⟨b, off + j, none⟩ = some (.int .i64 (l.getD j 0))) := fun W hW j hj => by
        rw [List.getD_eq_getElem?_getD, List.getElem?_eq_getElem hj]
        exact (bcell hW hbl _).trans (hc j _ (List.getElem?_eq_getElem hj))
      have hct := fun W hW => Try.slices_Contains_int b off l.length c l 0 W (Nat.le_refl _) (by omega) (HCell.out W hW)
      have hmn := fun W hW => Try.slices_Min_int b off l.length c l W hp (Nat.le_refl _) (by omega) (HCell.out W hW)
      have hmx := fun W hW => Try.slices_Max_int b off l.length c l W hp (Nat.le_refl _) (by omega) (HCell.out W hW)
      rw [List.take_length] at hct hmn hmx
      have HCt := Lib.hid hct
      have HMn := Lib.hid hmn
      have HMx := Lib.hid hmx
      have hsl := sortZ_len l
      have e0 : ((l.length : Int) == 0) = false := beq_eq_false_iff_ne.2 (by omega)
      have HMnI := Lib.hid (minOf_iff l hne (-4))
      have HMxI := Lib.hid (maxOf_iff l hne 4)
      have HCl := Lib.hid (compact_lt l)
      have h4' : l.length ≤ 4 := by omega
      have HSl := Lib.hid hsl
      have HP := Lib.hid hp
      clear hs hb0 h4 hc hct hmn hmx hne
      go_enter Try.func32, Try.ntmps32
      go_upto_region 2 with (first
        | (go_at_call 44; refine HV.out.mono ?_; rintro e w1 ⟨rfl, rfl⟩)
        | (go_at_call 43; refine HSo.out.mono ?_; rintro e w2 ⟨v, rfl, hown, hb2⟩))
      have hown' : w2.ownsRow (w.alloc (.cells #[.slice (some ⟨b, off, none⟩) l.length c] 22)).heap.size 3 1 v l.length (intV (sortZ l)) := by
        have h := hown
        unfold ownI at h
        rw [hsl] at h
        exact h
      obtain ⟨g, cap, rfl, hgB, -⟩ := World.ownsRow.form hown' hp
      have hcap : l.length ≤ cap := by
        obtain ⟨a9, c9, e, h⟩ := own_slice hown'
        cases e; exact h
      have hH : Holds (Value.int .i64) w2 g 0 (sortZ l).toArray := fun j hj => by
        have hj' : j < (sortZ l).length := by simpa using hj
        rw [Nat.zero_add]
        refine ⟨?_, hown'.frozenAt j⟩
        rw [hown'.cellAt j (by omega)]
        unfold intV
        rw [List.getElem?_map, List.getElem?_eq_getElem hj', getElem!_pos (sortZ l).toArray j hj]; rfl
      have hcp := Try.slices_Compact_int g 0 cap (sortZ l) w2 hH (by omega) (by omega)
      rw [hsl] at hcp
      have HCp := Lib.hid hcp
      have hgz : w.heap.size ≤ g := by simp at hgB; omega
      have HB2 := Lib.hid (HB0.out.trans (hb2.mono HB0.out.size))
      have HB3 : Hid (∀ q (d : Array Int), Below w.heap.size w (putRow (Value.int .i64) (Sort.ahead w2 q) g 0 d)) := fun q d => HB2.out.grown (grown_row d) HB2.out.size (fun j hj => by cases hj; exact hgz)
      clear hown hown' hH hcp hb2 hsl HV HSo hgz hcap hgB
      by_cases h0 : (0 : Int) ∈ l
      · have HF : Hid (cabB l = false) := by
          obtain ⟨j, hj⟩ := List.mem_iff_getElem?.1 h0
          exact cab_bad hj (fun h => h.1 rfl)
        have hc0 : l.contains (0 : Int) = true := by simpa using h0
        rw [hc0] at HCt
        clear h0 hc0
        go_wp2_with (go_at_call 51; refine (HCt.out _ HB2.out).mono ?_; rintro e wd ⟨rfl, rfl⟩)
        go_ret
        exact ⟨ret_bool HF.out.symm, HB2.out⟩
      · have hc0 : l.contains (0 : Int) = false := by simpa using h0
        rw [hc0] at HCt
        by_cases hd : l.Nodup
        · have HF := Lib.hid (cab_parts l h4' h0 hd)
          have hcl := HCl.out
          rw [decide_eq_true hd] at hcl
          have hcl' : decide (((Lib.compact (sortZ l)).length : Int) < (l.length : Int)) = false := hcl
          have hcl2 : decide ((Lib.compact (sortZ l)).length < l.length) = false := decide_eq_false (by have := of_decide_eq_false hcl'; omega)
          generalize (Lib.compact (sortZ l)).length = k at HCp hcl' hcl2
          rw [← HMnI.out, ← HMxI.out] at HF
          generalize Lib.minOf l = mn at HMn HF
          generalize Lib.maxOf l = mx at HMx HF
          clear h0 hc0 hd hcl
          cases hq : decide (-4 ≤ mn) with
          | true =>
            go_wp2_with (first
              | (go_at_call 51; refine (HCt.out _ HB2.out).mono ?_; rintro e wd ⟨rfl, rfl⟩)
              | (go_at_call 52; refine HCp.out.mono ?_; rintro e wd ⟨rfl, q, rfl⟩)
              | (go_at_call 53; refine (HMn.out _ (by exact HB3.out _ _)).mono ?_; rintro e wd ⟨rfl, rfl⟩)
              | (go_at_call 54; refine (HMx.out _ (by exact HB3.out _ _)).mono ?_; rintro e wd ⟨rfl, rfl⟩))
            go_ret
            exact ⟨ret_bool (by rw [HF.out, hq]; rfl), HB3.out _ _⟩
          | false =>
            go_wp2_with (first
              | (go_at_call 51; refine (HCt.out _ HB2.out).mono ?_; rintro e wd ⟨rfl, rfl⟩)
              | (go_at_call 52; refine HCp.out.mono ?_; rintro e wd ⟨rfl, q, rfl⟩)
              | (go_at_call 53; refine (HMn.out _ (by exact HB3.out _ _)).mono ?_; rintro e wd ⟨rfl, rfl⟩)
              | (go_at_call 54; refine (HMx.out _ (by exact HB3.out _ _)).mono ?_; rintro e wd ⟨rfl, rfl⟩))
            go_ret
            exact ⟨ret_bool (by rw [HF.out, hq]; rfl), HB3.out _ _⟩
        · have HF : Hid (cabB l = false) := by unfold Hid cabB; rw [decide_eq_false hd, Bool.and_false]
          have hcl := HCl.out
          rw [decide_eq_false hd] at hcl
          have hcl' : decide (((Lib.compact (sortZ l)).length : Int) < (l.length : Int)) = true := hcl
          have hcl2 : decide ((Lib.compact (sortZ l)).length < l.length) = true := decide_eq_true (by have := of_decide_eq_true hcl'; omega)
          generalize (Lib.compact (sortZ l)).length = k at HCp hcl' hcl2
          clear h0 hc0 hd hcl
          go_wp2_with (first
            | (go_at_call 51; refine (HCt.out _ HB2.out).mono ?_; rintro e wd ⟨rfl, rfl⟩)
            | (go_at_call 52; refine HCp.out.mono ?_; rintro e wd ⟨rfl, q, rfl⟩))
          go_ret
          exact ⟨ret_bool HF.out.symm, HB3.out _ _⟩
end Go.Proofs.Ytodjkifcbgmckaa
