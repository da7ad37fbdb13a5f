/- bed.distinct walked. -/
import Derived.Test.YtjoglkamhjcmhaaDist
namespace Go.Proofs.Ytjoglkamhjcmhaa
open Go.RowKit Go.Shelf Go.Sort
set_option maxRecDepth 100000

theorem grown_row {w : World} {g n : Nat} (d : Array Int) : w.grownBy (putRow (Value.int .i64) (Sort.ahead w n) g 0 d) (some g) := by
  refine ⟨rfl, rfl, rfl, by simp, fun k hk hne => ?_⟩
  have : g ≠ k := fun e => hne (by rw [e])
  simp [putRow, mapBlock, Sort.ahead, Array.getElem?_modify, this]
set_option maxHeartbeats 4000000 in
theorem distinct_any (A : Option Addr) (c : Nat) (l : List Int) (hl : l.length ≤ 1000000) (n : Int) (w : World) (hs : SlI w w.heap.size A l) :
    Calls Try.prog 44 #[.slice A l.length c, .int .i64 n] w fun e w' => e = .returned (.bool (distB' l n)) ∧ Below w.heap.size w w' := by
  have HV := Lib.hid (values_any A l.length c w)
  have hb0 : Below w.heap.size w (w.alloc (.cells #[.slice A l.length c] 28)) := (Below.refl _ w).alloc (Nat.le_refl _) _
  have HSo := Lib.hid (sorted_any w.heap.size A c l hl (w.alloc (.cells #[.slice A l.length c] 28)) (by simp) (cell_new rfl rfl rfl) ((hs.below hb0).more hb0.size))
  have HB0 := Lib.hid hb0
  clear hs hb0
  by_cases hp : 0 < l.length
  case neg =>
    have hnil : l = [] := List.length_eq_zero_iff.1 (by omega)
    subst hnil
    have HD : Hid (distB' [] n = true) := by simp [Hid, distB']
    go_enter Try.func44, Try.ntmps44
    go_wp2_with (first
      | (go_at_call 68; refine HV.out.mono ?_; rintro e w1 ⟨rfl, rfl⟩)
      | (go_at_call 67; refine HSo.out.mono ?_; rintro e w2 ⟨v, rfl, hown, hb2⟩))
    go_ret
    exact ⟨ret_bool HD.out.symm, HB0.out.trans (hb2.mono HB0.out.size)⟩
  case pos =>
    have h0 : 0 < (sortZ l).length := by rw [sortZ_len]; exact hp
    have hlast : (sortZ l).length - 1 < (sortZ l).length := by omega
    have HD := Lib.hid (distinct_plain hp n h0 hlast)
    obtain ⟨m, hm⟩ : ∃ m, l.length = m + 1 := ⟨l.length - 1, by omega⟩
    have hsl := sortZ_len l
    have hg0 : (sortZ l)[0]? = some (sortZ l)[0] := List.getElem?_eq_getElem h0
    have hgl : (sortZ l)[m]? = some ((sortZ l)[(sortZ l).length - 1]) := by
      rw [List.getElem?_eq_getElem (show m < (sortZ l).length by omega)]
      congr 1
      have : m = (sortZ l).length - 1 := by omega
      subst this; rfl
    generalize (sortZ l)[0] = s0 at HD hg0
    generalize (sortZ l)[(sortZ l).length - 1] = s1 at HD hgl
    clear h0 hlast hp
    have hmb : m ≤ 1000000 := by omega
    rw [hm] at HV HSo HD HB0 hsl ⊢
    have HSl := Lib.hid hsl
    have HM := Lib.hid hm
    clear hm hsl
    go_enter Try.func44, Try.ntmps44
    go_upto_region 2 with (first
      | (go_at_call 68; refine HV.out.mono ?_; rintro e w1 ⟨rfl, rfl⟩)
      | (go_at_call 67; refine HSo.out.mono ?_; rintro e w2 ⟨v, rfl, hown, hb2⟩))
    have hsl := HSl.out
    have hm := HM.out
    obtain ⟨g, cap, rfl⟩ : ∃ g cap, v = .slice (some ⟨g, 0, none⟩) (m + 1) cap := by
      rcases hown.2 with ⟨_, h⟩ | ⟨g, cap, cur, h, _⟩
      · omega
      · exact ⟨g, cap, by rw [h, hsl]⟩
    have hown' : w2.ownsRow (w.alloc (.cells #[.slice A (m + 1) c] 28)).heap.size 3 1 (.slice (some ⟨g, 0, none⟩) (m + 1) cap) (m + 1) (intV (sortZ l)) := by
      have h := hown
      unfold ownI at h
      rw [hsl] at h
      exact h
    have hc0 : w2.cell? ⟨g, 0, none⟩ = some (.int .i64 s0) := by
      rw [hown'.cellAt 0 (by omega)]; unfold intV; rw [List.getElem?_map, hg0]; rfl
    have hc1 : w2.cell? ⟨g, m, none⟩ = some (.int .i64 s1) := by
      rw [hown'.cellAt m (by omega)]; unfold intV; rw [List.getElem?_map, hgl]; rfl
    have hcap : m + 1 ≤ cap := by
      obtain ⟨a9, c9, e, h⟩ := own_slice hown'
      cases e; exact h
    have hH : Holds (Value.int .i64) w2 g 0 (sortZ l).toArray := fun j hj => by
      have hj' : j < (sortZ l).length := by simpa using hj
      rw [Nat.zero_add]
      refine ⟨?_, hown'.frozenAt j⟩
      rw [hown'.cellAt j (by omega)]
      unfold intV
      rw [List.getElem?_map, List.getElem?_eq_getElem hj', getElem!_pos (sortZ l).toArray j hj]; rfl
    have hcp := Try.slices_Compact_int g 0 cap (sortZ l) w2 hH (by omega) (by omega)
    rw [hsl] at hcp
    have HCp := Lib.hid hcp
    have hgz : w.heap.size ≤ g := by have := (hown'.lt g rfl).1; simp at this; omega
    have HB2 := Lib.hid (HB0.out.trans (hb2.mono HB0.out.size))
    have hb3 : ∀ q (d : Array Int), Below w.heap.size w (putRow (Value.int .i64) (Sort.ahead w2 q) g 0 d) := fun q d => HB2.out.grown (grown_row d) HB2.out.size (fun j hj => by cases hj; exact hgz)
    have HB3 := Lib.hid hb3
    clear hown hown' hH hcp hb2 hb3 hg0 hgl hsl hm HV HSo hgz HSl HM
    generalize (Lib.compact (sortZ l)).length = k at HD HCp
    have hcl : decide ((m : Int) < ((m + 1 : Nat) : Int)) = true := decide_eq_true (by omega)
    have hsub : IntKind.i64.wrap (((m + 1 : Nat) : Int) - 1) = (m : Int) := by rw [show ((m + 1 : Nat) : Int) - 1 = (m : Int) by omega]; exact IntWalk.i64_in _ (by omega)
    cases q1 : decide (0 ≤ s0) with
    | false =>
      have HF : Hid (distB' l n = false) := by unfold Hid; rw [← HD.out, q1]; rfl
      clear HD
      go_wp2
      go_ret
      exact ⟨ret_bool HF.out.symm, HB2.out⟩
    | true =>
      cases q2 : decide (s1 < n) with
      | false =>
        have HF : Hid (distB' l n = false) := by unfold Hid; rw [← HD.out, q1, q2]; rfl
        clear HD
        go_wp2
        go_ret
        exact ⟨ret_bool HF.out.symm, HB2.out⟩
      | true =>
        have HF : Hid (distB' l n = decide (k = m + 1)) := by unfold Hid; rw [← HD.out, q1, q2]; rfl
        clear HD
        go_wp2_with (go_at_call 69; refine HCp.out.mono ?_; rintro e w3 ⟨rfl, q, rfl⟩)
        go_ret
        exact ⟨ret_bool (by rw [HF.out, Bool.eq_iff_iff]; simp; omega), HB3.out _ _⟩
end Go.Proofs.Ytjoglkamhjcmhaa
