/- Layer 25: All, Uses, Makes. -/
import Derived.Test.YtflpikickbellaaKSt3
namespace Go.Proofs.Ytflpikickbellaa
open Go.RowKit
set_option maxRecDepth 100000

theorem err_ok {s : Stc} (h : ¬ s.err ≠ 0) : s.ok = true := by
  unfold Stc.err at h
  cases hk : s.ok with
  | true => rfl
  | false => rw [hk] at h; simp at h
set_option maxHeartbeats 1000000 in
theorem all_any (A : Option Addr) (c : Nat) (l : List Stc) (hw : ∀ s ∈ l, s.wf) (w : World) (hs : SlT w w.heap.size A l) :
    Calls Try.prog 71 #[.slice A l.length c] w fun e w' => RetE (allE l) w e w' := by
  by_cases h1 : 200 < l.length
  · have HE : Hid (allE l = 4) := by unfold Hid allE; rw [if_pos h1]
    clear hs hw
    go_enter Try.func71, Try.ntmps71
    go_wp2
    go_ret
    exact RetE.mk' HE.out (Below.refl _ _)
  have hcall := Lib.hid (contT_any 85 #[] (enters_of Try.func85 (by kernel_rfl) rfl) (fun i => decide (i.err ≠ 0)) A c l w hs (by omega) (fun x hx w' _ => all1_any x (hw x hx) w'))
  cases hb : l.any (fun i => decide (i.err ≠ 0)) with
  | true =>
    have HE : Hid (allE l = 8) := by unfold Hid allE; rw [if_neg h1, hb, if_pos rfl]
    rw [hb] at hcall
    clear hs hw hb
    go_enter Try.func71, Try.ntmps71
    go_wp2_with (go_at_call 84; refine hcall.out.mono ?_; rintro e w' ⟨rfl, hb1⟩)
    go_ret
    exact RetE.mk' HE.out hb1
  | false =>
    have HE : Hid (allE l = if 200 < sumU l ∨ 200 < sumM l then 4 else 0) := by unfold Hid allE; rw [if_neg h1, hb, if_neg (by simp)]
    have hok : ∀ s ∈ l, s.ok = true := fun s hs => by
      rw [List.any_eq_false] at hb
      exact err_ok (by simpa using hb s hs)
    have HSm := Lib.hid (fun w' (hb : Below w.heap.size w w') => sum_any A c l hw hok (by omega) w' ((hs.below hb).more hb.size))
    rw [hb] at hcall
    clear hs hw hb hok
    generalize sumU l = u at HE HSm
    generalize sumM l = m at HE HSm
    by_cases h2 : 200 < u ∨ 200 < m
    · have HE2 : Hid (allE l = 4) := by unfold Hid; rw [HE.out, if_pos h2]
      have h3 : decide (200 < max u m) = true := decide_eq_true (by omega)
      clear HE
      go_enter Try.func71, Try.ntmps71
      go_wp2_with (first
        | (go_at_call 84; refine hcall.out.mono ?_; rintro e w' ⟨rfl, hb1⟩)
        | (go_at_call 72; refine (HSm.out _ hb1).mono ?_; rintro e w2 ⟨rfl, hb2⟩))
      all_goals go_ret
      all_goals exact RetE.mk' HE2.out (hb1.trans (hb2.mono hb1.size))
    · have HE2 : Hid (allE l = 0) := by unfold Hid; rw [HE.out, if_neg h2]
      have h3 : decide (200 < max u m) = false := decide_eq_false (by omega)
      have h4 : u ≤ 200 := by omega
      have h5 : m ≤ 200 := by omega
      clear HE h2
      go_enter Try.func71, Try.ntmps71
      go_wp2_with (first
        | (go_at_call 84; refine hcall.out.mono ?_; rintro e w' ⟨rfl, hb1⟩)
        | (go_at_call 72; refine (HSm.out _ hb1).mono ?_; rintro e w2 ⟨rfl, hb2⟩))
      all_goals go_ret
      all_goals exact RetE.mk' HE2.out (hb1.trans (hb2.mono hb1.size))

theorem all_zero {l : List Stc} (h : allE l = 0) : l.length ≤ 200 ∧ (∀ s ∈ l, s.ok = true) ∧ sumU l ≤ 200 ∧ sumM l ≤ 200 := by
  unfold allE at h
  by_cases h1 : 200 < l.length
  · rw [if_pos h1] at h; cases h
  rw [if_neg h1] at h
  cases hb : l.any (fun i => decide (i.err ≠ 0)) with
  | true => rw [hb, if_pos rfl] at h; cases h
  | false =>
    rw [hb, if_neg (by simp)] at h
    by_cases h2 : 200 < sumU l ∨ 200 < sumM l
    · rw [if_pos h2] at h; cases h
    · refine ⟨by omega, fun s hs => ?_, by omega, by omega⟩
      rw [List.any_eq_false] at hb
      exact err_ok (by simpa using hb s hs)
def usesE (l : List Stc) : Int := if allE l = 0 then sumU l else 0
def makesE (l : List Stc) : Int := if allE l = 0 then sumM l else 0
set_option maxHeartbeats 1000000 in
theorem uses_any (A : Option Addr) (c : Nat) (l : List Stc) (hw : ∀ s ∈ l, s.wf) (w : World) (hs : SlT w w.heap.size A l) :
    Calls Try.prog 51 #[.slice A l.length c] w fun e w' => e = .returned (.tuple #[.int .i64 (usesE l), .int .i64 (allE l)]) ∧ Below w.heap.size w w' := by
  have HA := Lib.hid (all_any A c l hw w hs)
  by_cases he : allE l = 0
  · have hz := all_zero he
    have HU : Hid (usesE l = sumU l) := by unfold Hid usesE; rw [if_pos he]
    have HSm := Lib.hid (fun w' (hb : Below w.heap.size w w') => sum_any A c l hw hz.2.1 (by omega) w' ((hs.below hb).more hb.size))
    rw [he] at HA ⊢
    clear hs hw hz he
    go_enter Try.func51, Try.ntmps51
    go_wp2_with (first
      | (go_at_call 71; refine HA.out.mono ?_; rintro e w' ⟨rfl, hb1⟩)
      | (go_at_call 72; refine (HSm.out _ hb1).mono ?_; rintro e w2 ⟨rfl, hb2⟩))
    go_ret2
    exact ⟨by rw [HU.out]; rfl, hb1.trans (hb2.mono hb1.size)⟩
  · have HU : Hid (usesE l = 0) := by unfold Hid usesE; rw [if_neg he]
    have hb : (allE l == 0) = false := beq_eq_false_iff_ne.2 he
    generalize allE l = x at HA hb ⊢
    clear hs hw he
    go_enter Try.func51, Try.ntmps51
    go_wp2_with (go_at_call 71; refine HA.out.mono ?_; rintro e w' ⟨rfl, hb1⟩)
    go_ret2
    exact ⟨by rw [HU.out]; rfl, hb1⟩
end Go.Proofs.Ytflpikickbellaa
