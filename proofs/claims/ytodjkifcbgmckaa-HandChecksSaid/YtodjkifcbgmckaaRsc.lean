/- The reference's layer 25: Check; Great. -/
import Derived.Test.YtodjkifcbgmckaaSt2
namespace Go.Proofs.Ytodjkifcbgmckaa
open Go.RowKit
set_option maxRecDepth 100000

theorem err_of {k : Int} {pl : Bool} {a b : Int} {v : Int} (q : Bool) (h : (⟨k, pl, a, b⟩ : Stc).ok = q) (hv : v = if q then 0 else 8) : (⟨k, pl, a, b⟩ : Stc).err = v := by unfold Stc.err; rw [h, hv]
set_option maxHeartbeats 4000000 in
theorem rscheck_any (s : Stc) (w : World) : Calls Try.prog 31 #[s.val] w fun e w' => RetE s.err w e w' := by
  obtain ⟨k, pl, a, b⟩ := s
  have hbl := Lib.hid (fun o => (Below.refl w.heap.size w).alloc (Nat.le_refl _) o)
  by_cases h : 1 ≤ k ∧ k ≤ 10
  · rcases (by omega : k = 1 ∨ k = 2 ∨ k = 3 ∨ k = 4 ∨ k = 5 ∨ k = 6 ∨ k = 7 ∨ k = 8 ∨ k = 9 ∨ k = 10) with rfl | rfl | rfl | rfl | rfl | rfl | rfl | rfl | rfl | rfl
    all_goals clear h
    all_goals cases pl
    all_goals
      go_enter Try.func31, Try.ntmps31
      go_wp2
      all_goals go_ret
      all_goals exact RetE.mk' (by (try simp only [Bool.not_eq_true', Bool.not_eq_false', beq_eq_false_iff_ne, beq_iff_eq, ne_eq, decide_eq_true_eq, decide_eq_false_iff_not] at *); simp [Stc.err, Stc.ok, formI, formT, form0] <;> omega) (hbl.out _)
  · have hn : ∀ j : Int, 1 ≤ j → j ≤ 10 → (k == j) = false := fun j h1 h2 => beq_eq_false_iff_ne.2 (by omega)
    have e1 := hn 1 (by decide) (by decide)
    have e2 := hn 2 (by decide) (by decide)
    have e3 := hn 3 (by decide) (by decide)
    have e4 := hn 4 (by decide) (by decide)
    have e5 := hn 5 (by decide) (by decide)
    have e6 := hn 6 (by decide) (by decide)
    have e7 := hn 7 (by decide) (by decide)
    have e8 := hn 8 (by decide) (by decide)
    have e9 := hn 9 (by decide) (by decide)
    have e10 := hn 10 (by decide) (by decide)
    have HE : Hid ((⟨k, pl, a, b⟩ : Stc).err = 8) := by unfold Hid Stc.err Stc.ok; simp [h]
    clear hn h
    go_enter Try.func31, Try.ntmps31
    go_wp2
    all_goals go_ret
    all_goals exact RetE.mk' HE.out (hbl.out _)
end Go.Proofs.Ytodjkifcbgmckaa
