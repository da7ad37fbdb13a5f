/- Layer 28: LadderDepths, plain. -/
import Derived.Test.YtbibndpkcilblaaKSf
namespace Go.Proofs.Ytbibndpkcilblaa
open Go.RowKit Go.Shelf Go.Sort
set_option maxRecDepth 100000

theorem run_list_mark {lp : List Lp} {drop : List Int} {x : Int} : x ∈ listN lp.length (runF lp drop) ↔ (gO (runL lp drop) x).isSome = true := by
  rw [listN_mem]
  constructor
  · rintro ⟨k, hk, rfl, h⟩
    exact mark_run hk h
  · intro h
    obtain ⟨k, rfl, hk, hr⟩ := run_mark h
    exact ⟨k, hk, rfl, hr⟩
theorem one_dropB {M lv i : Nat} (hi : i < M) (hlv : lv ≤ i) : dropB M lv [(i : Int)] = true := by
  refine dropB_yes fun j hj => ?_
  have hj0 : j = 0 := by simpa using hj
  subst hj0
  unfold badAt
  have e : [(i : Int)].getD 0 0 = (i : Int) := rfl
  rw [e, decide_eq_false (by omega), decide_eq_false (by omega)]
  rfl
theorem low_next {lp : List Lp} {i : Nat} {R : List Int} {k : Nat} {low : Int} {j : Nat} (h : LowI lp i (R.take k) low) (hr : R[k]? = some (j : Int)) : LowI lp i (R.take (k + 1)) (min low (rowN lp j)) := by
  obtain ⟨hj, e⟩ := List.getElem?_eq_some_iff.1 hr
  have := h.step (j : Int)
  rw [Int.toNat_natCast] at this
  rw [List.take_succ_eq_append_getElem hj, e]
  exact this
theorem safe_has {t : Pw} {rows : Int} {i : Nat} (hi : i < t.lp.length) (hlv : t.next ≤ i) : hasB (listN t.lp.length (safeF t rows)) (i : Int) = decide (depZ t.lp i ≤ rows) := by
  rw [hasB_list hi]
  unfold safeF
  rw [decide_eq_true hlv, Bool.true_and]
end Go.Proofs.Ytbibndpkcilblaa
