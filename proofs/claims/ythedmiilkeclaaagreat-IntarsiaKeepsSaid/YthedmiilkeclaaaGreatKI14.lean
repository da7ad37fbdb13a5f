/- Layer 34: the law IntarsiaAsks, walked. -/
import Derived.Test.YthedmiilkeclaaaGreatKRc
namespace Go.Proofs.YthedmiilkeclaaaGreat
open Go.RowKit
open Go.Proofs.YthedmiilkeclaaaGreat.I34
set_option maxRecDepth 100000

theorem greatPic_small {p : List (List Int)} (h : greatPic p = false) : p.length ≤ 150 ∧ ∀ row ∈ p, row.length ≤ 150 := by
  unfold greatPic at h
  rw [Bool.or_eq_false_iff] at h
  obtain ⟨h1, h2⟩ := h
  have hl : p.length ≤ 150 := by
    rw [Bool.or_eq_false_iff] at h2
    have := of_decide_eq_false h2.2; omega
  refine ⟨hl, fun row hr => ?_⟩
  rw [List.take_of_length_le hl, List.any_eq_false] at h1
  have := h1 row hr
  unfold rowG at this
  simp at this
  omega

theorem flR_len {p : List (List Int)} (h : ∀ row ∈ p, row.length ≤ 150) (row colour : Int) : (flR p row colour).1.length ≤ 150 := by
  unfold flR
  split
  · simp
  · split
    · simp
    · have h1 := floTo_len (p.getD row.toNat []) colour (p.getD row.toNat []).length
      have h2 : (p.getD row.toNat []).length ≤ 150 := by
        rw [List.getD]
        cases hr : p[row.toNat]? with
        | none => simp
        | some r => exact h r (List.mem_of_getElem? hr)
      show (flo (p.getD row.toNat []) colour).length ≤ 150
      unfold flo; omega

end Go.Proofs.YthedmiilkeclaaaGreat
