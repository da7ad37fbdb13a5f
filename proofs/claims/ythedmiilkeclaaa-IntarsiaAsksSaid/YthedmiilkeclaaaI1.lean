/- Layer 34, contracts: Great, Check (the program's and the reference's). -/
import Derived.Test.YthedmiilkeclaaaBase
import Derived.Test.YthedmiilkeclaaaIMath
namespace Go.Proofs.Ythedmiilkeclaaa
open Go.RowKit
set_option maxRecDepth 100000

def rowG (n : Nat) : Bool := (decide (30 < n) && decide (n ≤ 101)) || decide (150 < n)
def greatB (p : List (List Int)) : Bool := (p.take 150).any (fun r => rowG r.length) || ((decide (12 < p.length) && decide (p.length ≤ 100)) || decide (150 < p.length))

theorem greatB_hit {p : List (List Int)} {k : Nat} {row : List Int} (hk : k < 150) (hr : p[k]? = some row) (hg : rowG row.length = true) : greatB p = true := by
  unfold greatB
  have : (p.take 150).any (fun r => rowG r.length) = true := by
    rw [List.any_eq_true]
    exact ⟨row, List.mem_iff_getElem?.2 ⟨k, by rw [List.getElem?_take, if_pos hk]; exact hr⟩, hg⟩
  rw [this]; rfl
theorem greatB_none {p : List (List Int)} (h : ∀ j row, j < min p.length 150 → p[j]? = some row → rowG row.length = false) :
    greatB p = ((decide (12 < p.length) && decide (p.length ≤ 100)) || decide (150 < p.length)) := by
  unfold greatB
  have : (p.take 150).any (fun r => rowG r.length) = false := by
    rw [List.any_eq_false]
    intro r hr
    obtain ⟨j, hj⟩ := List.mem_iff_getElem?.1 hr
    rw [List.getElem?_take] at hj
    by_cases hlt : j < 150
    · rw [if_pos hlt] at hj
      have : j < p.length := (List.getElem?_eq_some_iff.1 hj).1
      simp [h j r (by omega) hj]
    · rw [if_neg hlt] at hj; cases hj
  rw [this]; rfl

set_option maxHeartbeats 1000000 in
theorem great_any (A : Option Addr) (c : Nat) (p : List (List Int)) (w : World) (h : SlRows w w.heap.size A p) :
    Calls Try.prog 7 #[.slice A p.length c] w fun e w' => e = .returned (.bool (greatB p)) ∧ w = w' := by
  go_enter Try.func7, Try.ntmps7
  go_wp2
  go_loop [3] (fun i => ∃ k : Nat, k ≤ p.length ∧ k ≤ 150 ∧ i = .int .i64 k ∧ Hid (∀ j row, j < k → p[j]? = some row → rowG row.length = false)) (fun i => 150 - (intOf i).toNat)
  case atStart => exact ⟨0, Nat.zero_le _, Nat.zero_le _, rfl, fun j _ hj => absurd hj (Nat.not_lt_zero j)⟩
  case round =>
    obtain ⟨k, hk, hk2, rfl, H⟩ := hrel
    by_cases hlt : k < p.length ∧ k < 150
    · obtain ⟨hlt, h150⟩ := hlt
      obtain ⟨b, off, row, A', C', rfl, hB, hr, hc, hs⟩ := h.at_ hlt
      have HR : Hid (p[k]? = some row) := hr
      clear hr hs
      cases hg : rowG row.length with
      | true =>
        have HG : Hid (rowG row.length = true) := hg
        clear hg
        go_wp2
        all_goals try (exfalso; have := HG.out; simp [rowG] at this; omega)
        all_goals go_ret
        all_goals exact ⟨ret_bool (greatB_hit h150 HR.out HG.out).symm, rfl⟩
      | false =>
        have HG : Hid (rowG row.length = false) := hg
        clear hg
        go_wp2
        all_goals try (exfalso; have := HG.out; simp [rowG] at this; omega)
        all_goals
          go_round
          case rel =>
            refine ⟨k + 1, by omega, by omega, by go_num, fun j r hj hr => ?_⟩
            by_cases e : j = k
            · subst e; rw [HR.out] at hr; injection hr with hr; subst hr; exact HG.out
            · exact H.out j r (by omega) hr
          case measure => simp [intOf]; omega
    · have hend := greatB_none (p := p) (fun j row hj => H.out j row (by omega))
      have HE : Hid (greatB p = ((decide (12 < p.length) && decide (p.length ≤ 100)) || decide (150 < p.length))) := hend
      clear hend H h
      go_wp2
      all_goals go_ret
      all_goals refine ⟨ret_bool ?_, rfl⟩
      all_goals rw [HE.out, Bool.eq_iff_iff]
      all_goals first | (simp; done) | (simp; omega)
end Go.Proofs.Ythedmiilkeclaaa
