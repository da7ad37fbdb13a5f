/- The reference's layer 30: On, Feed. BedAsks, walked: On and Feed return what the reference returns. -/
import Derived.Test.YthedmiilkeclaaaGreatKPq
import Derived.Test.YthedmiilkeclaaaGreatKPk
import Derived.Test.YthedmiilkeclaaaGreatKPf
namespace Go.Proofs.YthedmiilkeclaaaGreat
open Go.RowKit Go.Shelf
set_option maxRecDepth 100000

theorem idx_find {α : Type} {pr : α → Bool} : ∀ {l : List α}, (idxE pr l = -1 ∧ l.find? pr = none) ∨ ∃ (k : Nat) (f : α), idxE pr l = (k : Int) ∧ l[k]? = some f ∧ l.find? pr = some f := by
  intro l
  cases h : l.findIdx? pr with
  | none =>
    left
    refine ⟨by rw [idxE, h], ?_⟩
    rw [List.find?_eq_none]
    rw [List.findIdx?_eq_none_iff] at h
    intro x hx
    rw [h x hx]; simp
  | some k =>
    right
    have h2 := List.findIdx?_eq_some_iff_getElem.1 h
    obtain ⟨hk, h3, h4⟩ := h2
    refine ⟨k, l[k], by rw [idxE, h], List.getElem?_eq_getElem hk, ?_⟩
    rw [List.find?_eq_some_iff_getElem]
    exact ⟨h3, k, hk, rfl, fun j hj => by have := h4 j hj; simpa using this⟩
end Go.Proofs.YthedmiilkeclaaaGreat
namespace Go.Proofs.YthedmiilkeclaaaGreat
open Go.RowKit Go.Shelf
set_option maxRecDepth 100000

theorem sameInts_any (A A' : Option Addr) (c c' : Nat) (l : List Int) (w : World) (h : SlI w w.heap.size A l) (h' : SlI w w.heap.size A' l) (hn : l.length ≤ 4611686018427387904) :
    Calls Tryz.prog 35 #[.slice A l.length c, .slice A' l.length c'] w fun e w' => e = .returned (.bool true) ∧ Below w.heap.size w w' := by
  have hne : (((l.length : Nat) : Int) == ((l.length : Nat) : Int)) = true := by simp
  go_enter Tryz.func35, Tryz.ntmps35
  go_wp2
  go_loopw [5] (fun i wr => ∃ k : Nat, k ≤ l.length ∧ i = .int .i64 k ∧ Below w.heap.size w wr) (fun i _ => l.length - (intOf i).toNat)
  case atStart => exact ⟨0, Nat.zero_le _, rfl, Below.refl _ _⟩
  case round =>
    obtain ⟨k, hk, rfl, hbw⟩ := hrel
    by_cases hlt : k < l.length
    · obtain ⟨b, off, z, rfl, hB, hz, hc⟩ := h.at_ hlt
      obtain ⟨b', off', z', rfl, hB', hz', hc'⟩ := h'.at_ hlt
      rw [hz] at hz'
      obtain rfl : z = z' := by simpa using hz'
      have h1 := (bcell hbw hB _).trans hc
      have h2 := (bcell hbw hB' _).trans hc'
      clear hc hc' h h' hz hz'
      go_wp2
      go_quiet (fail)
      go_wp2
      go_roundw
      case rel => exact ⟨k + 1, by omega, by go_num, below_drewN hbw _⟩
      case measure => simp [intOf]; omega
    · clear h h'
      go_wp2
      go_ret
      exact ⟨rfl, hbw⟩
theorem eql_fd (W : World) (c : Int) (fr : Bool) (p : Int) : (binOp .eql 94 (.agg #[.int .i64 c, .bool fr, .int .i64 p]) (.agg #[.int .i64 c, .bool fr, .int .i64 p])).run Tryz.prog W = .ok (.bool true) W := by
  rw [run_eql_struct, show (10000 : Nat) = 9999 + 1 from rfl]
  simp [go_sem]
theorem great_len {s : BedS} (h : greatB s = false) : s.hooks.length ≤ 9000 ∧ s.feeds.length ≤ 9000 ∧ s.made.length ≤ 9000 := by
  unfold greatB at h
  simp only [Bool.or_eq_false_iff, decide_eq_false_iff_not] at h
  omega
theorem onR_len {s : BedS} (b n : Int) : (onR s b n).1.length ≤ 4611686018427387904 := by
  unfold onR
  split
  · simp
  · split
    · simp
    · rename_i he _
      have he' : bedE s = 0 := by simpa using he
      unfold heldAt
      split
      · rename_i h hf
        have := (bed_loops he' h (List.mem_of_find?_eq_some hf)).2
        show h.loops.length ≤ _
        omega
      · simp
end Go.Proofs.YthedmiilkeclaaaGreat
