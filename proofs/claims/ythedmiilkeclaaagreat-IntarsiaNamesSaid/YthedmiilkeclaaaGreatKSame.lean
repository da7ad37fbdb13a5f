/- The reference's Same, at two copies of one state. -/
import Derived.Test.YthedmiilkeclaaaGreatKDoB
import Derived.Test.YthedmiilkeclaaaGreatKPq
namespace Go.Proofs.YthedmiilkeclaaaGreat
open Go.RowKit Go.Shelf Go.Sort
set_option maxRecDepth 100000

set_option maxHeartbeats 1000000 in
theorem sameQ_any (A A' : Option Addr) (c c' : Nat) (l : List Int) (w : World) (h : SlI w w.heap.size A l) (h' : SlI w w.heap.size A' l) (hn : l.length ≤ 4611686018427387904) :
    Calls Tryz.prog 35 #[.slice A l.length c, .slice A' l.length c'] w fun e w' => e = .returned (.bool true) ∧ ∃ m, w' = w.drewN m := by
  have hne : (((l.length : Nat) : Int) == ((l.length : Nat) : Int)) = true := by simp
  go_enter Tryz.func35, Tryz.ntmps35
  go_wp2
  go_loopw [5] (fun i wr => ∃ k : Nat, k ≤ l.length ∧ i = .int .i64 k ∧ Hid (∃ m, wr = w.drewN m)) (fun i _ => l.length - (intOf i).toNat)
  case atStart => exact ⟨0, Nat.zero_le _, rfl, 0, rfl⟩
  case round =>
    obtain ⟨k, hk, rfl, HM⟩ := hrel
    have hbw : Below w.heap.size w wr := by obtain ⟨m, rfl⟩ := HM.out; exact below_drewN (Below.refl _ _) m
    by_cases hlt : k < l.length
    · obtain ⟨b, off, z, rfl, hB, hz, hc⟩ := h.at_ hlt
      obtain ⟨b', off', z', rfl, hB', hz', hc'⟩ := h'.at_ hlt
      rw [hz] at hz'
      obtain rfl : z = z' := by simpa using hz'
      have h1 := (bcell hbw hB _).trans hc
      have h2 := (bcell hbw hB' _).trans hc'
      clear hc hc' h h' hz hz' hbw
      go_wp2
      go_quiet (fail)
      go_wp2
      go_roundw
      case rel => exact ⟨k + 1, by omega, by go_num, by obtain ⟨m, hm⟩ := HM.out; exact ⟨_, by rw [hm, World.drewN_drewN]⟩⟩
      case measure => simp [intOf]; omega
    · clear h h' hbw
      go_wp2
      go_ret
      exact ⟨rfl, HM.out⟩
theorem neq_fd (W : World) (c : Int) (fr : Bool) (p : Int) : (binOp .neq 94 (.agg #[.int .i64 c, .bool fr, .int .i64 p]) (.agg #[.int .i64 c, .bool fr, .int .i64 p])).run Tryz.prog W = .ok (.bool false) W := by
  rw [run_neq_struct, show (10000 : Nat) = 9999 + 1 from rfl]
  simp [go_sem]
abbrev twoW (w : World) (s : BedS) (p p' : BedP) : World := (w.alloc (bedBox s p)).alloc (bedBox s p')
theorem two_facts (w : World) (s : BedS) (p p' : BedP) (W : World) (hb : Below (w.heap.size + 2) (twoW w s p p') W) : BdIn W w.heap.size s p ∧ BdIn W (w.heap.size + 1) s p' ∧ Below w.heap.size w W := by
  have h1 : Below (w.heap.size + 1) (w.alloc (bedBox s p)) (twoW w s p p') := (Below.refl _ _).alloc (by simp) _
  have e1 : (w.alloc (bedBox s p)).heap.size = w.heap.size + 1 := by simp
  refine ⟨(BdIn.new w s p).below (h1.trans (hb.mono (by omega))) (by omega), ?_, (((Below.refl _ w).alloc (Nat.le_refl _) _).alloc (by simp) _).trans (hb.mono (by omega))⟩
  have := BdIn.new (w.alloc (bedBox s p)) s p'
  rw [e1] at this
  exact this.below hb (by omega)
end Go.Proofs.YthedmiilkeclaaaGreat
