/- Layer 34: the reference's Same, at two pictures of one content. -/
import Derived.Test.YthedmiilkeclaaaGreatKLook
import Derived.BigQuiet
import Derived.ChangeKeysEq
import Derived.RegionTactic
import Derived.Deep.RegionLaw
namespace Go.Proofs.YthedmiilkeclaaaGreat
open Go.RowKit Go.Shelf
set_option maxRecDepth 100000

theorem below_drewP {B : Nat} {w W : World} (h : Below B w W) (n : Nat) : Below B w (W.drewN n) := by
  obtain ⟨a, b, c, d, e⟩ := h
  exact ⟨a, b, c, d, e⟩
set_option maxHeartbeats 1000000 in
theorem sameI_any (A A' : Option Addr) (c c' : Nat) (l : List Int) (w : World) (h : SlI w w.heap.size A l) (h' : SlI w w.heap.size A' l) (hn : l.length ≤ 4611686018427387904) :
    Calls Tryz.prog 35 #[.slice A l.length c, .slice A' l.length c'] w fun e w' => e = .returned (.bool true) ∧ ∃ m, w' = w.drewN m := by
  have hne : (((l.length : Nat) : Int) == ((l.length : Nat) : Int)) = true := by simp
  go_enter Tryz.func35, Tryz.ntmps35
  go_wp2
  go_loopw [5] (fun i wr => ∃ k : Nat, k ≤ l.length ∧ i = .int .i64 k ∧ Hid (∃ m, wr = w.drewN m)) (fun i _ => l.length - (intOf i).toNat)
  case atStart => exact ⟨0, Nat.zero_le _, rfl, 0, rfl⟩
  case round =>
    obtain ⟨k, hk, rfl, HM⟩ := hrel
    have hbw : Below w.heap.size w wr := by obtain ⟨m, rfl⟩ := HM.out; exact below_drewP (Below.refl _ _) m
    by_cases hlt : k < l.length
    · obtain ⟨b, off, z, rfl, hB, hz, hc⟩ := h.at_ hlt
      obtain ⟨b', off', z', rfl, hB', hz', hc'⟩ := h'.at_ hlt
      rw [hz] at hz'
      obtain rfl : z = z' := by simpa using hz'
      have h1 := (bcell hbw hB _).trans hc
      have h2 := (bcell hbw hB' _).trans hc'
      clear hc hc' h h' hz hz' hbw
      go_wp2
      go_quiet (fail)
      go_wp2
      go_roundw
      case rel => exact ⟨k + 1, by omega, by go_num, by obtain ⟨m, hm⟩ := HM.out; exact ⟨_, by rw [hm, World.drewN_drewN]⟩⟩
      case measure => simp [intOf]; omega
    · clear h h' hbw
      go_wp2
      go_ret
      exact ⟨rfl, HM.out⟩

set_option maxHeartbeats 16000000 in
theorem same34_any (A A' : Option Addr) (c c' : Nat) (p : List (List Int)) (w : World) (h : SlRows w w.heap.size A p) (h' : SlRows w w.heap.size A' p) (hn : p.length ≤ 4611686018427387904) (hrl : ∀ row ∈ p, row.length ≤ 4611686018427387904) :
    Calls Tryz.prog 12 #[.slice A p.length c, .slice A' p.length c'] w fun e w' => e = .returned (.bool true) ∧ Below w.heap.size w w' := by
  have hne : (((p.length : Nat) : Int) == ((p.length : Nat) : Int)) = true := by simp
  have hne2 : (((p.length : Nat) : Int) != ((p.length : Nat) : Int)) = false := by simp
  go_enter Tryz.func12, Tryz.ntmps12
  go_wp2
  go_loopw [5] (fun i wr => ∃ k : Nat, k ≤ p.length ∧ i = .int .i64 k ∧ Hid (∃ m, wr = w.drewN m)) (fun i _ => p.length - (intOf i).toNat)
  case atStart => exact ⟨0, Nat.zero_le _, rfl, 0, rfl⟩
  case round =>
    obtain ⟨k, hk, rfl, HM⟩ := hrel
    have hbw : Below w.heap.size w wr := by obtain ⟨m, rfl⟩ := HM.out; exact below_drewP (Below.refl _ _) m
    by_cases hlt : k < p.length
    · obtain ⟨b, off, row, ar, cr, rfl, hB, hr, hc, hsr⟩ := h.at_ hlt
      obtain ⟨b', off', row', ar', cr', rfl, hB', hr', hc', hsr'⟩ := h'.at_ hlt
      rw [hr] at hr'
      obtain rfl : row = row' := by simpa using hr'
      have h1 := (bcell hbw hB _).trans hc
      have h2 := (bcell hbw hB' _).trans hc'
      have HSI : Hid (∀ W, Below w.heap.size w W → Calls Tryz.prog 35 #[.slice ar row.length cr, .slice ar' row.length cr'] W fun e w' => e = .returned (.bool true) ∧ ∃ m, w' = W.drewN m) := fun W hb => sameI_any ar ar' cr cr' row W ((hsr.below hb).more hb.size) ((hsr'.below hb).more hb.size) (hrl row (List.mem_of_getElem? hr))
      have HBw : Hid (∀ n, Below w.heap.size w (wr.drewN n)) := fun n => below_drewP hbw n
      have HBw1 : Hid (Below w.heap.size w wr.drew) := below_drewP hbw 1
      clear hc hc' h h' hr hr' hsr hsr' hbw
      go_wp2
      go_region_with (first | (go_at_call 35; refine (HSI.out _ HBw1.out).mono ?_; rintro e w1 ⟨rfl, m1, rfl⟩) | (go_at_call 35; refine (HSI.out _ (HBw.out _)).mono ?_; rintro e w1 ⟨rfl, m1, rfl⟩))
      all_goals
        go_wp2
        go_roundw
        case rel => exact ⟨k + 1, by omega, by go_num, by obtain ⟨m, hm⟩ := HM.out; exact ⟨_, by rw [hm, World.drewN_drewN]⟩⟩
        case measure => simp [intOf]; omega
    · clear h h'
      go_wp2
      go_ret
      exact ⟨rfl, hbw⟩
end Go.Proofs.YthedmiilkeclaaaGreat
