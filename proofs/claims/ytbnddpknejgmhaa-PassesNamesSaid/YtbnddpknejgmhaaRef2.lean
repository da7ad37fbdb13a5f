/- Layer 31, the reference: column, after. -/
import Derived.Test.YtbnddpknejgmhaaRef
namespace Go.Proofs.Ytbnddpknejgmhaa
open Go.RowKit
set_option maxRecDepth 100000

theorem col_eq {rack : Int} {i : Ins} (hi : i.fit) : i.col rack = if i.bed = 1 then i.at_ + rack else i.at_ := by
  obtain ⟨_, _, h1, h2, _⟩ := hi
  unfold Ins.col
  rcases (by omega : i.bed = 0 ∨ i.bed = 1) with e | e
  · rw [e]; simp
  · rw [e]; simp
set_option maxHeartbeats 1000000 in
theorem rcolumn_any (rack : Int) (hr : -8 ≤ rack ∧ rack ≤ 8) (i : Ins) (hi : i.fit) (w : World) : Calls Try.prog 48 #[.int .i64 rack, i.val] w fun e w' => RetI (i.col rack) w e w' := by
  have hc := col_eq (rack := rack) hi
  have hw : IntKind.i64.wrap (i.at_ + rack) = i.at_ + rack := IntWalk.i64_in _ (by obtain ⟨_, _, _, _, ⟨_, _⟩, _⟩ := hi; omega)
  have hb : Hid (∀ o o2, Below w.heap.size w ((w.alloc o).alloc o2)) := fun o o2 => ((Below.refl _ _).alloc (Nat.le_refl _) o).alloc (by simp) o2
  have HC := Lib.hid hc
  generalize i.col rack = g at HC ⊢
  clear hi hr hc
  go_enter Try.func48, Try.ntmps48
  go_wp2
  all_goals go_ret
  all_goals refine RetI.mk' ?_ (hb.out _ _)
  all_goals (rw [HC.out]; simp_all; done)

def afterI (rack : Int) (l : List Ins) : Int := l.foldl rackedI rack
set_option maxHeartbeats 1000000 in
theorem after_any (rack : Int) (A : Option Addr) (c : Nat) (l : List Ins) (hn : l.length ≤ 4611686018427387904) (w : World) (hs : SlX w w.heap.size A l) :
    Calls Try.prog 31 #[.int .i64 rack, .slice A l.length c] w fun e w' => e = .returned (.int .i64 (afterI rack l)) ∧ w = w' := by
  go_enter Try.func31, Try.ntmps31
  go_wp2
  go_loop [0, 5] (fun s0 s5 => ∃ (k : Nat) (r : Int), k ≤ l.length ∧ s5 = .int .i64 k ∧ s0 = .int .i64 r ∧ Hid (afterI rack l = afterI r (l.drop k))) (fun _ s5 => l.length - (intOf s5).toNat)
  case atStart => exact ⟨0, rack, Nat.zero_le _, rfl, rfl, rfl⟩
  case round =>
    obtain ⟨k, r, hk, rfl, rfl, H⟩ := hrel
    by_cases hlt : k < l.length
    · obtain ⟨b, off, i, rfl, hB, hi, hci⟩ := hs.at_ hlt
      obtain ⟨c0, c1, c2, c3, c4, c5, c6⟩ := hci
      have HH : Hid (afterI rack l = afterI (rackedI r i) (l.drop (k + 1))) := by unfold Hid; rw [H.out, drop_at hi]; rfl
      clear hs hi H
      by_cases h8 : i.op = 8
      · have g8 : (i.op == 8) = true := by rw [h8]; rfl
        have HR : Hid (rackedI r i = i.rack) := by unfold Hid rackedI; rw [if_pos h8]
        clear h8
        go_wp2
        go_round
        case rel => exact ⟨k + 1, i.rack, by omega, by go_num, rfl, by rw [HH.out, HR.out]; rfl⟩
        case measure => simp [intOf]; omega
      · have g8 : (i.op == 8) = false := beq_eq_false_iff_ne.2 h8
        have HR : Hid (rackedI r i = r) := by unfold Hid rackedI; rw [if_neg h8]
        clear h8
        go_wp2
        go_round
        case rel => exact ⟨k + 1, r, by omega, by go_num, rfl, by rw [HH.out, HR.out]; rfl⟩
        case measure => simp [intOf]; omega
    · have HH : Hid (afterI rack l = r) := by unfold Hid; rw [H.out, List.drop_of_length_le (by omega)]; rfl
      clear hs H
      go_wp2
      go_ret
      exact ⟨ret_int HH.out.symm, rfl⟩
end Go.Proofs.Ytbnddpknejgmhaa
