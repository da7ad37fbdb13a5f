/- The reference's layer 30: Great, in, Has, Held. -/
import Derived.Test.YtjoglkamhjcmhaaBd0
import Derived.Test.YtjoglkamhjcmhaaMem
import Derived.Test.YtjoglkamhjcmhaaVal2
namespace Go.Proofs.Ytjoglkamhjcmhaa
open Go.RowKit Go.Shelf
set_option maxRecDepth 100000

/-- The box of a state. -/
theorem bed_box (w : World) (s : BedS) (p : BedP) (w1 : World) (hb : Below (w.heap.size + 1) (w.alloc (.cells #[.int .i64 s.rack, .slice p.ah s.hooks.length p.ch, .slice p.af s.feeds.length p.cf, .slice p.am s.made.length p.cm] 26)) w1) :
    w1.cell? ⟨w.heap.size, 0, none⟩ = some (.int .i64 s.rack) ∧ w1.cell? ⟨w.heap.size, 1, none⟩ = some (.slice p.ah s.hooks.length p.ch) ∧ w1.cell? ⟨w.heap.size, 2, none⟩ = some (.slice p.af s.feeds.length p.cf) ∧ w1.cell? ⟨w.heap.size, 3, none⟩ = some (.slice p.am s.made.length p.cm) :=
  ⟨(bcell hb (by omega) _).trans (cell_new rfl rfl rfl), (bcell hb (by omega) _).trans (cell_new rfl rfl rfl), (bcell hb (by omega) _).trans (cell_new rfl rfl rfl), (bcell hb (by omega) _).trans (cell_new rfl rfl rfl)⟩
set_option maxHeartbeats 2000000 in
theorem rgreat_bed (s : BedS) (p : BedP) (w : World) : Calls Try.prog 12 #[s.val p] w fun e w' => e = .returned (.bool (greatB s)) ∧ Below w.heap.size w w' := by
  have hbl := Lib.hid (fun o => (Below.refl w.heap.size w).alloc (Nat.le_refl _) o)
  have fin : ∀ (q1 q2 q3 q4 q5 : Bool), decide (300 < (s.made.length : Int)) = q1 → decide ((s.made.length : Int) ≤ 4000) = q2 → decide (4100 < (s.made.length : Int)) = q3 → decide (300 < (s.hooks.length : Int)) = q4 → decide (300 < (s.feeds.length : Int)) = q5 → Hid (greatB s = ((q1 && q2) || q3 || q4 || q5)) := fun q1 q2 q3 q4 q5 h1 h2 h3 h4 h5 => by
    unfold Hid greatB
    rw [← h1, ← h2, ← h3, ← h4, ← h5, Bool.eq_iff_iff]; simp; omega
  unfold BedS.val
  cases q1 : decide (300 < (s.made.length : Int))
  all_goals cases q2 : decide ((s.made.length : Int) ≤ 4000)
  all_goals cases q3 : decide (4100 < (s.made.length : Int))
  all_goals cases q4 : decide (300 < (s.hooks.length : Int))
  all_goals cases q5 : decide (300 < (s.feeds.length : Int))
  all_goals
    have HF := fin _ _ _ _ _ q1 q2 q3 q4 q5
    clear fin
    go_enter Try.func12, Try.ntmps12
    go_wp2
    go_ret
    exact ⟨ret_bool HF.out.symm, hbl.out _⟩
set_option maxHeartbeats 1000000 in
theorem rin_any (s : BedS) (p : BedP) (c : Int) (hn : s.feeds.length ≤ 10000) (w : World) (hs : BedAt w w.heap.size p s) :
    Calls Try.prog 40 #[s.val p, .int .i64 c] w fun e w' => e = .returned (.int .i64 (idxE (fun f : Fd => decide (f.car = c)) s.feeds)) ∧ Below w.heap.size w w' := by
  have HCS := Lib.hid (bed_box w s p)
  have HAl := Lib.hid ((Below.refl w.heap.size w).alloc (Nat.le_refl _) (.cells #[.int .i64 s.rack, .slice p.ah s.hooks.length p.ch, .slice p.af s.feeds.length p.cf, .slice p.am s.made.length p.cm] 26))
  unfold BedS.val
  go_enter Try.func40, Try.ntmps40
  go_wp2
  go_loopw [5] (fun s5 wr => ∃ k : Nat, k ≤ s.feeds.length ∧ s5 = .int .i64 k ∧ Hid (∀ j y, j < k → s.feeds[j]? = some y → decide (y.car = c) = false) ∧ Below (w.heap.size + 1) (w.alloc (.cells #[.int .i64 s.rack, .slice p.ah s.hooks.length p.ch, .slice p.af s.feeds.length p.cf, .slice p.am s.made.length p.cm] 26)) wr) (fun s5 _ => s.feeds.length - (intOf s5).toNat)
  case atStart => exact ⟨0, Nat.zero_le _, rfl, (fun j _ hj => absurd hj (Nat.not_lt_zero j)), Below.refl _ _⟩
  case round =>
    obtain ⟨k, hk, rfl, H, hbw⟩ := hrel
    have hbww : Below w.heap.size w wr := HAl.out.trans (hbw.mono (by omega))
    obtain ⟨c0, c1, c2, c3⟩ := HCS.out wr hbw
    by_cases hlt : k < s.feeds.length
    · obtain ⟨b, off, f, hA, hB, hr, q0, q1, q2⟩ := hs.feeds.at_ hlt
      have d0 := (bcell hbww hB _).trans q0
      rw [hA] at c2
      have HR := Lib.hid hr
      clear hs hr q0 q1 q2 hA
      by_cases he : f.car = c
      · have HF : Hid (idxE (fun f : Fd => decide (f.car = c)) s.feeds = k) := idxE_hit HR.out (decide_eq_true he) H.out
        have e1 : (f.car == c) = true := by simp [he]
        clear H he
        go_wp2
        go_ret
        exact ⟨ret_int HF.out.symm, hbww⟩
      · have HQ : Hid (∀ j y, j < k + 1 → s.feeds[j]? = some y → decide (y.car = c) = false) := fun j y hj hy => by
          by_cases e : j = k
          · subst e; rw [HR.out] at hy; injection hy with hy; subst hy; exact decide_eq_false he
          · exact H.out j y (by omega) hy
        have e1 : (f.car == c) = false := by simp [he]
        clear H he
        go_wp2
        go_roundw
        case rel => exact ⟨k + 1, by omega, by go_num, HQ, hbw⟩
        case measure => simp [intOf]; omega
    · have HF : Hid (idxE (fun f : Fd => decide (f.car = c)) s.feeds = -1) := idxE_none (fun j y hj => H.out j y (by omega))
      clear H hs
      go_wp2
      go_ret
      exact ⟨ret_int HF.out.symm, hbww⟩
set_option maxHeartbeats 1000000 in
theorem rhas_any (A : Option Addr) (cap : Nat) (l : List Int) (x : Int) (hn : l.length ≤ 1000000) (w : World) (hs : SlI w w.heap.size A l) :
    Calls Try.prog 33 #[.slice A l.length cap, .int .i64 x] w fun e w' => e = .returned (.bool (l.any fun y => decide (y = x))) ∧ w = w' := by
  go_enter Try.func33, Try.ntmps33
  go_wp2
  go_loopw [5] (fun s5 wr => ∃ k : Nat, k ≤ l.length ∧ s5 = .int .i64 k ∧ Hid (∀ y ∈ l.take k, decide (y = x) = false) ∧ w = wr) (fun s5 _ => l.length - (intOf s5).toNat)
  case atStart => exact ⟨0, Nat.zero_le _, rfl, (fun r hr => by simp at hr), rfl⟩
  case round =>
    obtain ⟨k, hk, rfl, H, rfl⟩ := hrel
    by_cases hlt : k < l.length
    · obtain ⟨b, off, y, rfl, hB, hr, hc⟩ := hs.at_ hlt
      have HR := Lib.hid hr
      clear hs hr
      by_cases he : y = x
      · have HF : Hid ((l.any fun y => decide (y = x)) = true) := List.any_eq_true.2 ⟨y, List.mem_of_getElem? HR.out, decide_eq_true he⟩
        have e1 : (y == x) = true := by simp [he]
        clear H he
        go_wp2
        go_ret
        exact ⟨ret_bool HF.out.symm, rfl⟩
      · have HQ : Hid (∀ z ∈ l.take (k + 1), decide (z = x) = false) := fun z hz => by
          obtain ⟨hk', e⟩ := List.getElem?_eq_some_iff.1 HR.out
          rw [List.take_succ_eq_append_getElem hk', e] at hz
          rcases List.mem_append.1 hz with h | h
          · exact H.out z h
          · rw [List.mem_singleton.1 h]; exact decide_eq_false he
        have e1 : (y == x) = false := by simp [he]
        clear H he
        go_wp2
        go_roundw
        case rel => exact ⟨k + 1, by omega, by go_num, HQ, by first | rfl | trivial⟩
        case measure => simp [intOf]; omega
    · have HF : Hid ((l.any fun y => decide (y = x)) = false) := by
        unfold Hid
        rw [List.any_eq_false]
        intro z hz
        have := H.out z (by rw [List.take_of_length_le (by omega)]; exact hz)
        simp [this]
      clear H hs
      go_wp2
      go_ret
      exact ⟨ret_bool HF.out.symm, rfl⟩
end Go.Proofs.Ytjoglkamhjcmhaa
