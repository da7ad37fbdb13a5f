/- The reference's Same, at two copies of one state. -/
import Derived.Test.YtjoglkamhjcmhaaKDoB
import Derived.Test.YtjoglkamhjcmhaaKPq
namespace Go.Proofs.Ytjoglkamhjcmhaa
open Go.RowKit Go.Shelf Go.Sort
set_option maxRecDepth 100000

set_option maxHeartbeats 1000000 in
theorem sameQ_any (A A' : Option Addr) (c c' : Nat) (l : List Int) (w : World) (h : SlI w w.heap.size A l) (h' : SlI w w.heap.size A' l) (hn : l.length ≤ 4611686018427387904) :
    Calls Try.prog 17 #[.slice A l.length c, .slice A' l.length c'] w fun e w' => e = .returned (.bool true) ∧ ∃ m, w' = w.drewN m := by
  have hne : (((l.length : Nat) : Int) == ((l.length : Nat) : Int)) = true := by simp
  go_enter Try.func17, Try.ntmps17
  go_wp2
  go_loopw [5] (fun i wr => ∃ k : Nat, k ≤ l.length ∧ i = .int .i64 k ∧ Hid (∃ m, wr = w.drewN m)) (fun i _ => l.length - (intOf i).toNat)
  case atStart => exact ⟨0, Nat.zero_le _, rfl, 0, rfl⟩
  case round =>
    obtain ⟨k, hk, rfl, HM⟩ := hrel
    have hbw : Below w.heap.size w wr := by obtain ⟨m, rfl⟩ := HM.out; exact below_drewN (Below.refl _ _) m
    by_cases hlt : k < l.length
    · obtain ⟨b, off, z, rfl, hB, hz, hc⟩ := h.at_ hlt
      obtain ⟨b', off', z', rfl, hB', hz', hc'⟩ := h'.at_ hlt
      rw [hz] at hz'
      obtain rfl : z = z' := by simpa using hz'
      have h1 := (bcell hbw hB _).trans hc
      have h2 := (bcell hbw hB' _).trans hc'
      clear hc hc' h h' hz hz' hbw
      go_wp2
      go_quiet (fail)
      go_wp2
      go_roundw
      case rel => exact ⟨k + 1, by omega, by go_num, by obtain ⟨m, hm⟩ := HM.out; exact ⟨_, by rw [hm, World.drewN_drewN]⟩⟩
      case measure => simp [intOf]; omega
    · clear h h' hbw
      go_wp2
      go_ret
      exact ⟨rfl, HM.out⟩
theorem neq_fd (W : World) (c : Int) (fr : Bool) (p : Int) : (binOp .neq 35 (.agg #[.int .i64 c, .bool fr, .int .i64 p]) (.agg #[.int .i64 c, .bool fr, .int .i64 p])).run Try.prog W = .ok (.bool false) W := by
  rw [run_neq_struct, show (10000 : Nat) = 9999 + 1 from rfl]
  simp [go_sem]
abbrev twoW (w : World) (s : BedS) (p p' : BedP) : World := (w.alloc (bedBox s p)).alloc (bedBox s p')
theorem two_facts (w : World) (s : BedS) (p p' : BedP) (W : World) (hb : Below (w.heap.size + 2) (twoW w s p p') W) : BdIn W w.heap.size s p ∧ BdIn W (w.heap.size + 1) s p' ∧ Below w.heap.size w W := by
  have h1 : Below (w.heap.size + 1) (w.alloc (bedBox s p)) (twoW w s p p') := (Below.refl _ _).alloc (by simp) _
  have e1 : (w.alloc (bedBox s p)).heap.size = w.heap.size + 1 := by simp
  refine ⟨(BdIn.new w s p).below (h1.trans (hb.mono (by omega))) (by omega), ?_, (((Below.refl _ w).alloc (Nat.le_refl _) _).alloc (by simp) _).trans (hb.mono (by omega))⟩
  have := BdIn.new (w.alloc (bedBox s p)) s p'
  rw [e1] at this
  exact this.below hb (by omega)
set_option maxHeartbeats 16000000 in
theorem rsame_any (s : BedS) (p p' : BedP) (hn : s.hooks.length ≤ 9000 ∧ s.feeds.length ≤ 9000 ∧ s.made.length ≤ 9000) (hll : (∀ h ∈ s.hooks, h.loops.length ≤ 6) ∧ ∀ m ∈ s.made, m.parents.length ≤ 6) (w : World) (hs : BedAt w w.heap.size p s) (hs' : BedAt w w.heap.size p' s) :
    Calls Try.prog 24 #[s.val p, s.val p'] w fun e w' => e = .returned (.bool true) ∧ Below w.heap.size w w' := by
  have HFa := Lib.hid (two_facts w s p p')
  have HN := Lib.hid hn
  have HL := Lib.hid hll
  have HS := Lib.hid (show _ ∧ _ from ⟨hs, hs'⟩)
  obtain ⟨hn1, hn2, hn3⟩ := hn
  have t0 : (s.rack != s.rack) = false := by simp
  have t1 : ((s.hooks.length : Int) != (s.hooks.length : Int)) = false := by simp
  have t2 : ((s.feeds.length : Int) != (s.feeds.length : Int)) = false := by simp
  have t3 : ((s.made.length : Int) != (s.made.length : Int)) = false := by simp
  unfold BedS.val
  clear hs hs' hll
  go_enter Try.func24, Try.ntmps24
  go_wp2
  clear t0 t1 t2 t3
  go_loopw [5] (fun s5 wr => ∃ k : Nat, k ≤ s.hooks.length ∧ s5 = .int .i64 k ∧ Hid (Below (w.heap.size + 2) (twoW w s p p') wr)) (fun s5 _ => s.hooks.length - (intOf s5).toNat)
  case atStart => exact ⟨0, Nat.zero_le _, rfl, Below.refl _ _⟩
  case round =>
    obtain ⟨k, hk, rfl, HB⟩ := hrel
    obtain ⟨⟨c0, c1, c2, c3⟩, ⟨d0, d1, d2, d3⟩, hbw⟩ := HFa.out wr HB.out
    by_cases hlt : k < s.hooks.length
    · obtain ⟨b, off, h, A, C, hA, hB, hz, q0, q1, q2, hC, hsi⟩ := HS.out.1.hooks.at_ hlt
      obtain ⟨b', off', h', A', C', hA', hB', hz', r0, r1, r2, hC', hsi'⟩ := HS.out.2.hooks.at_ hlt
      rw [hz] at hz'
      obtain rfl : h = h' := by simpa using hz'
      have e0 := (bcell hbw hB _).trans q0
      have e1 := (bcell hbw hB _).trans q1
      have e2 := (bcell hbw hB _).trans q2
      have f0 := (bcell hbw hB' _).trans r0
      have f1 := (bcell hbw hB' _).trans r1
      have f2 := (bcell hbw hB' _).trans r2
      have HC := Lib.hid (fun n => sameQ_any A A' C C' h.loops (wr.drewN n) ((hsi.below (below_drewN hbw n)).more (below_drewN hbw n).size) ((hsi'.below (below_drewN hbw n)).more (below_drewN hbw n).size) (by have := HL.out.1 h (List.mem_of_getElem? hz); omega))
      have t0 : (h.bed != h.bed) = false := by simp
      have t1 : (h.at_ != h.at_) = false := by simp
      rw [hA] at c1
      rw [hA'] at d1
      clear q0 q1 q2 r0 r1 r2 hsi hsi' hz hz' hA hA' hC hC' hbw hB hB'
      go_wp2
      go_quiet ((go_at_call 17; exact Calls.quiet_of (HC.out _)))
      go_wp2
      go_roundw
      case rel => exact ⟨k + 1, by omega, by go_num, below_drewN HB.out _⟩
      case measure => simp [intOf]; omega
    · clear c0 d0 hbw
      go_wp2
      obtain ⟨wo, rfl⟩ : ∃ wo : World, wo = wr := ⟨_, rfl⟩
      go_loopw [6] (fun s6 wr => ∃ k : Nat, k ≤ s.feeds.length ∧ s6 = .int .i64 k ∧ Hid (Below (w.heap.size + 2) (twoW w s p p') wr)) (fun s6 _ => s.feeds.length - (intOf s6).toNat)
      case atStart => exact ⟨0, Nat.zero_le _, rfl, HB.out⟩
      case round =>
        clear c1 c2 c3 d1 d2 d3 hk hlt HB
        obtain ⟨k2, hk, rfl, HB⟩ := hrel
        obtain ⟨⟨c0, c1, c2, c3⟩, ⟨d0, d1, d2, d3⟩, hbw⟩ := HFa.out wr HB.out
        by_cases hlt : k2 < s.feeds.length
        · obtain ⟨b, off, f, hA, hB, hz, q0, q1, q2⟩ := HS.out.1.feeds.at_ hlt
          obtain ⟨b', off', f', hA', hB', hz', r0, r1, r2⟩ := HS.out.2.feeds.at_ hlt
          rw [hz] at hz'
          obtain rfl : f = f' := by simpa using hz'
          have e0 := (bcell hbw hB _).trans q0
          have e1 := (bcell hbw hB _).trans q1
          have e2 := (bcell hbw hB _).trans q2
          have f0 := (bcell hbw hB' _).trans r0
          have f1 := (bcell hbw hB' _).trans r1
          have f2 := (bcell hbw hB' _).trans r2
          have hef := fun W => neq_fd W f.car f.fresh f.place
          rw [hA] at c2
          rw [hA'] at d2
          clear q0 q1 q2 r0 r1 r2 hz hz' hA hA' hbw hB hB'
          go_wp2
          go_quiet (fail)
          go_wp2
          go_roundw
          case rel => exact ⟨k2 + 1, by omega, by go_num, below_drewN HB.out _⟩
          case measure => simp [intOf]; omega
        · clear c0 d0 hbw
          go_wp2
          obtain ⟨wo2, rfl⟩ : ∃ wo2 : World, wo2 = wr := ⟨_, rfl⟩
          go_loopw [7] (fun s7 wr => ∃ k : Nat, k ≤ s.made.length ∧ s7 = .int .i64 k ∧ Hid (Below (w.heap.size + 2) (twoW w s p p') wr)) (fun s7 _ => s.made.length - (intOf s7).toNat)
          case atStart => exact ⟨0, Nat.zero_le _, rfl, HB.out⟩
          case round =>
            clear c1 c2 c3 d1 d2 d3 hk hlt HB
            obtain ⟨k3, hk, rfl, HB⟩ := hrel
            obtain ⟨⟨c0, c1, c2, c3⟩, ⟨d0, d1, d2, d3⟩, hbw⟩ := HFa.out wr HB.out
            by_cases hlt : k3 < s.made.length
            · obtain ⟨b, off, m, A, C, hA, hB, hz, q0, q1, q2, q3, hC, hsi⟩ := HS.out.1.made.at_ hlt
              obtain ⟨b', off', m', A', C', hA', hB', hz', r0, r1, r2, r3, hC', hsi'⟩ := HS.out.2.made.at_ hlt
              rw [hz] at hz'
              obtain rfl : m = m' := by simpa using hz'
              have e0 := (bcell hbw hB _).trans q0
              have e1 := (bcell hbw hB _).trans q1
              have e2 := (bcell hbw hB _).trans q2
              have e3 := (bcell hbw hB _).trans q3
              have f0 := (bcell hbw hB' _).trans r0
              have f1 := (bcell hbw hB' _).trans r1
              have f2 := (bcell hbw hB' _).trans r2
              have f3 := (bcell hbw hB' _).trans r3
              have HC : Hid (∀ W, Below (w.heap.size + 2) (twoW w s p p') W → Calls Try.prog 17 #[.slice A m.parents.length C, .slice A' m.parents.length C'] W fun e w' => e = .returned (.bool true) ∧ Below (w.heap.size + 2) (twoW w s p p') w') := fun W hb => by
                have hb0 := (HFa.out W hb).2.2
                refine (sameQ_any A A' C C' m.parents W ((hsi.below hb0).more hb0.size) ((hsi'.below hb0).more hb0.size) (by have := HL.out.2 m (List.mem_of_getElem? hz); omega)).mono ?_
                rintro e w' ⟨he, n, rfl⟩
                exact ⟨he, below_drewN hb n⟩
              have t0 : (m.bed != m.bed) = false := by simp
              have t1 : (m.at_ != m.at_) = false := by simp
              have t2 : (m.car != m.car) = false := by simp
              rw [hA] at c3
              rw [hA'] at d3
              clear q0 q1 q2 q3 r0 r1 r2 r3 hsi hsi' hz hz' hA hA' hC hC' hbw hB hB'
              have l1 := lt_of_cell c3
              have l2 := lt_of_cell d3
              have l3 := lt_of_cell e0
              have l4 := lt_of_cell f0
              go_upto_region 16 with fail
              go_region
              all_goals
                clear c0 c1 c2 c3 d0 d1 d2 d3 e0 e1 e2 e3 f0 f1 f2 f3
                have HZ := Lib.hid (HB.out.size)
                go_wp2_with fail
                have hwz : w.heap.size + 2 ≤ wr.heap.size := by have := HZ.out; simp at this; omega
                refine (HC.out _ (by first | exact (HB.out.alloc hwz _).alloc (by simp; omega) _ | exact ((HB.out.alloc hwz _).alloc (by simp; omega) _).drew)).mono ?_
                rintro e w4 ⟨rfl, hb4⟩
                have HB2 := Lib.hid hb4
                clear hb4
                go_wp2
                go_roundw
                case rel => exact ⟨k3 + 1, by omega, by go_num, HB2.out⟩
                case measure => simp [intOf]; omega
            · clear c0 d0 hbw
              go_wp2
              go_ret
              exact ⟨rfl, ((((Below.refl _ w).alloc (Nat.le_refl _) _).alloc (by simp) _).trans (HB.out.mono (by omega)))⟩
end Go.Proofs.Ytjoglkamhjcmhaa
