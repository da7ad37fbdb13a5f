/- BedAsks, walked: On and Feed return what the reference returns. -/
import Derived.Test.YtjoglkamhjcmhaaRfe
namespace Go.Proofs.Ytjoglkamhjcmhaa
open Go.RowKit Go.Shelf
set_option maxRecDepth 100000

theorem sameInts_any (A A' : Option Addr) (c c' : Nat) (l : List Int) (w : World) (h : SlI w w.heap.size A l) (h' : SlI w w.heap.size A' l) (hn : l.length ≤ 4611686018427387904) :
    Calls Try.prog 17 #[.slice A l.length c, .slice A' l.length c'] w fun e w' => e = .returned (.bool true) ∧ Below w.heap.size w w' := by
  have hne : (((l.length : Nat) : Int) == ((l.length : Nat) : Int)) = true := by simp
  go_enter Try.func17, Try.ntmps17
  go_wp2
  go_loopw [5] (fun i wr => ∃ k : Nat, k ≤ l.length ∧ i = .int .i64 k ∧ Below w.heap.size w wr) (fun i _ => l.length - (intOf i).toNat)
  case atStart => exact ⟨0, Nat.zero_le _, rfl, Below.refl _ _⟩
  case round =>
    obtain ⟨k, hk, rfl, hbw⟩ := hrel
    by_cases hlt : k < l.length
    · obtain ⟨b, off, z, rfl, hB, hz, hc⟩ := h.at_ hlt
      obtain ⟨b', off', z', rfl, hB', hz', hc'⟩ := h'.at_ hlt
      rw [hz] at hz'
      obtain rfl : z = z' := by simpa using hz'
      have h1 := (bcell hbw hB _).trans hc
      have h2 := (bcell hbw hB' _).trans hc'
      clear hc hc' h h' hz hz'
      go_wp2
      go_quiet (fail)
      go_wp2
      go_roundw
      case rel => exact ⟨k + 1, by omega, by go_num, below_drewN hbw _⟩
      case measure => simp [intOf]; omega
    · clear h h'
      go_wp2
      go_ret
      exact ⟨rfl, hbw⟩
theorem eql_fd (W : World) (c : Int) (fr : Bool) (p : Int) : (binOp .eql 35 (.agg #[.int .i64 c, .bool fr, .int .i64 p]) (.agg #[.int .i64 c, .bool fr, .int .i64 p])).run Try.prog W = .ok (.bool true) W := by
  rw [run_eql_struct, show (10000 : Nat) = 9999 + 1 from rfl]
  simp [go_sem]
theorem great_len {s : BedS} (h : greatB s = false) : s.hooks.length ≤ 9000 ∧ s.feeds.length ≤ 9000 ∧ s.made.length ≤ 9000 := by
  unfold greatB at h
  simp only [Bool.or_eq_false_iff, decide_eq_false_iff_not] at h
  omega
theorem onR_len {s : BedS} (b n : Int) : (onR s b n).1.length ≤ 4611686018427387904 := by
  unfold onR
  split
  · simp
  · split
    · simp
    · rename_i he _
      have he' : bedE s = 0 := by simpa using he
      unfold heldAt
      split
      · rename_i h hf
        have := (bed_loops he' h (List.mem_of_find?_eq_some hf)).2
        show h.loops.length ≤ _
        omega
      · simp
set_option maxHeartbeats 4000000 in
theorem bedAsks_walk (s : BedS) (p : BedP) (hwf : s.wf) (b n c : Int) (hb : 0 ≤ b) (w : World) (hs : BedAt w w.heap.size p s) :
    Calls Try.prog 3 #[s.val p, .int .u8 b, .int .i64 n, .int .i64 c] w fun e w' => e = .returned (.bool true) ∧ Below w.heap.size w w' := by
  have HG := Lib.hid (fun w => rgreat_bed s p w)
  have HAl := Lib.hid ((Below.refl w.heap.size w).alloc (Nat.le_refl _) (.cells #[.int .i64 s.rack, .slice p.ah s.hooks.length p.ch, .slice p.af s.feeds.length p.cf, .slice p.am s.made.length p.cm] 26))
  have HCS := Lib.hid (bed_box w s p)
  cases hg : greatB s with
  | true =>
    rw [hg] at HG
    unfold BedS.val at HG ⊢
    clear hs hg
    go_enter Try.func3, Try.ntmps3
    go_upto_region 1 with fail
    obtain ⟨c0, c1, c2, c3⟩ := HCS.out _ (Below.refl _ _)
    go_wp2_with fail
    refine (HG.out _).mono ?_
    rintro e w1 ⟨rfl, hb1⟩
    have HB1 := Lib.hid (HAl.out.trans (hb1.mono (by simp)))
    clear hb1
    go_wp2
    go_ret
    exact ⟨rfl, HB1.out⟩
  | false =>
    rw [hg] at HG
    have hn := great_len hg
    have HO := Lib.hid (fun (w1 : World) (hb1 : Below w.heap.size w w1) => on_any s p hwf hn b n hb w1 ((hs.below hb1).more hb1.size))
    have HRO := Lib.hid (fun (w1 : World) (hb1 : Below w.heap.size w w1) => ron_any s p hwf hn b n hb w1 ((hs.below hb1).more hb1.size))
    have HFe := Lib.hid (fun (w1 : World) (hb1 : Below w.heap.size w w1) => feed_any s p hwf ⟨by omega, by omega, by omega⟩ c w1 ((hs.below hb1).more hb1.size))
    have HRF := Lib.hid (fun (w1 : World) (hb1 : Below w.heap.size w w1) => rfeedq_any s p hwf hn c w1 ((hs.below hb1).more hb1.size))
    have HL := Lib.hid (onR_len (s := s) b n)
    unfold BedS.val at HG HO HRO HFe HRF ⊢
    unfold onOut at HO HRO
    unfold feedOut at HFe HRF
    generalize onR s b n = r at HO HRO HL
    generalize feedR s c = r2 at HFe HRF
    obtain ⟨l, x⟩ := r
    obtain ⟨f, q, y⟩ := r2
    obtain ⟨fc, ff, fp⟩ := f
    simp only [Fd.val] at HFe HRF
    have hxx : (x == x) = true := by simp
    have hyy : (y == y) = true := by simp
    have hqq : (q == q) = true := by simp
    have hef := fun W => eql_fd W fc ff fp
    clear hs hg hn hwf
    go_enter Try.func3, Try.ntmps3
    go_upto_region 1 with fail
    obtain ⟨c0, c1, c2, c3⟩ := HCS.out _ (Below.refl _ _)
    go_wp2_with fail
    refine (HG.out _).mono ?_
    rintro e w1 ⟨rfl, hb1⟩
    have HB1 := Lib.hid (HAl.out.trans (hb1.mono (by simp)))
    have HC1 := Lib.hid (hb1.mono (by simp) : Below (w.heap.size + 1) _ w1)
    obtain ⟨c0, c1, c2, c3⟩ := HCS.out w1 HC1.out
    clear hb1
    go_wp2_with fail
    refine (HO.out _ HB1.out).mono ?_
    rintro e w2 ⟨A1, k1, rfl, hs2, hb2⟩
    have HS2 := Lib.hid hs2
    have HB2 := Lib.hid (HB1.out.trans (hb2.mono HB1.out.size))
    have HC2 := Lib.hid (HC1.out.trans (hb2.mono (by have := HC1.out.size; simp at this; exact this)))
    obtain ⟨c0, c1, c2, c3⟩ := HCS.out w2 HC2.out
    clear hb2 hs2
    go_wp2_with fail
    refine (HRO.out _ HB2.out).mono ?_
    rintro e w3 ⟨A2, k2, rfl, hs3, hb3⟩
    have HS3 := Lib.hid hs3
    have HS2' := Lib.hid ((HS2.out.below hb3).more hb3.size)
    have HB3 := Lib.hid (HB2.out.trans (hb3.mono HB2.out.size))
    have HC3 := Lib.hid (HC2.out.trans (hb3.mono (by have := HC2.out.size; simp at this; exact this)))
    obtain ⟨c0, c1, c2, c3⟩ := HCS.out w3 HC3.out
    clear hb3 hs3 HS2
    go_wp2_with fail
    refine (HFe.out _ HB3.out).mono ?_
    rintro e w4 ⟨rfl, hb4⟩
    have HB4 := Lib.hid (HB3.out.trans (hb4.mono HB3.out.size))
    have HC4 := Lib.hid (HC3.out.trans (hb4.mono (by have := HC3.out.size; simp at this; exact this)))
    have HS4 := Lib.hid (show _ ∧ _ from ⟨(HS2'.out.below hb4).more hb4.size, (HS3.out.below hb4).more hb4.size⟩)
    obtain ⟨c0, c1, c2, c3⟩ := HCS.out w4 HC4.out
    clear hb4 HS2' HS3
    have hbl : w.heap.size < w4.heap.size := lt_of_cell c0
    have al : ∀ (W : World) (o : Obj), Below W.heap.size W (W.alloc o) := fun W o => (Below.refl _ W).alloc (Nat.le_refl _) o
    have HAL := Lib.hid al
    clear al
    go_wp2_with fail
    refine (HRF.out _ (HB4.out.alloc HB4.out.size _)).mono ?_
    rintro e w5 ⟨rfl, hb5⟩
    have y0 : w5.cell? ⟨w4.heap.size, 0, none⟩ = some (.int .i64 fc) := (bcell hb5 (by simp) _).trans (cell_new rfl rfl rfl)
    have y1 : w5.cell? ⟨w4.heap.size, 1, none⟩ = some (.bool ff) := (bcell hb5 (by simp) _).trans (cell_new rfl rfl rfl)
    have y2 : w5.cell? ⟨w4.heap.size, 2, none⟩ = some (.int .i64 fp) := (bcell hb5 (by simp) _).trans (cell_new rfl rfl rfl)
    have hb45 : Below w4.heap.size w4 w5 := (HAL.out w4 _).trans (hb5.mono (by simp))
    have HB5 := Lib.hid (HB4.out.trans (hb45.mono HB4.out.size))
    have HS5 := Lib.hid (show _ ∧ _ from ⟨(HS4.out.1.below hb45).more hb45.size, (HS4.out.2.below hb45).more hb45.size⟩)
    have HY := Lib.hid (show _ ∧ _ ∧ _ from ⟨y0, y1, y2⟩)
    have hl4 := lt_of_cell y0
    clear hb5 hb45 HS4 c0 c1 c2 c3
    go_wp2_with fail
    have hal5 := HAL.out w5 (.cells #[.int .i64 fc, .bool ff, .int .i64 fp] 35)
    refine (sameInts_any A1 A2 k1 k2 l _ ((HS5.out.1.below hal5).more hal5.size) ((HS5.out.2.below hal5).more hal5.size) HL.out).mono ?_
    rintro e w6 ⟨rfl, hb6⟩
    have z0 : w6.cell? ⟨w5.heap.size, 0, none⟩ = some (.int .i64 fc) := (bcell hb6 (by simp) _).trans (cell_new rfl rfl rfl)
    have z1 : w6.cell? ⟨w5.heap.size, 1, none⟩ = some (.bool ff) := (bcell hb6 (by simp) _).trans (cell_new rfl rfl rfl)
    have z2 : w6.cell? ⟨w5.heap.size, 2, none⟩ = some (.int .i64 fp) := (bcell hb6 (by simp) _).trans (cell_new rfl rfl rfl)
    have hb56 : Below w5.heap.size w5 w6 := hal5.trans (hb6.mono (by simp))
    have u0 : w6.cell? ⟨w4.heap.size, 0, none⟩ = some (.int .i64 fc) := (bcell hb56 hl4 _).trans HY.out.1
    have u1 : w6.cell? ⟨w4.heap.size, 1, none⟩ = some (.bool ff) := (bcell hb56 hl4 _).trans HY.out.2.1
    have u2 : w6.cell? ⟨w4.heap.size, 2, none⟩ = some (.int .i64 fp) := (bcell hb56 hl4 _).trans HY.out.2.2
    have HB6 := Lib.hid (HB5.out.trans (hb56.mono HB5.out.size))
    clear hb6 hb56 hal5 y0 y1 y2 HY HS5
    go_wp2
    go_ret
    exact ⟨rfl, HB6.out⟩
end Go.Proofs.Ytjoglkamhjcmhaa
