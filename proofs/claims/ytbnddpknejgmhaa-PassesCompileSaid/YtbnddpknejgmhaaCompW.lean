/- Layer 31: the law PassesCompile walked. -/
import Derived.Test.YtbnddpknejgmhaaRc4
import Derived.Test.YtbnddpknejgmhaaIns
namespace Go.Proofs.Ytbnddpknejgmhaa
open Go.RowKit Go.Shelf
set_option maxRecDepth 100000

set_option maxHeartbeats 1000000 in
theorem sameIns_any (A A' : Option Addr) (c c' : Nat) (l : List Ins) (w : World) (h : SlX w w.heap.size A l) (h' : SlX w w.heap.size A' l) (hn : l.length ≤ 4611686018427387904) :
    Calls Try.prog 20 #[.slice A l.length c, .slice A' l.length c'] w fun e w' => e = .returned (.bool true) ∧ Below w.heap.size w w' := by
  have hne : (((l.length : Nat) : Int) == ((l.length : Nat) : Int)) = true := by simp
  go_enter Try.func20, Try.ntmps20
  go_wp2
  go_loopw [5] (fun i wr => ∃ k : Nat, k ≤ l.length ∧ i = .int .i64 k ∧ Below w.heap.size w wr) (fun i _ => l.length - (intOf i).toNat)
  case atStart => exact ⟨0, Nat.zero_le _, rfl, Below.refl _ _⟩
  case round =>
    obtain ⟨k, hk, rfl, hbw⟩ := hrel
    by_cases hlt : k < l.length
    · obtain ⟨b, off, x, rfl, hB, hz, hc⟩ := h.at_ hlt
      obtain ⟨b', off', x', rfl, hB', hz', hc'⟩ := h'.at_ hlt
      rw [hz] at hz'
      obtain rfl : x = x' := by simpa using hz'
      obtain ⟨c0, c1, c2, c3, c4, c5, c6⟩ := hc.below hbw hB
      obtain ⟨d0, d1, d2, d3, d4, d5, d6⟩ := hc'.below hbw hB'
      have hneq : ∀ W : World, (binOp .neq 50 (.agg #[.int .u8 x.op, .bool x.right, .int .u8 x.bed, .int .i64 x.at_, .int .i64 x.to_, .int .i64 x.car, .int .i64 x.rack]) (.agg #[.int .u8 x.op, .bool x.right, .int .u8 x.bed, .int .i64 x.at_, .int .i64 x.to_, .int .i64 x.car, .int .i64 x.rack])).run Try.prog W = .ok (.bool false) W := fun W => by
        rw [run_neq_ins]; unfold insNe' insNe; simp
      clear hc hc' h h' hz hz'
      go_wp2
      go_quiet (fail)
      go_wp2
      go_roundw
      case rel => exact ⟨k + 1, by omega, by go_num, below_drewN hbw _⟩
      case measure => simp [intOf]; omega
    · clear h h'
      go_wp2
      go_ret
      exact ⟨rfl, hbw⟩

theorem compO_len {start : Int} {p : List RowC} : (compO start p).length ≤ 2000 := by
  unfold compO
  by_cases h : compE start p = 0
  · rw [if_pos h]
    unfold compE at h
    by_cases h1 : chartE start p = 0
    · rw [if_neg (by simpa using h1)] at h
      cases h2 : plainB start p with
      | false => rw [if_pos h2] at h; cases h
      | true =>
        rw [if_neg (by rw [h2]; simp)] at h
        by_cases h3 : 2000 < (compL start p).length
        · rw [if_pos h3] at h; cases h
        · omega
    · rw [if_pos h1] at h; exact absurd h h1
  · rw [if_neg h]; exact Nat.zero_le _
set_option maxHeartbeats 4000000 in
theorem comp_walk (start : Int) (A : Option Addr) (c : Nat) (p : List RowC) (hw : RowsWf p) (hT : (∀ r ∈ p, r.1 = false) ∨ TurnC) (w : World) (hs : SlC w w.heap.size A p) :
    Calls Try.prog 4 #[.agg #[.int .i64 start, .slice A p.length c]] w fun e w' => e = .returned (.bool true) ∧ Below w.heap.size w w' := by
  have hal0 : Below w.heap.size w (w.alloc (.cells #[.int .i64 start, .slice A p.length c] 40)) := (Below.refl _ w).alloc (Nat.le_refl _) _
  have hcs0 : ∀ w1 : World, Below (w.heap.size + 1) (w.alloc (.cells #[.int .i64 start, .slice A p.length c] 40)) w1 → w1.cell? ⟨w.heap.size, 0, none⟩ = some (.int .i64 start) ∧ w1.cell? ⟨w.heap.size, 1, none⟩ = some (.slice A p.length c) := fun w1 hb =>
    ⟨(bcell hb (by omega) _).trans (cell_new rfl rfl rfl), (bcell hb (by omega) _).trans (cell_new rfl rfl rfl)⟩
  have HCS := Lib.hid hcs0
  have HG := Lib.hid (fun (w1 : World) (hb : Below w.heap.size w w1) => rgreat_any start A c p w1 ((hs.below hb).more hb.size))
  have HR := Lib.hid (fun (w1 : World) (hb : Below w.heap.size w w1) => rcompile_any start A c p w1 ((hs.below hb).more hb.size))
  have HCm := Lib.hid (fun (w1 : World) (hb : Below w.heap.size w w1) => compile_any start A c p hw hT w1 ((hs.below hb).more hb.size))
  have HB0 := Lib.hid hal0
  have HLn := Lib.hid (compO_len (start := start) (p := p))
  clear hs hw hT hal0 hcs0
  cases hg : greatC p with
  | true =>
    rw [hg] at HG
    clear hg
    go_enter Try.func4, Try.ntmps4
    go_wp2_with (go_at_call 17; refine (HG.out _ HB0.out).mono ?_; rintro e w2 ⟨rfl, hb2⟩)
    go_ret
    exact ⟨rfl, HB0.out.trans (hb2.mono HB0.out.size)⟩
  | false =>
    rw [hg] at HG
    clear hg
    go_enter Try.func4, Try.ntmps4
    go_upto_region 3 with (go_at_call 17; refine (HG.out _ HB0.out).mono ?_; rintro e w1 ⟨rfl, hb1⟩; obtain ⟨c0, c1⟩ := HCS.out w1 (hb1.mono (by simp)); have hbw1 := HB0.out.trans (hb1.mono (by simp)))
    have hz1 := hb1.size
    rw [World.size_alloc] at hz1
    clear hb1
    go_wp2_with fail
    refine (HCm.out _ hbw1).mono ?_
    rintro e w2 ⟨A2, c2, rfl, hsx2, hlc2, hb2⟩
    have hbw2 := hbw1.trans (hb2.mono hbw1.size)
    have d0 := (bcell hb2 (by omega) _).trans c0
    have d1 := (bcell hb2 (by omega) _).trans c1
    have hz2 := hb2.size
    have HX2 := Lib.hid hsx2
    clear c0 c1 hb2 hbw1 hsx2
    go_wp2_with fail
    refine (HR.out _ hbw2).mono ?_
    rintro e w3 ⟨A3, c3, rfl, hsx3, hlc3, hb3⟩
    have hbw3 := hbw2.trans (hb3.mono hbw2.size)
    have HSm := Lib.hid (sameIns_any A2 A3 c2 c3 (compO start p) w3 ((HX2.out.below hb3).more hb3.size) hsx3 (by have := HLn.out; omega))
    have HB3 := Lib.hid hbw3
    clear d0 d1 hb3 hbw2 hbw3 hsx3 HX2 hlc2 hlc3 HLn
    have e3 : (compE start p == compE start p) = true := beq_self_eq_true _
    generalize (compO start p).length = Ln at HSm ⊢
    generalize compE start p = x at e3 ⊢
    go_wp2_with (go_at_call 20; refine HSm.out.mono ?_; rintro e w4 ⟨rfl, hb4⟩)
    go_ret
    exact ⟨ret_bool (by simp [*]), HB3.out.trans (hb4.mono HB3.out.size)⟩
end Go.Proofs.Ytbnddpknejgmhaa
