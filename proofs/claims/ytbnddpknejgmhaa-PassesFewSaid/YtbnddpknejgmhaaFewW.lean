/- Layer 31: the law PassesFew walked. -/
import Derived.Test.YtbnddpknejgmhaaFewP
import Derived.Test.YtbnddpknejgmhaaAlive
import Derived.Test.YtbnddpknejgmhaaRc2
namespace Go.Proofs.Ytbnddpknejgmhaa
open Go.RowKit Go.Shelf
set_option maxRecDepth 100000

set_option maxHeartbeats 4000000 in
theorem few_walk (start : Int) (A : Option Addr) (c : Nat) (p : List RowC) (hw : RowsWf p) (hT : (∀ r ∈ p, r.1 = false) ∨ TurnC) (w : World) (hs : SlC w w.heap.size A p) :
    Calls Try.prog 5 #[.agg #[.int .i64 start, .slice A p.length c]] w fun e w' => e = .returned (.bool true) ∧ Below w.heap.size w w' := by
  have hal0 : Below w.heap.size w (w.alloc (.cells #[.int .i64 start, .slice A p.length c] 40)) := (Below.refl _ w).alloc (Nat.le_refl _) _
  have HAl := Lib.hid (alive_any (w.alloc (.cells #[.int .i64 start, .slice A p.length c] 40)))
  have hcs0 : ∀ w1 : World, Below (w.heap.size + 1) (w.alloc (.cells #[.int .i64 start, .slice A p.length c] 40)) w1 → w1.cell? ⟨w.heap.size, 0, none⟩ = some (.int .i64 start) ∧ w1.cell? ⟨w.heap.size, 1, none⟩ = some (.slice A p.length c) := fun w1 hb =>
    ⟨(bcell hb (by omega) _).trans (cell_new rfl rfl rfl), (bcell hb (by omega) _).trans (cell_new rfl rfl rfl)⟩
  have HCS := Lib.hid hcs0
  have HG := Lib.hid (fun (w1 : World) (hb : Below w.heap.size w w1) => rgreat_any start A c p w1 ((hs.below hb).more hb.size))
  have HCk := Lib.hid (fun (w1 : World) (hb : Below w.heap.size w w1) => rcheck_any start A c p w1 ((hs.below hb).more hb.size))
  have HCm := Lib.hid (fun (w1 : World) (hb : Below w.heap.size w w1) => compile_any start A c p hw hT w1 ((hs.below hb).more hb.size))
  have HB0 := Lib.hid hal0
  clear hs hw hT hal0 hcs0
  cases hg : greatC p with
  | true =>
    rw [hg] at HG
    clear hg
    go_enter Try.func5, Try.ntmps5
    go_wp2_with (first
      | (go_at_call 21; refine HAl.out.mono ?_; rintro e w1 ⟨rfl, hb1⟩
         have hbw1 := HB0.out.trans (hb1.mono (by simp))
         obtain ⟨c0, c1⟩ := HCS.out w1 (hb1.mono (by simp)))
      | (go_at_call 17; refine (HG.out _ hbw1).mono ?_; rintro e w2 ⟨rfl, hb2⟩))
    go_ret
    exact ⟨rfl, hbw1.trans (hb2.mono hbw1.size)⟩
  | false =>
    rw [hg] at HG
    by_cases he : chartE start p = 0
    case neg =>
      have e1 : (chartE start p == 0) = false := by simp [he]
      have e2 : (chartE start p != 0) = true := by simp [he]
      generalize chartE start p = x at e1 e2 HCk
      clear he hg
      go_enter Try.func5, Try.ntmps5
      go_wp2_with (first
        | (go_at_call 21; refine HAl.out.mono ?_; rintro e w1 ⟨rfl, hb1⟩
           have hbw1 := HB0.out.trans (hb1.mono (by simp))
           obtain ⟨c0, c1⟩ := HCS.out w1 (hb1.mono (by simp)))
        | (go_at_call 17; refine (HG.out _ hbw1).mono ?_; rintro e w2 ⟨rfl, hb2⟩
           have hbw2 := hbw1.trans (hb2.mono hbw1.size)
           obtain ⟨d0, d1⟩ := HCS.out w2 ((hb1.mono (by simp)).trans (hb2.mono (by have := hb1.size; simp at this; omega))))
        | (go_at_call 22; refine (HCk.out _ hbw2).mono ?_; rintro e w3 ⟨rfl, hb3⟩))
      go_ret
      exact ⟨rfl, hbw2.trans (hb3.mono hbw2.size)⟩
    case pos =>
      rw [he] at HCk
      clear hg he
      go_enter Try.func5, Try.ntmps5
      go_upto_region 4 with (first
        | (go_at_call 21; refine HAl.out.mono ?_; rintro e w1 ⟨rfl, hb1⟩
           have hbw1 := HB0.out.trans (hb1.mono (by simp))
           obtain ⟨c0, c1⟩ := HCS.out w1 (hb1.mono (by simp)))
        | (go_at_call 17; refine (HG.out _ hbw1).mono ?_; rintro e w2 ⟨rfl, hb2⟩
           have hbw2 := hbw1.trans (hb2.mono hbw1.size)
           obtain ⟨d0, d1⟩ := HCS.out w2 ((hb1.mono (by simp)).trans (hb2.mono (by have := hb1.size; simp at this; omega))))
        | (go_at_call 22; refine (HCk.out _ hbw2).mono ?_; rintro e w3 ⟨rfl, hb3⟩
           have hbw3 := hbw2.trans (hb3.mono hbw2.size)
           obtain ⟨f0, f1⟩ := HCS.out w3 (((hb1.mono (by simp)).trans (hb2.mono (by have := hb1.size; simp at this; omega))).trans (hb3.mono (by have h1 := hb1.size; have h2 := hb2.size; simp at h1; omega)))))
      have hn3 := HCS.out w3 (((hb1.mono (by simp)).trans (hb2.mono (by have := hb1.size; simp at this; omega))).trans (hb3.mono (by have h1 := hb1.size; have h2 := hb2.size; simp at h1; omega)))
      have hz1 : w.heap.size + 1 ≤ w3.heap.size := by have h1 := hb1.size; have h2 := hb2.size; have h3 := hb3.size; simp at h1; omega
      have HN3 := Lib.hid hn3
      have HB3 := Lib.hid hbw3
      clear hb1 hb2 hb3 hbw1 hbw2 hbw3 c0 c1 d0 d1 hn3
      go_wp2_with fail
      refine (HCm.out _ HB3.out).mono ?_
      rintro e w4 ⟨A4, c4, rfl, hsx, hlc, hb4⟩
      have hb04 := HB3.out.trans (hb4.mono HB3.out.size)
      have hn4 : w4.cell? ⟨w.heap.size, 0, none⟩ = some (.int .i64 start) ∧ w4.cell? ⟨w.heap.size, 1, none⟩ = some (.slice A p.length c) := ⟨(bcell hb4 (by omega) _).trans HN3.out.1, (bcell hb4 (by omega) _).trans HN3.out.2⟩
      have HN4 := Lib.hid hn4
      have HB4 := Lib.hid hb04
      have hz4 : w.heap.size + 1 ≤ w4.heap.size := Nat.le_trans hz1 hb4.size
      clear hn4 hb04 hb4
      by_cases hc : compE start p = 0
      case neg =>
        have hO : compO start p = [] := by unfold compO; rw [if_neg hc]
        have e1 : (compE start p == 0) = false := by simp [hc]
        have e2 : (compE start p != 0) = true := by simp [hc]
        rw [hO]
        clear hsx hlc hO
        generalize compE start p = x at e1 e2 ⊢
        clear hc
        go_wp2
        go_ret
        exact ⟨ret_bool (by simp [*]), HB4.out⟩
      case pos =>
        obtain ⟨hlk, hwf, hfw, hlen, h2000, hs0, hs101, hp100⟩ := comp_few hc
        have hO : compO start p = compL start p := by unfold compO; rw [if_pos hc]
        have hfe : fewE 0 (compL start p) = few 0 (compL start p) := by unfold fewE; rw [if_pos hlk]
        rw [hO] at hsx hlc ⊢
        rw [hc]
        have HF := Lib.hid (fewest_any 0 A4 c4 (compL start p) hwf (by omega) hlc w4 hsx)
        rw [hlk, hfe] at HF
        clear hsx hlc hO hwf hfe hlk hc
        generalize compL start p = L at HF hfw hlen h2000 ⊢
        generalize few 0 L = F at HF hfw
        have hmul : IntKind.i64.wrap (2 * (p.length : Int)) = 2 * (p.length : Int) := IntWalk.i64_in _ (by omega)
        have hadd : IntKind.i64.wrap (2 * (p.length : Int) + 2) = 2 * (p.length : Int) + 2 := IntWalk.i64_in _ (by omega)
        have hadd2 : IntKind.i64.wrap (1 + start) = 1 + start := IntWalk.i64_in _ (by omega)
        have hle1 : (F.length : Int) ≤ 2 * (p.length : Int) + 2 := by omega
        go_wp2_with fail
        refine HF.out.mono ?_
        rintro e w5 ⟨v1, rfl, hown, hb5⟩
        obtain ⟨a1, c1, rfl⟩ := own_form hown
        have g0 := (bcell hb5 (by omega) _).trans HN4.out.1
        have g1 := (bcell hb5 (by omega) _).trans HN4.out.2
        have HB5 := Lib.hid (HB4.out.trans (hb5.mono HB4.out.size))
        clear hown hb5
        go_wp2
        go_ret
        exact ⟨ret_bool (by simp [*]), HB5.out⟩
end Go.Proofs.Ytbnddpknejgmhaa
