/- Layer 28: Run and Stops for every chart; great. -/
import Derived.Test.YtbibndpkcilblaaKG21
namespace Go.Proofs.Ytbibndpkcilblaa
open Go.RowKit Go.Shelf Go.Sort
set_option maxRecDepth 100000

theorem Run_x (start : Int) (A : Option Addr) (c : Nat) (p : List RowC) (hw : RowsWf p) (h12 : chartE start p = 0 → p.length ≤ 12) (da : Option Addr) (dc : Nat) (drop : List Int) (hD : drop.length ≤ 300) (w : World) (hs : SlC w w.heap.size A p) (hd : SlI w w.heap.size da drop) :
    Calls Try.prog 10 #[.agg #[.int .i64 start, .slice A p.length c], .slice da drop.length dc] w fun e w' => BoPost (runS start p drop).1 (runS start p drop).2 w e w' := by
  by_cases he : chartE start p = 0
  · exact Run_ok start A c p hw (h12 he) he da dc drop hD w hs hd
  · have h := Run_err start A c p hw he da drop.length dc w hs
    unfold runS
    rw [if_pos he]
    exact h
theorem Stops_x (start : Int) (A : Option Addr) (c : Nat) (p : List RowC) (hw : RowsWf p) (h12 : chartE start p = 0 → p.length ≤ 12) (da : Option Addr) (dc : Nat) (drop : List Int) (hD : drop.length ≤ 300) (w : World) (hs : SlC w w.heap.size A p) (hd : SlI w w.heap.size da drop) :
    Calls Try.prog 12 #[.agg #[.int .i64 start, .slice A p.length c], .slice da drop.length dc] w fun e w' => BoPost (stopS start p drop).1 (stopS start p drop).2 w e w' := by
  by_cases he : chartE start p = 0
  · exact Stops_ok start A c p hw (h12 he) he da dc drop hD w hs hd
  · have h := Stops_err start A c p hw he da drop.length dc w hs
    unfold stopS
    rw [if_pos he]
    exact h
theorem Rrun_x (start : Int) (A : Option Addr) (c : Nat) (p : List RowC) (h12 : chartE start p = 0 → p.length ≤ 12) (da : Option Addr) (dc : Nat) (drop : List Int) (hD : drop.length ≤ 300) (w : World) (hs : SlC w w.heap.size A p) (hd : SlI w w.heap.size da drop) :
    Calls Try.prog 11 #[.agg #[.int .i64 start, .slice A p.length c], .slice da drop.length dc] w fun e w' => BoPost (runS start p drop).1 (runS start p drop).2 w e w' := by
  by_cases he : chartE start p = 0
  · exact Rrun_ok start A c p (h12 he) he da dc drop hD w hs hd
  · have h := Rrun_err start A c p he da drop.length dc w hs
    unfold runS
    rw [if_pos he]
    exact h
theorem Rstops_x (start : Int) (A : Option Addr) (c : Nat) (p : List RowC) (h12 : chartE start p = 0 → p.length ≤ 12) (da : Option Addr) (dc : Nat) (drop : List Int) (hD : drop.length ≤ 300) (w : World) (hs : SlC w w.heap.size A p) (hd : SlI w w.heap.size da drop) :
    Calls Try.prog 13 #[.agg #[.int .i64 start, .slice A p.length c], .slice da drop.length dc] w fun e w' => BoPost (stopS start p drop).1 (stopS start p drop).2 w e w' := by
  by_cases he : chartE start p = 0
  · exact Rstops_ok start A c p (h12 he) he da dc drop hD w hs hd
  · have h := Rstops_err start A c p he da drop.length dc w hs
    unfold stopS
    rw [if_pos he]
    exact h
theorem great_rows {start : Int} {p : List RowC} (h : greatC p = false) : chartE start p = 0 → p.length ≤ 12 := fun he => by
  have h1 := (chart_zero he).1
  unfold greatC at h
  simp only [Bool.or_eq_false_iff, decide_eq_false_iff_not] at h
  omega
theorem runS_len {start : Int} {p : List RowC} (h12 : chartE start p = 0 → p.length ≤ 12) (drop : List Int) : (runS start p drop).2.length ≤ 2600 ∧ (stopS start p drop).2.length ≤ 2600 := by
  unfold runS stopS
  by_cases he : chartE start p = 0
  · have h := (chart_grd he (h12 he)).ll
    have hc : ¬ chartE start p ≠ 0 := by rw [he]; decide
    simp only [if_neg hc]
    constructor
    · split
      · simp
      · exact Nat.le_trans (listN_len _ _) h
    · split
      · simp
      · exact Nat.le_trans (listN_len _ _) h
  · rw [if_pos he, if_pos he]
    simp
/-- SameInts at two lists of one content. -/
theorem same_any {a a' : Option Addr} {n c c' : Nat} {l : List Int} {w : World} (h : SlI w w.heap.size a l) (h' : SlI w w.heap.size a' l) (hn : n = l.length) (hl : n ≤ 1000000) :
    Calls Try.prog 14 #[.slice a n c, .slice a' n c'] w fun e w' => BlPost true w e w' := by
  subst hn
  refine (sameI_any a a' c c' l w h h' (by omega)).mono ?_
  rintro e w' ⟨rfl, m, rfl⟩
  exact ⟨rfl, below_drewT (Below.refl _ _) m⟩
/-- Whether a chart and a list are too large. -/
def grtB (p : List RowC) (n : Nat) : Bool := greatC p || decide (300 < n)
theorem grt_no {p : List RowC} {n : Nat} (h : grtB p n = false) : greatC p = false ∧ n ≤ 300 := by
  unfold grtB at h
  simp only [Bool.or_eq_false_iff, decide_eq_false_iff_not] at h
  exact ⟨h.1, by omega⟩
set_option maxHeartbeats 1000000 in
theorem lgreat_any (start : Int) (A : Option Addr) (c : Nat) (p : List RowC) (da : Option Addr) (n dc : Nat) (w : World) (hs : SlC w w.heap.size A p) :
    Calls Try.prog 9 #[.agg #[.int .i64 start, .slice A p.length c], .slice da n dc] w fun e w' => BlPost (grtB p n) w e w' := by
  have hF := rf_front start A c p w hs
  have c0 := hF.cb0
  have c1 := hF.cb1
  have HC := Lib.hid (rgreat_any start A c p _ hF.sl)
  have HB := Lib.hid hF.bel
  have HR : Hid (grtB p n = (greatC p || decide (300 < n))) := rfl
  obtain ⟨z, hz⟩ : ∃ z, z = greatC p := ⟨_, rfl⟩
  rw [← hz] at HC HR
  obtain ⟨y, hy⟩ : ∃ y, y = decide (300 < n) := ⟨_, rfl⟩
  have e1 : decide (300 < n) = y := hy.symm
  have e2 : decide ((n : Int) > 300) = y := by rw [hy, decide_eq_decide]; omega
  rw [← hy] at HR
  clear hF hs hz hy
  cases z with
  | true =>
    go_enter Try.func9, Try.ntmps9
    go_wp2_with (go_at_call 29; refine HC.out.mono ?_; rintro e w2 ⟨rfl, hb2⟩)
    go_ret
    exact ⟨by rw [HR.out]; rfl, HB.out.trans (hb2.mono HB.out.size)⟩
  | false =>
    go_enter Try.func9, Try.ntmps9
    go_wp2_with (go_at_call 29; refine HC.out.mono ?_; rintro e w2 ⟨rfl, hb2⟩)
    go_ret
    refine ⟨?_, HB.out.trans (hb2.mono HB.out.size)⟩
    rw [HR.out]
    first | rfl | (rw [Bool.false_or])
end Go.Proofs.Ytbibndpkcilblaa
