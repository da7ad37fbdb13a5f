/- Layer 28: Run and Stops for every chart; great. LadderRuns, walked. -/
import Derived.Test.YtbibndpkcilblaaKG21
namespace Go.Proofs.Ytbibndpkcilblaa
open Go.RowKit Go.Shelf Go.Sort
set_option maxRecDepth 100000

theorem Run_x (start : Int) (A : Option Addr) (c : Nat) (p : List RowC) (hw : RowsWf p) (h12 : chartE start p = 0 → p.length ≤ 12) (da : Option Addr) (dc : Nat) (drop : List Int) (hD : drop.length ≤ 300) (w : World) (hs : SlC w w.heap.size A p) (hd : SlI w w.heap.size da drop) :
    Calls Try.prog 10 #[.agg #[.int .i64 start, .slice A p.length c], .slice da drop.length dc] w fun e w' => BoPost (runS start p drop).1 (runS start p drop).2 w e w' := by
  by_cases he : chartE start p = 0
  · exact Run_ok start A c p hw (h12 he) he da dc drop hD w hs hd
  · have h := Run_err start A c p hw he da drop.length dc w hs
    unfold runS
    rw [if_pos he]
    exact h
theorem Stops_x (start : Int) (A : Option Addr) (c : Nat) (p : List RowC) (hw : RowsWf p) (h12 : chartE start p = 0 → p.length ≤ 12) (da : Option Addr) (dc : Nat) (drop : List Int) (hD : drop.length ≤ 300) (w : World) (hs : SlC w w.heap.size A p) (hd : SlI w w.heap.size da drop) :
    Calls Try.prog 12 #[.agg #[.int .i64 start, .slice A p.length c], .slice da drop.length dc] w fun e w' => BoPost (stopS start p drop).1 (stopS start p drop).2 w e w' := by
  by_cases he : chartE start p = 0
  · exact Stops_ok start A c p hw (h12 he) he da dc drop hD w hs hd
  · have h := Stops_err start A c p hw he da drop.length dc w hs
    unfold stopS
    rw [if_pos he]
    exact h
theorem Rrun_x (start : Int) (A : Option Addr) (c : Nat) (p : List RowC) (h12 : chartE start p = 0 → p.length ≤ 12) (da : Option Addr) (dc : Nat) (drop : List Int) (hD : drop.length ≤ 300) (w : World) (hs : SlC w w.heap.size A p) (hd : SlI w w.heap.size da drop) :
    Calls Try.prog 11 #[.agg #[.int .i64 start, .slice A p.length c], .slice da drop.length dc] w fun e w' => BoPost (runS start p drop).1 (runS start p drop).2 w e w' := by
  by_cases he : chartE start p = 0
  · exact Rrun_ok start A c p (h12 he) he da dc drop hD w hs hd
  · have h := Rrun_err start A c p he da drop.length dc w hs
    unfold runS
    rw [if_pos he]
    exact h
theorem Rstops_x (start : Int) (A : Option Addr) (c : Nat) (p : List RowC) (h12 : chartE start p = 0 → p.length ≤ 12) (da : Option Addr) (dc : Nat) (drop : List Int) (hD : drop.length ≤ 300) (w : World) (hs : SlC w w.heap.size A p) (hd : SlI w w.heap.size da drop) :
    Calls Try.prog 13 #[.agg #[.int .i64 start, .slice A p.length c], .slice da drop.length dc] w fun e w' => BoPost (stopS start p drop).1 (stopS start p drop).2 w e w' := by
  by_cases he : chartE start p = 0
  · exact Rstops_ok start A c p (h12 he) he da dc drop hD w hs hd
  · have h := Rstops_err start A c p he da drop.length dc w hs
    unfold stopS
    rw [if_pos he]
    exact h
theorem great_rows {start : Int} {p : List RowC} (h : greatC p = false) : chartE start p = 0 → p.length ≤ 12 := fun he => by
  have h1 := (chart_zero he).1
  unfold greatC at h
  simp only [Bool.or_eq_false_iff, decide_eq_false_iff_not] at h
  omega
theorem runS_len {start : Int} {p : List RowC} (h12 : chartE start p = 0 → p.length ≤ 12) (drop : List Int) : (runS start p drop).2.length ≤ 2600 ∧ (stopS start p drop).2.length ≤ 2600 := by
  unfold runS stopS
  by_cases he : chartE start p = 0
  · have h := (chart_grd he (h12 he)).ll
    have hc : ¬ chartE start p ≠ 0 := by rw [he]; decide
    simp only [if_neg hc]
    constructor
    · split
      · simp
      · exact Nat.le_trans (listN_len _ _) h
    · split
      · simp
      · exact Nat.le_trans (listN_len _ _) h
  · rw [if_pos he, if_pos he]
    simp
/-- SameInts at two lists of one content. -/
theorem same_any {a a' : Option Addr} {n c c' : Nat} {l : List Int} {w : World} (h : SlI w w.heap.size a l) (h' : SlI w w.heap.size a' l) (hn : n = l.length) (hl : n ≤ 1000000) :
    Calls Try.prog 14 #[.slice a n c, .slice a' n c'] w fun e w' => BlPost true w e w' := by
  subst hn
  refine (sameI_any a a' c c' l w h h' (by omega)).mono ?_
  rintro e w' ⟨rfl, m, rfl⟩
  exact ⟨rfl, below_drewT (Below.refl _ _) m⟩
/-- Whether a chart and a list are too large. -/
def grtB (p : List RowC) (n : Nat) : Bool := greatC p || decide (300 < n)
theorem grt_no {p : List RowC} {n : Nat} (h : grtB p n = false) : greatC p = false ∧ n ≤ 300 := by
  unfold grtB at h
  simp only [Bool.or_eq_false_iff, decide_eq_false_iff_not] at h
  exact ⟨h.1, by omega⟩
set_option maxHeartbeats 1000000 in
theorem lgreat_any (start : Int) (A : Option Addr) (c : Nat) (p : List RowC) (da : Option Addr) (n dc : Nat) (w : World) (hs : SlC w w.heap.size A p) :
    Calls Try.prog 9 #[.agg #[.int .i64 start, .slice A p.length c], .slice da n dc] w fun e w' => BlPost (grtB p n) w e w' := by
  have hF := rf_front start A c p w hs
  have c0 := hF.cb0
  have c1 := hF.cb1
  have HC := Lib.hid (rgreat_any start A c p _ hF.sl)
  have HB := Lib.hid hF.bel
  have HR : Hid (grtB p n = (greatC p || decide (300 < n))) := rfl
  obtain ⟨z, hz⟩ : ∃ z, z = greatC p := ⟨_, rfl⟩
  rw [← hz] at HC HR
  obtain ⟨y, hy⟩ : ∃ y, y = decide (300 < n) := ⟨_, rfl⟩
  have e1 : decide (300 < n) = y := hy.symm
  have e2 : decide ((n : Int) > 300) = y := by rw [hy, decide_eq_decide]; omega
  rw [← hy] at HR
  clear hF hs hz hy
  cases z with
  | true =>
    go_enter Try.func9, Try.ntmps9
    go_wp2_with (go_at_call 29; refine HC.out.mono ?_; rintro e w2 ⟨rfl, hb2⟩)
    go_ret
    exact ⟨by rw [HR.out]; rfl, HB.out.trans (hb2.mono HB.out.size)⟩
  | false =>
    go_enter Try.func9, Try.ntmps9
    go_wp2_with (go_at_call 29; refine HC.out.mono ?_; rintro e w2 ⟨rfl, hb2⟩)
    go_ret
    refine ⟨?_, HB.out.trans (hb2.mono HB.out.size)⟩
    rw [HR.out]
    first | rfl | (rw [Bool.false_or])
end Go.Proofs.Ytbibndpkcilblaa
namespace Go.Proofs.Ytbibndpkcilblaa
open Go.RowKit Go.Shelf Go.Sort
set_option maxRecDepth 100000

set_option maxHeartbeats 4000000 in
theorem runs_walk (start : Int) (A : Option Addr) (c : Nat) (p : List RowC) (hw : RowsWf p) (da : Option Addr) (dc : Nat) (drop : List Int) (w : World) (hs : SlC w w.heap.size A p) (hd : SlI w w.heap.size da drop) :
    Calls Try.prog 3 #[.agg #[.int .i64 start, .slice A p.length c], .slice da drop.length dc] w fun e w' => e = .returned (.bool true) ∧ Below w.heap.size w w' := by
  have hF := rf_front start A c p w hs
  have c0 := hF.cb0
  have c1 := hF.cb1
  have HF := Lib.hid hF
  have HSd : Hid (∀ W, Below w.heap.size w W → SlI W W.heap.size da drop) := fun W hb => (hd.below hb).more hb.size
  have HGr := Lib.hid (lgreat_any start A c p da drop.length dc _ hF.sl)
  obtain ⟨D, hDe⟩ : ∃ D, D = drop.length := ⟨_, rfl⟩
  have HDe := Lib.hid hDe
  rw [← hDe] at HGr ⊢
  obtain ⟨z, hz⟩ : ∃ z, z = grtB p D := ⟨_, rfl⟩
  rw [← hz] at HGr
  have HZ := Lib.hid hz
  have HW := Lib.hid hw
  clear hF hs hd hDe hz hw
  cases z with
  | true =>
    go_enter Try.func3, Try.ntmps3
    go_wp2_with (go_at_call 9; refine HGr.out.mono ?_; rintro e w2 ⟨rfl, hb2⟩)
    go_ret
    exact ⟨rfl, (HF.out.to hb2).bel⟩
  | false =>
    have hg := grt_no HZ.out.symm
    have H1 : Hid (∀ W, RfF start A c p w.heap.size w W → Calls Try.prog 10 #[.agg #[.int .i64 start, .slice A p.length c], .slice da D dc] W fun e w' => BoPost (runS start p drop).1 (runS start p drop).2 W e w') := fun W h => by
      rw [HDe.out]
      exact Run_x start A c p HW.out (great_rows hg.1) da dc drop (by have := HDe.out; omega) W h.sl (HSd.out W h.bel)
    have H2 : Hid (∀ W, RfF start A c p w.heap.size w W → Calls Try.prog 11 #[.agg #[.int .i64 start, .slice A p.length c], .slice da D dc] W fun e w' => BoPost (runS start p drop).1 (runS start p drop).2 W e w') := fun W h => by
      rw [HDe.out]
      exact Rrun_x start A c p (great_rows hg.1) da dc drop (by have := HDe.out; omega) W h.sl (HSd.out W h.bel)
    have H3 : Hid (∀ W, RfF start A c p w.heap.size w W → Calls Try.prog 12 #[.agg #[.int .i64 start, .slice A p.length c], .slice da D dc] W fun e w' => BoPost (stopS start p drop).1 (stopS start p drop).2 W e w') := fun W h => by
      rw [HDe.out]
      exact Stops_x start A c p HW.out (great_rows hg.1) da dc drop (by have := HDe.out; omega) W h.sl (HSd.out W h.bel)
    have H4 : Hid (∀ W, RfF start A c p w.heap.size w W → Calls Try.prog 13 #[.agg #[.int .i64 start, .slice A p.length c], .slice da D dc] W fun e w' => BoPost (stopS start p drop).1 (stopS start p drop).2 W e w') := fun W h => by
      rw [HDe.out]
      exact Rstops_x start A c p (great_rows hg.1) da dc drop (by have := HDe.out; omega) W h.sl (HSd.out W h.bel)
    obtain ⟨hn1, hn2⟩ := runS_len (great_rows (start := start) hg.1) drop
    obtain ⟨x1, hx1⟩ : ∃ x, x = (runS start p drop).1 := ⟨_, rfl⟩
    obtain ⟨l1, hl1⟩ : ∃ l, l = (runS start p drop).2 := ⟨_, rfl⟩
    obtain ⟨x2, hx2⟩ : ∃ x, x = (stopS start p drop).1 := ⟨_, rfl⟩
    obtain ⟨l2, hl2⟩ : ∃ l, l = (stopS start p drop).2 := ⟨_, rfl⟩
    rw [← hl1] at hn1
    rw [← hl2] at hn2
    simp only [← hx1, ← hl1] at H1 H2
    simp only [← hx2, ← hl2] at H3 H4
    have e1 : (x1 == x1) = true := beq_self_eq_true x1
    have e2 : (x2 == x2) = true := beq_self_eq_true x2
    obtain ⟨n1, hm1⟩ : ∃ n, n = l1.length := ⟨_, rfl⟩
    obtain ⟨n2, hm2⟩ : ∃ n, n = l2.length := ⟨_, rfl⟩
    have HN1 := Lib.hid hm1
    have HN2 := Lib.hid hm2
    rw [← hm1] at hn1
    rw [← hm2] at hn2
    clear hx1 hl1 hx2 hl2 hg HZ HSd HW hm1 hm2
    go_enter Try.func3, Try.ntmps3
    go_upto_region 3 with (go_at_call 9; refine HGr.out.mono ?_; rintro e w2 ⟨rfl, hb2⟩)
    have h2 := HF.out.to hb2
    clear hb2 HF HGr c0 c1
    have c0 := h2.cb0
    have c1 := h2.cb1
    have HC1 := Lib.hid (H1.out w2 h2)
    have HF2 := Lib.hid h2
    clear h2 H1
    go_upto_region 4 with (go_at_call 10; refine HC1.out.mono ?_; rintro e w3 ⟨v1, rfl, ho1, hb3⟩; obtain ⟨a1, k1, rfl⟩ := pxJ_is ho1 HN1.out.symm)
    have h3 := HF2.out.to hb3
    have S1 := Lib.hid (pxJ_lies ho1)
    clear hb3 HF2 HC1 c0 c1 ho1
    have c0 := h3.cb0
    have c1 := h3.cb1
    have HC2 := Lib.hid (H2.out w3 h3)
    have HF3 := Lib.hid h3
    clear h3 H2
    go_upto_region 5 with (go_at_call 11; refine HC2.out.mono ?_; rintro e w4 ⟨v2, rfl, ho2, hb4⟩; obtain ⟨a2, k2, rfl⟩ := pxJ_is ho2 HN1.out.symm)
    have h4 := HF3.out.to hb4
    have T1 := Lib.hid ((S1.out.below hb4).more hb4.size)
    have S2 := Lib.hid (pxJ_lies ho2)
    clear hb4 HF3 HC2 c0 c1 ho2 S1
    have c0 := h4.cb0
    have c1 := h4.cb1
    have HC3 := Lib.hid (H3.out w4 h4)
    have HF4 := Lib.hid h4
    clear h4 H3
    go_upto_region 6 with (go_at_call 12; refine HC3.out.mono ?_; rintro e w5 ⟨v3, rfl, ho3, hb5⟩; obtain ⟨a3, k3, rfl⟩ := pxJ_is ho3 HN2.out.symm)
    have h5 := HF4.out.to hb5
    have U1 := Lib.hid ((T1.out.below hb5).more hb5.size)
    have T2 := Lib.hid ((S2.out.below hb5).more hb5.size)
    have S3 := Lib.hid (pxJ_lies ho3)
    clear hb5 HF4 HC3 c0 c1 ho3 T1 S2
    have c0 := h5.cb0
    have c1 := h5.cb1
    have HC4 := Lib.hid (H4.out w5 h5)
    have HF5 := Lib.hid h5
    clear h5 H4
    go_upto_region 7 with (go_at_call 13; refine HC4.out.mono ?_; rintro e w6 ⟨v4, rfl, ho4, hb6⟩; obtain ⟨a4, k4, rfl⟩ := pxJ_is ho4 HN2.out.symm)
    have HB6 := Lib.hid (HF5.out.to hb6).bel
    have HA := Lib.hid (same_any (c := k1) (c' := k2) ((U1.out.below hb6).more hb6.size) ((T2.out.below hb6).more hb6.size) HN1.out (by omega))
    have HBs : Hid (∀ W, Below w6.heap.size w6 W → Calls Try.prog 14 #[.slice a3 n2 k3, .slice a4 n2 k4] W fun e w' => BlPost true W e w') := fun W hb => same_any ((S3.out.below (hb6.trans (hb.mono hb6.size))).more (Nat.le_trans hb6.size hb.size)) (((pxJ_lies ho4).below hb).more hb.size) HN2.out (by omega)
    clear hb6 HF5 HC4 c0 c1 ho4 U1 T2 S3
    go_wp2_with fail
    refine HA.out.mono ?_
    rintro e w7 ⟨rfl, hb7⟩
    have HB := Lib.hid (HBs.out w7 hb7)
    have HB7 := Lib.hid (HB6.out.trans (hb7.mono HB6.out.size))
    clear hb7 HBs HA
    go_wp2_with fail
    refine HB.out.mono ?_
    rintro e w8 ⟨rfl, hb8⟩
    have HB8 := Lib.hid (HB7.out.trans (hb8.mono HB7.out.size))
    clear hb8
    go_wp2
    go_ret
    exact ⟨rfl, HB8.out⟩
end Go.Proofs.Ytbibndpkcilblaa
