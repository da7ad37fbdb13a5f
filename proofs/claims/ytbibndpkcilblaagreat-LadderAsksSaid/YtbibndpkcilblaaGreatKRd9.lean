/- Layer 28, the reference: Depth. -/
import Derived.Test.YtbibndpkcilblaaGreatKRd8
namespace Go.Proofs.YtbibndpkcilblaaGreat
open Go.RowKit Go.Shelf Go.Sort
set_option maxRecDepth 100000

set_option maxHeartbeats 2000000 in
theorem Rdepth_err (start : Int) (A : Option Addr) (c : Nat) (p : List RowC) (he : chartE start p ≠ 0) (i : Int) (w : World) (hs : SlC w w.heap.size A p) :
    Calls Tryz.prog 10 #[.agg #[.int .i64 start, .slice A p.length c], .int .i64 i] w fun e w' => DpPost (chartE start p) 0 w e w' := by
  have hF := rf_front start A c p w hs
  have c0 := hF.cb0
  have c1 := hF.cb1
  have HCk : Hid (∀ W, Below (w.alloc (.cells #[.int .i64 start, .slice A p.length c] 24)).heap.size (w.alloc (.cells #[.int .i64 start, .slice A p.length c] 24)) W → Calls Tryz.prog 17 #[.agg #[.int .i64 start, .slice A p.length c]] W fun e w' => RetE (chartE start p) W e w') := fun W hb => (hF.to hb).check
  have HF := Lib.hid hF
  obtain ⟨x, hx⟩ : ∃ x, x = chartE start p := ⟨_, rfl⟩
  rw [← hx] at HCk he ⊢
  have hne : (x != 0) = true := by simp [he]
  clear hF hs hx he
  go_enter Tryz.func10, Tryz.ntmps10
  go_wp2_with fail
  refine (HCk.out _ (Below.refl _ _)).mono ?_
  rintro e w2 ⟨rfl, hb2⟩
  have hF2 := HF.out.to hb2
  have c0' := hF2.cb0
  have c1' := hF2.cb1
  have HC2 := Lib.hid (HCk.out w2 hb2)
  have HB2 := Lib.hid hF2.bel
  clear hF2 hb2 c0 c1
  go_wp2_with fail
  refine HC2.out.mono ?_
  rintro e w3 ⟨rfl, hb3⟩
  have HB3 := Lib.hid (HB2.out.trans (hb3.mono HB2.out.size))
  clear hb3
  go_wp2
  go_ret2
  exact ⟨rfl, HB3.out⟩
set_option maxHeartbeats 4000000 in
theorem Rdepth_arg (start : Int) (A : Option Addr) (c : Nat) (p : List RowC) (h12 : p.length ≤ 12) (he : chartE start p = 0) (i : Int) (hi : i < ((workX start p).next : Int) ∨ ((workX start p).lp.length : Int) ≤ i) (w : World) (hs : SlC w w.heap.size A p) :
    Calls Tryz.prog 10 #[.agg #[.int .i64 start, .slice A p.length c], .int .i64 i] w fun e w' => DpPost 2 0 w e w' := by
  have hF := rf_front start A c p w hs
  have c0 := hF.cb0
  have c1 := hF.cb1
  have hCk := hF.check
  rw [he] at hCk
  have HCk := Lib.hid hCk
  have HWk : Hid (∀ W, RfF start A c p w.heap.size w W → Calls Tryz.prog 18 #[.agg #[.int .i64 start, .slice A p.length c]] W fun e w' => RwkPost (workX start p) W e w') := fun W h => rwk_ch start A c p he h12 W h.sl
  have hG := chart_grd he h12
  have hrl := rows_len he h12
  obtain ⟨t, ht⟩ : ∃ t, t = workX start p := ⟨_, rfl⟩
  rw [← ht] at HWk hi hG hrl
  have HG := Lib.hid hG
  have HF := Lib.hid hF
  obtain ⟨nr, hnr⟩ : ∃ nr, nr = t.rows.length := ⟨_, rfl⟩
  have HNe := Lib.hid hnr
  have HNr : Hid (nr = p.length + 2) := hnr.trans hrl
  have H12 := Lib.hid h12
  obtain ⟨M, hM⟩ : ∃ M, M = t.lp.length := ⟨_, rfl⟩
  have HMe := Lib.hid hM
  obtain ⟨lv, hlv⟩ : ∃ lv, lv = t.next := ⟨_, rfl⟩
  have HLe := Lib.hid hlv
  rw [← hM, ← hlv] at hi
  have HI := Lib.hid hi
  clear hi
  clear hF hs he hG ht hCk hnr hM hlv h12 hrl 
  go_enter Tryz.func10, Tryz.ntmps10
  go_wp2_with fail
  refine HCk.out.mono ?_
  rintro e w2 ⟨rfl, hb2⟩
  have hF2 := HF.out.to hb2
  have c0' := hF2.cb0
  have c1' := hF2.cb1
  have HW2 := Lib.hid (HWk.out w2 hF2)
  have HF2 := Lib.hid hF2
  clear hF2 hb2 c0 c1 HCk HF HWk
  go_upto_region 4 with (go_at_call 18; refine HW2.out.mono ?_; rintro e w3 ⟨a, b, x, r, ca, cb, cx, cr, rfl, hr, hb3⟩; have HB3 := Lib.hid (HF2.out.behind (x := x) (ca := ca) (cb' := cb) (cx := cx) (cr := cr) hr hb3); clear hr hb3)
  obtain ⟨qb, hqb⟩ : ∃ qb, qb = w3.heap.size := ⟨_, rfl⟩
  refine abs_world (Q := fun W => Code.wp _ _ _ _ W) (F := fun W => RwB qb a b x r ca cb cx nr cr t w W) _ (by rw [hqb, HNe.out]; exact HB3.out) ?_
  rw [← hqb, ← HNe.out]
  clear hqb HB3 HW2 c0' c1' HF2
  clear w3
  rintro W h
  have HTo : Hid (∀ W', Below W.heap.size W W' → RwB qb a b x r ca cb cx nr cr t w W') := fun W' hb => h.to hb
  have HB0 := Lib.hid h.bel
  obtain ⟨nb, hnb⟩ : ∃ nb, nb = t.bound.length := ⟨_, rfl⟩
  obtain ⟨nx, hnx⟩ : ∃ nx, nx = t.cross.length := ⟨_, rfl⟩
  have HLv0 : Hid (∀ W', Below W.heap.size W W' → Calls Tryz.prog 24 #[rcV a b x r M ca nb cb nx cx nr cr] W' fun e w' => e = .returned (.int .i64 (lv : Int)) ∧ Below W'.heap.size W' w') := fun W' hb => by
    have h1 := rlive_any a b x r t.lp.length ca t.bound.length cb t.cross.length cx cr p.length (by have := H12.out; omega) (t.next : Int) t.lp t.bound t.rows HG.out.g.lv_ W' (HTo.out W' hb).bx.at_
    rw [← HNr.out, ← HMe.out, ← HLe.out, ← hnb, ← hnx] at h1
    exact h1
  have HDp0 : Hid (∀ W' (j : Nat), Below W.heap.size W W' → Calls Tryz.prog 27 #[rcV a b x r M ca nb cb nx cx nr cr, .int .i64 (j : Int)] W' fun e w' => RetE (depZ t.lp j) W' e w') := fun W' j hb => by
    have h1 := rdeep_any a b x r ca t.bound.length cb t.cross.length cx nr cr p.length t.next t.lp t.bound (grd_n HG.out.g) HG.out.ll t.bound t.rows j W' (HTo.out W' hb).bx.at_
    rw [← HMe.out, ← hnb, ← hnx] at h1
    exact h1
  have HBx : Hid (∀ W', Below W.heap.size W W' → W'.cell? ⟨qb, 0, none⟩ = some (.slice a M ca) ∧ W'.cell? ⟨qb, 1, none⟩ = some (.slice b nb cb) ∧ W'.cell? ⟨qb, 2, none⟩ = some (.slice x nx cx) ∧ W'.cell? ⟨qb, 3, none⟩ = some (.slice r nr cr)) := fun W' hb => by
    have h1 := (HTo.out W' hb).bx
    rw [hnb, hnx, HMe.out]
    exact ⟨h1.c0, h1.c1, h1.c2, h1.c3⟩
  have hM26 : M ≤ 2600 := by rw [HMe.out]; exact HG.out.ll
  have hlM : lv ≤ M := by have := HG.out.g.le; have := HMe.out; have := HLe.out; omega
  clear h hnb hnx HTo
  have y0 := (HBx.out W (Below.refl _ _)).1
  have y1 := (HBx.out W (Below.refl _ _)).2.1
  have y2 := (HBx.out W (Below.refl _ _)).2.2.1
  have y3 := (HBx.out W (Below.refl _ _)).2.2.2
  have HLv := Lib.hid (HLv0.out W (Below.refl _ _))
  by_cases h0 : i < (lv : Int)
  · have z1 : decide (i < (lv : Int)) = true := decide_eq_true h0
    go_wp2_with (go_at_call 24; refine HLv.out.mono ?_; rintro e w4 ⟨rfl, hb4⟩; have HB4 := Lib.hid (HB0.out.trans (hb4.mono HB0.out.size)); clear hb4)
    go_ret2
    exact ⟨rfl, HB4.out⟩
  · have hMi : (M : Int) ≤ i := HI.out.resolve_left h0
    have z1 : decide (i < (lv : Int)) = false := decide_eq_false h0
    have z2 : decide ((M : Int) ≤ i) = true := decide_eq_true hMi
    have z3 : decide (i ≥ (M : Int)) = true := decide_eq_true hMi
    go_wp2_with (go_at_call 24; refine HLv.out.mono ?_; rintro e w4 ⟨rfl, hb4⟩; have y4 := (HBx.out w4 hb4).1; have HB4 := Lib.hid (HB0.out.trans (hb4.mono HB0.out.size)); clear hb4 y0 y1 y2 y3)
    go_ret2
    exact ⟨rfl, HB4.out⟩
set_option maxHeartbeats 4000000 in
theorem Rdepth_ok (start : Int) (A : Option Addr) (c : Nat) (p : List RowC) (h12 : p.length ≤ 12) (he : chartE start p = 0) (i : Nat) (hi : i < (workX start p).lp.length) (hil : (workX start p).next ≤ i) (w : World) (hs : SlC w w.heap.size A p) :
    Calls Tryz.prog 10 #[.agg #[.int .i64 start, .slice A p.length c], .int .i64 (i : Int)] w fun e w' => DpPost 0 (depZ (workX start p).lp i) w e w' := by
  have hF := rf_front start A c p w hs
  have c0 := hF.cb0
  have c1 := hF.cb1
  have hCk := hF.check
  rw [he] at hCk
  have HCk := Lib.hid hCk
  have HWk : Hid (∀ W, RfF start A c p w.heap.size w W → Calls Tryz.prog 18 #[.agg #[.int .i64 start, .slice A p.length c]] W fun e w' => RwkPost (workX start p) W e w') := fun W h => rwk_ch start A c p he h12 W h.sl
  have hG := chart_grd he h12
  have hrl := rows_len he h12
  obtain ⟨t, ht⟩ : ∃ t, t = workX start p := ⟨_, rfl⟩
  rw [← ht] at HWk hi hG hrl hil ⊢
  have HG := Lib.hid hG
  have HF := Lib.hid hF
  obtain ⟨nr, hnr⟩ : ∃ nr, nr = t.rows.length := ⟨_, rfl⟩
  have HNe := Lib.hid hnr
  have HNr : Hid (nr = p.length + 2) := hnr.trans hrl
  have H12 := Lib.hid h12
  obtain ⟨M, hM⟩ : ∃ M, M = t.lp.length := ⟨_, rfl⟩
  have HMe := Lib.hid hM
  obtain ⟨lv, hlv⟩ : ∃ lv, lv = t.next := ⟨_, rfl⟩
  have HLe := Lib.hid hlv
  rw [← hM] at hi
  rw [← hlv] at hil
  have HI := Lib.hid (And.intro hi hil)
  clear hi hil
  clear hF hs he hG ht hCk hnr hM hlv h12 hrl 
  obtain ⟨dz, hdz⟩ : ∃ dz, dz = depZ t.lp i := ⟨_, rfl⟩
  rw [← hdz]
  have HDz := Lib.hid hdz
  clear hdz
  go_enter Tryz.func10, Tryz.ntmps10
  go_wp2_with fail
  refine HCk.out.mono ?_
  rintro e w2 ⟨rfl, hb2⟩
  have hF2 := HF.out.to hb2
  have c0' := hF2.cb0
  have c1' := hF2.cb1
  have HW2 := Lib.hid (HWk.out w2 hF2)
  have HF2 := Lib.hid hF2
  clear hF2 hb2 c0 c1 HCk HF HWk
  go_upto_region 4 with (go_at_call 18; refine HW2.out.mono ?_; rintro e w3 ⟨a, b, x, r, ca, cb, cx, cr, rfl, hr, hb3⟩; have HB3 := Lib.hid (HF2.out.behind (x := x) (ca := ca) (cb' := cb) (cx := cx) (cr := cr) hr hb3); clear hr hb3)
  obtain ⟨qb, hqb⟩ : ∃ qb, qb = w3.heap.size := ⟨_, rfl⟩
  refine abs_world (Q := fun W => Code.wp _ _ _ _ W) (F := fun W => RwB qb a b x r ca cb cx nr cr t w W) _ (by rw [hqb, HNe.out]; exact HB3.out) ?_
  rw [← hqb, ← HNe.out]
  clear hqb HB3 HW2 c0' c1' HF2
  clear w3
  rintro W h
  have HTo : Hid (∀ W', Below W.heap.size W W' → RwB qb a b x r ca cb cx nr cr t w W') := fun W' hb => h.to hb
  have HB0 := Lib.hid h.bel
  obtain ⟨nb, hnb⟩ : ∃ nb, nb = t.bound.length := ⟨_, rfl⟩
  obtain ⟨nx, hnx⟩ : ∃ nx, nx = t.cross.length := ⟨_, rfl⟩
  have HLv0 : Hid (∀ W', Below W.heap.size W W' → Calls Tryz.prog 24 #[rcV a b x r M ca nb cb nx cx nr cr] W' fun e w' => e = .returned (.int .i64 (lv : Int)) ∧ Below W'.heap.size W' w') := fun W' hb => by
    have h1 := rlive_any a b x r t.lp.length ca t.bound.length cb t.cross.length cx cr p.length (by have := H12.out; omega) (t.next : Int) t.lp t.bound t.rows HG.out.g.lv_ W' (HTo.out W' hb).bx.at_
    rw [← HNr.out, ← HMe.out, ← HLe.out, ← hnb, ← hnx] at h1
    exact h1
  have HDp0 : Hid (∀ W' (j : Nat), Below W.heap.size W W' → Calls Tryz.prog 27 #[rcV a b x r M ca nb cb nx cx nr cr, .int .i64 (j : Int)] W' fun e w' => RetE (depZ t.lp j) W' e w') := fun W' j hb => by
    have h1 := rdeep_any a b x r ca t.bound.length cb t.cross.length cx nr cr p.length t.next t.lp t.bound (grd_n HG.out.g) HG.out.ll t.bound t.rows j W' (HTo.out W' hb).bx.at_
    rw [← HMe.out, ← hnb, ← hnx] at h1
    exact h1
  have HBx : Hid (∀ W', Below W.heap.size W W' → W'.cell? ⟨qb, 0, none⟩ = some (.slice a M ca) ∧ W'.cell? ⟨qb, 1, none⟩ = some (.slice b nb cb) ∧ W'.cell? ⟨qb, 2, none⟩ = some (.slice x nx cx) ∧ W'.cell? ⟨qb, 3, none⟩ = some (.slice r nr cr)) := fun W' hb => by
    have h1 := (HTo.out W' hb).bx
    rw [hnb, hnx, HMe.out]
    exact ⟨h1.c0, h1.c1, h1.c2, h1.c3⟩
  have hM26 : M ≤ 2600 := by rw [HMe.out]; exact HG.out.ll
  have hlM : lv ≤ M := by have := HG.out.g.le; have := HMe.out; have := HLe.out; omega
  clear h hnb hnx HTo
  have y0 := (HBx.out W (Below.refl _ _)).1
  have y1 := (HBx.out W (Below.refl _ _)).2.1
  have y2 := (HBx.out W (Below.refl _ _)).2.2.1
  have y3 := (HBx.out W (Below.refl _ _)).2.2.2
  have HLv := Lib.hid (HLv0.out W (Below.refl _ _))
  have hI := HI.out
  have z1 : decide ((i : Int) < (lv : Int)) = false := decide_eq_false (by omega)
  have z1' : decide (i < lv) = false := decide_eq_false (by omega)
  have z2 : decide ((M : Int) ≤ (i : Int)) = false := decide_eq_false (by omega)
  have z3 : decide ((i : Int) ≥ (M : Int)) = false := decide_eq_false (by omega)
  have z4 : decide (M ≤ i) = false := decide_eq_false (by omega)
  go_upto_region 6 with (go_at_call 24; refine HLv.out.mono ?_; rintro e w4 ⟨rfl, hb4⟩; have y4 := (HBx.out w4 hb4).1; have HB4 := Lib.hid hb4; clear hb4 y0 y1 y2 y3)
  have y5 := (HBx.out w4 HB4.out).2.1
  have y6 := (HBx.out w4 HB4.out).2.2.1
  have y7 := (HBx.out w4 HB4.out).2.2.2
  have HDp := Lib.hid (HDp0.out w4 i HB4.out)
  rw [← HDz.out] at HDp
  go_wp2_with fail
  refine HDp.out.mono ?_
  rintro e w5 ⟨rfl, hb5⟩
  have HB5 := Lib.hid (HB0.out.trans ((HB4.out.trans (hb5.mono HB4.out.size)).mono HB0.out.size))
  clear hb5 HDp
  go_wp2
  go_ret2
  exact ⟨rfl, HB5.out⟩
/-- Depth of the reference for every chart and number. -/
theorem Rdepth_x (start : Int) (A : Option Addr) (c : Nat) (p : List RowC) (h12 : chartE start p = 0 → p.length ≤ 12) (i : Int) (w : World) (hs : SlC w w.heap.size A p) :
    Calls Tryz.prog 10 #[.agg #[.int .i64 start, .slice A p.length c], .int .i64 i] w fun e w' => DpPost (depS start p i).1 (depS start p i).2 w e w' := by
  by_cases he : chartE start p = 0
  · unfold depS
    rw [if_neg (by rw [he]; decide)]
    by_cases hi : i < ((workX start p).next : Int) ∨ ((workX start p).lp.length : Int) ≤ i
    · rw [if_pos hi]
      exact Rdepth_arg start A c p (h12 he) he i hi w hs
    · rw [if_neg hi]
      obtain ⟨n, rfl⟩ : ∃ n : Nat, i = (n : Int) := ⟨i.toNat, by omega⟩
      exact Rdepth_ok start A c p (h12 he) he n (by omega) (by omega) w hs
  · unfold depS
    rw [if_pos he]
    exact Rdepth_err start A c p he i w hs
end Go.Proofs.YtbibndpkcilblaaGreat
