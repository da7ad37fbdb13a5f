/- Layer 28, the reference: Safe. -/
import Derived.Test.YtbibndpkcilblaaGreatKRd9
namespace Go.Proofs.YtbibndpkcilblaaGreat
open Go.RowKit Go.Shelf Go.Sort
set_option maxRecDepth 100000

set_option maxHeartbeats 2000000 in
theorem Rsafe_err (start : Int) (A : Option Addr) (c : Nat) (p : List RowC) (he : chartE start p ≠ 0) (rows : Int) (w : World) (hs : SlC w w.heap.size A p) :
    Calls Tryz.prog 12 #[.agg #[.int .i64 start, .slice A p.length c], .int .i64 rows] w fun e w' => BoPost (chartE start p) [] w e w' := by
  have hF := rf_front start A c p w hs
  have c0 := hF.cb0
  have c1 := hF.cb1
  have HCk : Hid (∀ W, Below (w.alloc (.cells #[.int .i64 start, .slice A p.length c] 24)).heap.size (w.alloc (.cells #[.int .i64 start, .slice A p.length c] 24)) W → Calls Tryz.prog 17 #[.agg #[.int .i64 start, .slice A p.length c]] W fun e w' => RetE (chartE start p) W e w') := fun W hb => (hF.to hb).check
  have HF := Lib.hid hF
  obtain ⟨x, hx⟩ : ∃ x, x = chartE start p := ⟨_, rfl⟩
  rw [← hx] at HCk he ⊢
  have hne : (x != 0) = true := by simp [he]
  clear hF hs hx he
  go_enter Tryz.func12, Tryz.ntmps12
  go_wp2_with fail
  refine (HCk.out _ (Below.refl _ _)).mono ?_
  rintro e w2 ⟨rfl, hb2⟩
  have hF2 := HF.out.to hb2
  have c0' := hF2.cb0
  have c1' := hF2.cb1
  have HC2 := Lib.hid (HCk.out w2 hb2)
  have HB2 := Lib.hid hF2.bel
  clear hF2 hb2 c0 c1
  go_wp2_with fail
  refine HC2.out.mono ?_
  rintro e w3 ⟨rfl, hb3⟩
  have HB3 := Lib.hid (HB2.out.trans (hb3.mono HB2.out.size))
  clear hb3
  go_wp2
  go_ret2
  exact ⟨_, rfl, World.ownsRow_nil _ _ _ _, HB3.out⟩
set_option maxHeartbeats 8000000 in
theorem Rsafe_ok (start : Int) (A : Option Addr) (c : Nat) (p : List RowC) (h12 : p.length ≤ 12) (he : chartE start p = 0) (rows : Int) (w : World) (hs : SlC w w.heap.size A p) :
    Calls Tryz.prog 12 #[.agg #[.int .i64 start, .slice A p.length c], .int .i64 rows] w fun e w' => BoPost 0 (listN (workX start p).lp.length (safeF (workX start p) rows)) w e w' := by
  have hF := rf_front start A c p w hs
  have c0 := hF.cb0
  have c1 := hF.cb1
  have hCk := hF.check
  rw [he] at hCk
  have HCk := Lib.hid hCk
  have HWk : Hid (∀ W, RfF start A c p w.heap.size w W → Calls Tryz.prog 18 #[.agg #[.int .i64 start, .slice A p.length c]] W fun e w' => RwkPost (workX start p) W e w') := fun W h => rwk_ch start A c p he h12 W h.sl
  have hG := chart_grd he h12
  have hrl := rows_len he h12
  obtain ⟨t, ht⟩ : ∃ t, t = workX start p := ⟨_, rfl⟩
  rw [← ht] at HWk hG hrl ⊢
  have HG := Lib.hid hG
  have HF := Lib.hid hF
  obtain ⟨nr, hnr⟩ : ∃ nr, nr = t.rows.length := ⟨_, rfl⟩
  have HNe := Lib.hid hnr
  have HNr : Hid (nr = p.length + 2) := hnr.trans hrl
  have H12 := Lib.hid h12
  obtain ⟨M, hM⟩ : ∃ M, M = t.lp.length := ⟨_, rfl⟩
  have HMe := Lib.hid hM
  obtain ⟨lv, hlv⟩ : ∃ lv, lv = t.next := ⟨_, rfl⟩
  have HLe := Lib.hid hlv
  clear hF hs he hG ht hCk hnr hM hlv h12 hrl 
  go_enter Tryz.func12, Tryz.ntmps12
  go_wp2_with fail
  refine HCk.out.mono ?_
  rintro e w2 ⟨rfl, hb2⟩
  have hF2 := HF.out.to hb2
  have c0' := hF2.cb0
  have c1' := hF2.cb1
  have HW2 := Lib.hid (HWk.out w2 hF2)
  have HF2 := Lib.hid hF2
  clear hF2 hb2 c0 c1 HCk HF HWk
  go_upto_region 4 with (go_at_call 18; refine HW2.out.mono ?_; rintro e w3 ⟨a, b, x, r, ca, cb, cx, cr, rfl, hr, hb3⟩; have HB3 := Lib.hid (HF2.out.behind (x := x) (ca := ca) (cb' := cb) (cx := cx) (cr := cr) hr hb3); clear hr hb3)
  obtain ⟨qb, hqb⟩ : ∃ qb, qb = w3.heap.size := ⟨_, rfl⟩
  refine abs_world (Q := fun W => Code.wp _ _ _ _ W) (F := fun W => RwB qb a b x r ca cb cx nr cr t w W) _ (by rw [hqb, HNe.out]; exact HB3.out) ?_
  rw [← hqb, ← HNe.out]
  clear hqb HB3 HW2 c0' c1' HF2
  clear w3
  rintro W h
  have HTo : Hid (∀ W', Below W.heap.size W W' → RwB qb a b x r ca cb cx nr cr t w W') := fun W' hb => h.to hb
  have HB0 := Lib.hid h.bel
  obtain ⟨nb, hnb⟩ : ∃ nb, nb = t.bound.length := ⟨_, rfl⟩
  obtain ⟨nx, hnx⟩ : ∃ nx, nx = t.cross.length := ⟨_, rfl⟩
  have HLv0 : Hid (∀ W', Below W.heap.size W W' → Calls Tryz.prog 24 #[rcV a b x r M ca nb cb nx cx nr cr] W' fun e w' => e = .returned (.int .i64 (lv : Int)) ∧ Below W'.heap.size W' w') := fun W' hb => by
    have h1 := rlive_any a b x r t.lp.length ca t.bound.length cb t.cross.length cx cr p.length (by have := H12.out; omega) (t.next : Int) t.lp t.bound t.rows HG.out.g.lv_ W' (HTo.out W' hb).bx.at_
    rw [← HNr.out, ← HMe.out, ← HLe.out, ← hnb, ← hnx] at h1
    exact h1
  have HDp0 : Hid (∀ W' (j : Nat), Below W.heap.size W W' → Calls Tryz.prog 27 #[rcV a b x r M ca nb cb nx cx nr cr, .int .i64 (j : Int)] W' fun e w' => RetE (depZ t.lp j) W' e w') := fun W' j hb => by
    have h1 := rdeep_any a b x r ca t.bound.length cb t.cross.length cx nr cr p.length t.next t.lp t.bound (grd_n HG.out.g) HG.out.ll t.bound t.rows j W' (HTo.out W' hb).bx.at_
    rw [← HMe.out, ← hnb, ← hnx] at h1
    exact h1
  have HBx : Hid (∀ W', Below W.heap.size W W' → W'.cell? ⟨qb, 0, none⟩ = some (.slice a M ca) ∧ W'.cell? ⟨qb, 1, none⟩ = some (.slice b nb cb) ∧ W'.cell? ⟨qb, 2, none⟩ = some (.slice x nx cx) ∧ W'.cell? ⟨qb, 3, none⟩ = some (.slice r nr cr)) := fun W' hb => by
    have h1 := (HTo.out W' hb).bx
    rw [hnb, hnx, HMe.out]
    exact ⟨h1.c0, h1.c1, h1.c2, h1.c3⟩
  have hM26 : M ≤ 2600 := by rw [HMe.out]; exact HG.out.ll
  have hlM : lv ≤ M := by have := HG.out.g.le; have := HMe.out; have := HLe.out; omega
  clear h hnb hnx HTo
  have HX0 : Hid (Owns W W.heap.size [pxJ (.slice none 0 0) (listN lv (safeF t rows))] ∧ Below W.heap.size W W) := by
    rw [listN_none (fun i hi => by unfold safeF; rw [decide_eq_false (by have := HLe.out; omega)]; rfl)]
    exact ⟨Owns.nil.none 3 1, Below.refl _ _⟩
  have HN0 : Hid (0 = (listN lv (safeF t rows)).length) := by
    rw [listN_none (fun i hi => by unfold safeF; rw [decide_eq_false (by have := HLe.out; omega)]; rfl)]
    rfl
  have y0 := (HBx.out W (Below.refl _ _)).1
  have y1 := (HBx.out W (Below.refl _ _)).2.1
  have y2 := (HBx.out W (Below.refl _ _)).2.2.1
  have y3 := (HBx.out W (Below.refl _ _)).2.2.2
  have HLv := Lib.hid (HLv0.out W (Below.refl _ _))
  rw [← HMe.out]
  go_upto_region 6 with (go_at_call 24; refine HLv.out.mono ?_; rintro e w4 ⟨rfl, hb4⟩)
  have HX1 : Hid (Owns w4 W.heap.size [pxJ (.slice none 0 0) (listN lv (safeF t rows))] ∧ Below W.heap.size W w4) := ⟨HX0.out.1.to hb4, hb4⟩
  clear hb4 y0 y1 y2 y3 HLv HX0 HLv0
  go_loopw [7, 8] (fun s7 s8 wr => ∃ (j : Nat) (A : Option Addr) (q c : Nat), lv ≤ j ∧ j ≤ M ∧ s8 = .int .i64 (j : Int) ∧ s7 = .slice A q c ∧ Hid (q = (listN j (safeF t rows)).length) ∧ Hid (Owns wr W.heap.size [pxJ (.slice A q c) (listN j (safeF t rows))] ∧ Below W.heap.size W wr)) (fun _ s8 _ => M - (intOf s8).toNat)
  case atStart => exact ⟨lv, none, 0, 0, Nat.le_refl _, hlM, rfl, rfl, HN0.out, HX1.out⟩
  case round =>
    obtain ⟨j, A2, q, c2, hj0, hj, rfl, rfl, Hq, HX⟩ := hrel
    clear HX1 HN0
    have hbx := HBx.out wr HX.out.2
    have y0 := hbx.1
    have y1 := hbx.2.1
    have y2 := hbx.2.2.1
    have y3 := hbx.2.2.2
    clear hbx
    by_cases hlt : j < M
    case neg =>
      have hjm : j = M := by omega
      have hX := HX.out
      rw [hjm] at hX
      have HQ : Hid (BoPost 0 (listN M (safeF t rows)) w (.returned (.tuple #[.slice A2 q c2, .int .i64 0])) wr) := ⟨_, rfl, own_more hX.1.head HB0.out.size, HB0.out.trans (hX.2.mono HB0.out.size)⟩
      have hlt2 : ¬ (j : Int) < (M : Int) := by omega
      clear hX HX Hq hjm
      go_wp2
      go_ret2
      first | exact HQ.out | (have h9 := HQ.out; rw [HMe.out] at h9; exact h9)
    case pos =>
      have HD := Lib.hid (HDp0.out wr j HX.out.2)
      have HZ : Hid (safeF t rows j = decide (depZ t.lp j ≤ rows)) := by
        show _ = _
        unfold safeF
        rw [decide_eq_true (by have := HLe.out; omega), Bool.true_and]
      obtain ⟨dz, hdz⟩ : ∃ dz, dz = depZ t.lp j := ⟨_, rfl⟩
      rw [← hdz] at HD HZ
      obtain ⟨z, hz⟩ : ∃ z, z = decide (dz ≤ rows) := ⟨_, rfl⟩
      rw [← hz] at HZ
      have z1 : decide (dz ≤ rows) = z := hz.symm
      have hlt2 : (j : Int) < (M : Int) := by omega
      have HJ : Hid (lv ≤ j + 1 ∧ j + 1 ≤ M ∧ j < M) := ⟨by omega, hlt, hlt⟩
      clear hdz hz
      cases z with
      | false =>
        have HQ : Hid (q = (listN (j + 1) (safeF t rows)).length ∧ (Owns wr W.heap.size [pxJ (.slice A2 q c2) (listN (j + 1) (safeF t rows))] ∧ Below W.heap.size W wr)) := by
          rw [listN_no HZ.out]
          exact ⟨Hq.out, HX.out⟩
        clear HX Hq
        go_wp2_with (go_at_call 27; refine HD.out.mono ?_; rintro e w' ⟨rfl, hb'⟩)
        have HQ2 := Lib.hid (And.intro (HQ.out.2.1.to hb') (HQ.out.2.2.trans (hb'.mono HQ.out.2.2.size)))
        clear hb'
        go_roundw
        case rel => exact ⟨j + 1, _, _, _, HJ.out.1, HJ.out.2.1, by go_num, rfl, HQ.out.1, HQ2.out⟩
        case measure => simp [intOf]; have := HJ.out; omega
      | true =>
        go_upto_region 9 with (go_at_call 27; refine HD.out.mono ?_; rintro e w' ⟨rfl, hb'⟩)
        have HX2 := Lib.hid (And.intro (HX.out.1.to hb') (HX.out.2.trans (hb'.mono HX.out.2.size)))
        obtain ⟨A3, c3, w8, hr9, h8, hb8⟩ := pxJ_app (a := A2) (c := c2) (l := listN j (safeF t rows)) (by rw [← Hq.out]; exact HX2.out.1) HX2.out.2.size (by have := listN_len j (safeF t rows); omega) (j : Int)
        rw [← Hq.out] at hr9 h8
        have HQ : Hid (q + 1 = (listN (j + 1) (safeF t rows)).length ∧ (Owns w8 W.heap.size [pxJ (.slice A3 (q + 1) c3) (listN (j + 1) (safeF t rows))] ∧ Below W.heap.size W w8)) := by
          rw [listN_yes HZ.out]
          exact ⟨by rw [List.length_append, ← Hq.out]; rfl, h8, HX2.out.2.trans hb8⟩
        clear HX HX2 Hq h8 hb8 hb' y0 y1 y2 y3
        go_wp2_with (at_builtin; refine wpList_append_run _ rfl _ _ _ _ rfl _ _ (by rfl) (by rfl) hr9 ?_)
        go_roundw
        case rel => exact ⟨j + 1, _, _, _, HJ.out.1, HJ.out.2.1, by go_num, rfl, HQ.out.1, HQ.out.2⟩
        case measure => simp [intOf]; have := HJ.out; omega
/-- Safe of the reference for every chart. -/
theorem Rsafe_x (start : Int) (A : Option Addr) (c : Nat) (p : List RowC) (h12 : chartE start p = 0 → p.length ≤ 12) (rows : Int) (w : World) (hs : SlC w w.heap.size A p) :
    Calls Tryz.prog 12 #[.agg #[.int .i64 start, .slice A p.length c], .int .i64 rows] w fun e w' => BoPost (safeS start p rows).1 (safeS start p rows).2 w e w' := by
  unfold safeS
  by_cases he : chartE start p = 0
  · rw [if_neg (by rw [he]; decide)]
    exact Rsafe_ok start A c p (h12 he) he rows w hs
  · rw [if_pos he]
    exact Rsafe_err start A c p he rows w hs
end Go.Proofs.YtbibndpkcilblaaGreat
