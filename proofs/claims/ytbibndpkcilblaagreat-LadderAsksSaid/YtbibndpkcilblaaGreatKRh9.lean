/- Layer 28, the reference: Hangs. -/
import Derived.Test.YtbibndpkcilblaaGreatKRh8
namespace Go.Proofs.YtbibndpkcilblaaGreat
open Go.RowKit Go.Shelf Go.Sort
set_option maxRecDepth 100000

set_option maxHeartbeats 2000000 in
theorem Rhangs_err (start : Int) (A : Option Addr) (c : Nat) (p : List RowC) (he : chartE start p ≠ 0) (i : Int) (w : World) (hs : SlC w w.heap.size A p) :
    Calls Tryz.prog 6 #[.agg #[.int .i64 start, .slice A p.length c], .int .i64 i] w fun e w' => BoPost (chartE start p) [] w e w' := by
  have hF := rf_front start A c p w hs
  have c0 := hF.cb0
  have c1 := hF.cb1
  have HCk : Hid (∀ W, Below (w.alloc (.cells #[.int .i64 start, .slice A p.length c] 24)).heap.size (w.alloc (.cells #[.int .i64 start, .slice A p.length c] 24)) W → Calls Tryz.prog 17 #[.agg #[.int .i64 start, .slice A p.length c]] W fun e w' => RetE (chartE start p) W e w') := fun W hb => (hF.to hb).check
  have HF := Lib.hid hF
  obtain ⟨x, hx⟩ : ∃ x, x = chartE start p := ⟨_, rfl⟩
  rw [← hx] at HCk he ⊢
  have hne : (x != 0) = true := by simp [he]
  clear hF hs hx he
  go_enter Tryz.func6, Tryz.ntmps6
  go_wp2_with fail
  refine (HCk.out _ (Below.refl _ _)).mono ?_
  rintro e w2 ⟨rfl, hb2⟩
  have hF2 := HF.out.to hb2
  have c0' := hF2.cb0
  have c1' := hF2.cb1
  have HC2 := Lib.hid (HCk.out w2 hb2)
  have HB2 := Lib.hid hF2.bel
  clear hF2 hb2 c0 c1
  go_wp2_with fail
  refine HC2.out.mono ?_
  rintro e w3 ⟨rfl, hb3⟩
  have HB3 := Lib.hid (HB2.out.trans (hb3.mono HB2.out.size))
  clear hb3
  go_wp2
  go_ret2
  exact ⟨_, rfl, World.ownsRow_nil _ _ _ _, HB3.out⟩
set_option maxHeartbeats 4000000 in
theorem Rhangs_arg (start : Int) (A : Option Addr) (c : Nat) (p : List RowC) (h12 : p.length ≤ 12) (he : chartE start p = 0) (i : Int) (hi : i < 0 ∨ ((workX start p).lp.length : Int) ≤ i) (w : World) (hs : SlC w w.heap.size A p) :
    Calls Tryz.prog 6 #[.agg #[.int .i64 start, .slice A p.length c], .int .i64 i] w fun e w' => BoPost 2 [] w e w' := by
  have hF := rf_front start A c p w hs
  have c0 := hF.cb0
  have c1 := hF.cb1
  have hCk := hF.check
  rw [he] at hCk
  have HCk := Lib.hid hCk
  have HWk : Hid (∀ W, RfF start A c p w.heap.size w W → Calls Tryz.prog 18 #[.agg #[.int .i64 start, .slice A p.length c]] W fun e w' => RwkPost (workX start p) W e w') := fun W h => rwk_ch start A c p he h12 W h.sl
  obtain ⟨t, ht⟩ : ∃ t, t = workX start p := ⟨_, rfl⟩
  rw [← ht] at HWk hi
  have HI := Lib.hid hi
  have HF := Lib.hid hF
  obtain ⟨nr, hnr⟩ : ∃ nr, nr = t.rows.length := ⟨_, rfl⟩
  have HNe := Lib.hid hnr
  clear hF hs he ht hCk hnr hi
  go_enter Tryz.func6, Tryz.ntmps6
  go_wp2_with fail
  refine HCk.out.mono ?_
  rintro e w2 ⟨rfl, hb2⟩
  have hF2 := HF.out.to hb2
  have c0' := hF2.cb0
  have c1' := hF2.cb1
  have HW2 := Lib.hid (HWk.out w2 hF2)
  have HF2 := Lib.hid hF2
  clear hF2 hb2 c0 c1 HCk HF HWk
  go_upto_region 4 with (go_at_call 18; refine HW2.out.mono ?_; rintro e w3 ⟨a, b, x, r, ca, cb, cx, cr, rfl, hr, hb3⟩; have HB3 := Lib.hid (HF2.out.behind (x := x) (ca := ca) (cb' := cb) (cx := cx) (cr := cr) hr hb3); clear hr hb3)
  obtain ⟨qb, hqb⟩ : ∃ qb, qb = w3.heap.size := ⟨_, rfl⟩
  refine abs_world (Q := fun W => Code.wp _ _ _ _ W) (F := fun W => RwB qb a b x r ca cb cx nr cr t w W) _ (by rw [hqb, HNe.out]; exact HB3.out) ?_
  rw [← hqb, ← HNe.out]
  clear hqb HB3 HW2 c0' c1' HF2
  clear w3
  rintro W h
  have y0 := h.bx.c0
  have HB2 := Lib.hid h.bel
  clear h
  obtain ⟨M, hM⟩ : ∃ M, M = t.lp.length := ⟨_, rfl⟩
  rw [← hM] at y0 HI ⊢
  by_cases h0 : i < 0
  · have z1 : decide (i < 0) = true := decide_eq_true h0
    go_wp2
    go_ret2
    exact ⟨_, rfl, World.ownsRow_nil _ _ _ _, HB2.out⟩
  · have hMi : (M : Int) ≤ i := HI.out.resolve_left h0
    have z1 : decide (i < 0) = false := decide_eq_false h0
    have z2 : decide ((M : Int) ≤ i) = true := decide_eq_true hMi
    have z3 : decide (i ≥ (M : Int)) = true := decide_eq_true hMi
    go_wp2
    go_ret2
    exact ⟨_, rfl, World.ownsRow_nil _ _ _ _, HB2.out⟩
set_option maxHeartbeats 4000000 in
theorem Rhangs_ok (start : Int) (A : Option Addr) (c : Nat) (p : List RowC) (h12 : p.length ≤ 12) (he : chartE start p = 0) (i : Nat) (hi : i < (workX start p).lp.length) (w : World) (hs : SlC w w.heap.size A p) :
    Calls Tryz.prog 6 #[.agg #[.int .i64 start, .slice A p.length c], .int .i64 (i : Int)] w fun e w' => BoPost 0 (listN (workX start p).lp.length (hangF (workX start p).lp i)) w e w' := by
  have hF := rf_front start A c p w hs
  have c0 := hF.cb0
  have c1 := hF.cb1
  have hCk := hF.check
  rw [he] at hCk
  have HCk := Lib.hid hCk
  have HWk : Hid (∀ W, RfF start A c p w.heap.size w W → Calls Tryz.prog 18 #[.agg #[.int .i64 start, .slice A p.length c]] W fun e w' => RwkPost (workX start p) W e w') := fun W h => rwk_ch start A c p he h12 W h.sl
  have hG := chart_grd he h12
  obtain ⟨t, ht⟩ : ∃ t, t = workX start p := ⟨_, rfl⟩
  rw [← ht] at HWk hi hG ⊢
  have HG := Lib.hid hG
  have HI := Lib.hid hi
  have HF := Lib.hid hF
  obtain ⟨nr, hnr⟩ : ∃ nr, nr = t.rows.length := ⟨_, rfl⟩
  have HNe := Lib.hid hnr
  obtain ⟨M, hM⟩ : ∃ M, M = t.lp.length := ⟨_, rfl⟩
  have HMe := Lib.hid hM
  clear hF hs he hG ht hCk hnr hM hi
  go_enter Tryz.func6, Tryz.ntmps6
  go_wp2_with fail
  refine HCk.out.mono ?_
  rintro e w2 ⟨rfl, hb2⟩
  have hF2 := HF.out.to hb2
  have c0' := hF2.cb0
  have c1' := hF2.cb1
  have HW2 := Lib.hid (HWk.out w2 hF2)
  have HF2 := Lib.hid hF2
  clear hF2 hb2 c0 c1 HCk HF HWk
  go_upto_region 4 with (go_at_call 18; refine HW2.out.mono ?_; rintro e w3 ⟨a, b, x, r, ca, cb, cx, cr, rfl, hr, hb3⟩; have HB3 := Lib.hid (HF2.out.behind (x := x) (ca := ca) (cb' := cb) (cx := cx) (cr := cr) hr hb3); clear hr hb3)
  obtain ⟨qb, hqb⟩ : ∃ qb, qb = w3.heap.size := ⟨_, rfl⟩
  refine abs_world (Q := fun W => Code.wp _ _ _ _ W) (F := fun W => RwB qb a b x r ca cb cx nr cr t w W) _ (by rw [hqb, HNe.out]; exact HB3.out) ?_
  rw [← hqb, ← HNe.out]
  clear hqb HB3 HW2 c0' c1' HF2
  clear w3
  rintro W h
  have HHa := Lib.hid (rhanging_any a b x r ca t.bound.length cb t.cross.length cx nr cr p.length t.next t.lp t.bound (grd_n HG.out.g) HG.out.ll t.bound t.rows i HI.out W h.bx.at_)
  have HL := Lib.hid h
  have y0 := h.bx.c0
  have y1 := h.bx.c1
  have y2 := h.bx.c2
  have y3 := h.bx.c3
  clear h
  have hMi := HI.out
  have hM26 : M ≤ 2600 := by rw [HMe.out]; exact HG.out.ll
  rw [← HMe.out] at y0 hMi HHa ⊢
  have z1 : decide ((i : Int) < 0) = false := decide_eq_false (by omega)
  have z2 : decide ((M : Int) ≤ (i : Int)) = false := decide_eq_false (by omega)
  have z3 : decide ((i : Int) ≥ (M : Int)) = false := decide_eq_false (by omega)
  have z4 : decide (M ≤ i) = false := decide_eq_false (by omega)
  go_wp2_with fail
  refine HHa.out.mono ?_
  rintro e w5 ⟨g, rfl, hm, hb5⟩
  have HLi := Lib.hid (rlist_any g M hM26 (hangF t.lp i) w5 (pxF_at hm).1)
  have HB5 := Lib.hid (HL.out.bel.trans (hb5.mono HL.out.bel.size))
  clear hm hb5 y0 y1 y2 y3 HHa
  go_wp2_with fail
  refine HLi.out.mono ?_
  rintro e w6 ⟨v, rfl, ho, hb6⟩
  have HQ := Lib.hid (And.intro (own_more ho HB5.out.size) (HB5.out.trans (hb6.mono HB5.out.size)))
  clear ho hb6 HLi
  go_wp2
  go_ret2
  refine ⟨_, rfl, ?_, HQ.out.2⟩
  first | exact HQ.out.1 | (rw [HMe.out] at HQ; exact HQ.out.1) | (rw [← HMe.out]; exact HQ.out.1)
/-- Hangs of the reference for every chart and number. -/
theorem Rhangs_x (start : Int) (A : Option Addr) (c : Nat) (p : List RowC) (h12 : chartE start p = 0 → p.length ≤ 12) (i : Int) (w : World) (hs : SlC w w.heap.size A p) :
    Calls Tryz.prog 6 #[.agg #[.int .i64 start, .slice A p.length c], .int .i64 i] w fun e w' => BoPost (hangS start p i).1 (hangS start p i).2 w e w' := by
  by_cases he : chartE start p = 0
  · unfold hangS
    rw [if_neg (by rw [he]; decide)]
    by_cases hi : i < 0 ∨ ((workX start p).lp.length : Int) ≤ i
    · rw [if_pos hi]
      exact Rhangs_arg start A c p (h12 he) he i hi w hs
    · rw [if_neg hi]
      obtain ⟨n, rfl⟩ : ∃ n : Nat, i = (n : Int) := ⟨i.toNat, by omega⟩
      exact Rhangs_ok start A c p (h12 he) he n (by omega) w hs
  · unfold hangS
    rw [if_pos he]
    exact Rhangs_err start A c p he i w hs
end Go.Proofs.YtbibndpkcilblaaGreat
