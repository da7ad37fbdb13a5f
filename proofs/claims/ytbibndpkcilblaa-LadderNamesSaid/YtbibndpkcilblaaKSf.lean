/- Layer 28, the program: Safe. -/
import Derived.Test.YtbibndpkcilblaaKDp
namespace Go.Proofs.Ytbibndpkcilblaa
open Go.RowKit Go.Shelf Go.Sort
set_option maxRecDepth 100000

/-- The live loops of a small depth, as marks. -/
def safeF (t : Pw) (rows : Int) : Nat → Bool := fun i => decide (t.next ≤ i) && decide (depZ t.lp i ≤ rows)
/-- What Safe answers: the error, the list. -/
def safeS (start : Int) (p : List RowC) (rows : Int) : Int × List Int :=
  if chartE start p ≠ 0 then (chartE start p, []) else (0, listN (workX start p).lp.length (safeF (workX start p) rows))
theorem listN_none {M : Nat} {F : Nat → Bool} (h : ∀ i, i < M → F i = false) : listN M F = [] := by
  apply List.eq_nil_iff_forall_not_mem.2
  intro x hx
  obtain ⟨i, hi, -, hr⟩ := listN_mem.1 hx
  rw [h i hi] at hr
  cases hr
set_option maxHeartbeats 2000000 in
theorem Safe_err (start : Int) (A : Option Addr) (c : Nat) (p : List RowC) (hw : RowsWf p) (he : chartE start p ≠ 0) (rows : Int) (w : World) (hs : SlC w w.heap.size A p) :
    Calls Try.prog 24 #[.agg #[.int .i64 start, .slice A p.length c], .int .i64 rows] w fun e w' => BoPost (chartE start p) [] w e w' := by
  have hF := lf_front start A c p hw (fun h => absurd h he) w hs
  have c0 := hF.cb0
  have c1 := hF.cb1
  have HC := Lib.hid (hF.err he)
  have HB0 := Lib.hid hF.bel
  obtain ⟨x, hx⟩ : ∃ x, x = chartE start p := ⟨_, rfl⟩
  rw [← hx] at HC he ⊢
  have hne : (x != 0) = true := by simp [he]
  clear hF hs hw hx he
  go_enter Try.func24, Try.ntmps24
  go_wp2_with (go_at_call 30; refine HC.out.mono ?_; rintro e w2 ⟨rfl, hb⟩; have HB := Lib.hid (HB0.out.trans ((hb.trans ((al_t w2 (.cells #[nilV, nilV, nilV, .int .i64 0] 63)).mono hb.size)).mono HB0.out.size)); clear hb)
  go_ret2
  exact ⟨_, rfl, World.ownsRow_nil _ _ _ _, HB.out⟩
set_option maxHeartbeats 8000000 in
theorem Safe_ok (start : Int) (A : Option Addr) (c : Nat) (p : List RowC) (hw : RowsWf p) (h12 : p.length ≤ 12) (he : chartE start p = 0) (rows : Int) (w : World) (hs : SlC w w.heap.size A p) :
    Calls Try.prog 24 #[.agg #[.int .i64 start, .slice A p.length c], .int .i64 rows] w fun e w' => BoPost 0 (listN (workX start p).lp.length (safeF (workX start p) rows)) w e w' := by
  have hF := lf_front start A c p hw (fun _ => h12) w hs
  have c0 := hF.cb0
  have c1 := hF.cb1
  have hC := hF.ok he
  have HG := Lib.hid (chart_grd he h12)
  have H12 := Lib.hid h12
  have HF := Lib.hid hF
  obtain ⟨t, ht⟩ : ∃ t, t = workX start p := ⟨_, rfl⟩
  rw [← ht] at hC HG ⊢
  have HC := Lib.hid hC
  obtain ⟨M, hM⟩ : ∃ M, M = t.lp.length := ⟨_, rfl⟩
  have HMe := Lib.hid hM
  obtain ⟨lv, hlv⟩ : ∃ lv, lv = t.next := ⟨_, rfl⟩
  have HLv := Lib.hid hlv
  clear hF hs hw he hC ht hM hlv
  go_enter Try.func24, Try.ntmps24
  go_upto_region 2 with (go_at_call 30; refine HC.out.mono ?_; rintro e w2 ⟨a, ca, k, kc, b, bc, rfl, hp, hb⟩; have HB := Lib.hid (HF.out.behind (ca := ca) (kc := kc) (bc := bc) hp hb); clear hp hb)
  obtain ⟨qb, hqb⟩ : ∃ qb, qb = w2.heap.size := ⟨_, rfl⟩
  refine abs_world (Q := fun W => Code.wp _ _ _ _ W) (F := fun W => LdB qb a k b ca kc bc t w W) _ (by rw [hqb]; exact HB.out) ?_
  rw [← hqb]
  clear hqb HB HC c0 c1
  clear w2
  rintro W h
  have y3 := h.c3
  rw [← HMe.out, ← HLv.out]
  rw [← HLv.out] at y3
  have hlM : lv ≤ M := by have := HG.out.g.le; have := HMe.out; have := HLv.out; omega
  have hM2 : M ≤ 2600 := by have := HG.out.ll; have := HMe.out; omega
  have HL := Lib.hid h
  have HX0 : Hid (Owns W W.heap.size [pxJ (.slice none 0 0) (listN lv (safeF t rows))] ∧ Below W.heap.size W W) := by
    rw [listN_none (fun i hi => by unfold safeF; rw [decide_eq_false (by have := HLv.out; omega)]; rfl)]
    exact ⟨Owns.nil.none 3 1, Below.refl _ _⟩
  have HN0 : Hid (0 = (listN lv (safeF t rows)).length) := by
    rw [listN_none (fun i hi => by unfold safeF; rw [decide_eq_false (by have := HLv.out; omega)]; rfl)]
    rfl
  clear h
  go_wp2
  clear y3
  go_loopw [8, 9] (fun s8 s9 wr => ∃ (j : Nat) (A : Option Addr) (q c : Nat), lv ≤ j ∧ j ≤ M ∧ s9 = .int .i64 (j : Int) ∧ s8 = .slice A q c ∧ Hid (q = (listN j (safeF t rows)).length) ∧ Hid (Owns wr W.heap.size [pxJ (.slice A q c) (listN j (safeF t rows))] ∧ Below W.heap.size W wr)) (fun _ s9 _ => M - (intOf s9).toNat)
  case atStart => exact ⟨lv, none, 0, 0, Nat.le_refl _, hlM, rfl, rfl, HN0.out, HX0.out⟩
  case round =>
    obtain ⟨j, A2, q, c2, hj0, hj, rfl, rfl, Hq, HX⟩ := hrel
    clear HX0 HN0
    have hl2 := HL.out.to HX.out.2
    have y0 := hl2.c0
    have y1 := hl2.c1
    have y2 := hl2.c2
    have y3 := hl2.c3
    have HH := Lib.hid (fun hj hlv => pdepth_any t p.length (grd_n HG.out.g) HG.out.ll H12.out a k b ca kc bc j hj hlv wr hl2.pc)
    rw [← HMe.out, ← HLv.out] at HH
    rw [← HMe.out] at y0 y1
    rw [← HLv.out] at y3
    clear hl2
    by_cases hlt : j < M
    case neg =>
      have hjm : j = M := by omega
      have hX := HX.out
      rw [hjm, HMe.out] at hX
      have HQ : Hid (BoPost 0 (listN t.lp.length (safeF t rows)) w (.returned (.tuple #[.slice A2 q c2, .int .i64 0])) wr) := ⟨_, rfl, own_more hX.1.head HL.out.bel.size, HL.out.bel.trans (hX.2.mono HL.out.bel.size)⟩
      subst hjm
      have hlt2 : ¬ (j : Int) < (j : Int) := by omega
      clear hX HX Hq HH
      go_wp2
      go_ret2
      exact HQ.out
    case pos =>
      have HD := Lib.hid (HH.out hlt hj0)
      have HZ : Hid (safeF t rows j = decide (depZ t.lp j ≤ rows)) := by
        show _ = _
        unfold safeF
        rw [decide_eq_true (by have := HLv.out; omega), Bool.true_and]
      obtain ⟨dz, hdz⟩ : ∃ dz, dz = depZ t.lp j := ⟨_, rfl⟩
      rw [← hdz] at HD HZ
      obtain ⟨z, hz⟩ : ∃ z, z = decide (dz ≤ rows) := ⟨_, rfl⟩
      rw [← hz] at HZ
      have z1 : decide (dz ≤ rows) = z := hz.symm
      have hlt2 : (j : Int) < (M : Int) := by omega
      have HJ : Hid (lv ≤ j + 1 ∧ j + 1 ≤ M ∧ j < M) := ⟨by omega, hlt, hlt⟩
      clear hdz hz HH
      cases z with
      | false =>
        have HQ : Hid (q = (listN (j + 1) (safeF t rows)).length ∧ (Owns wr W.heap.size [pxJ (.slice A2 q c2) (listN (j + 1) (safeF t rows))] ∧ Below W.heap.size W wr)) := by
          rw [listN_no HZ.out]
          exact ⟨Hq.out, HX.out⟩
        clear HX Hq
        go_wp2_with (go_at_call 49; refine HD.out.mono ?_; rintro e w' ⟨rfl, hb'⟩)
        have HQ2 := Lib.hid (And.intro (HQ.out.2.1.to hb') (HQ.out.2.2.trans (hb'.mono HQ.out.2.2.size)))
        clear hb'
        go_roundw
        case rel => exact ⟨j + 1, _, _, _, HJ.out.1, HJ.out.2.1, by go_num, rfl, HQ.out.1, HQ2.out⟩
        case measure => simp [intOf]; have := HJ.out; omega
      | true =>
        go_upto_region 9 with (go_at_call 49; refine HD.out.mono ?_; rintro e w' ⟨rfl, hb'⟩)
        have HX2 := Lib.hid (And.intro (HX.out.1.to hb') (HX.out.2.trans (hb'.mono HX.out.2.size)))
        obtain ⟨A3, c3, w8, hr9, h8, hb8⟩ := pxJ_app (a := A2) (c := c2) (l := listN j (safeF t rows)) (by rw [← Hq.out]; exact HX2.out.1) HX2.out.2.size (by have := listN_len j (safeF t rows); omega) (j : Int)
        rw [← Hq.out] at hr9 h8
        have HQ : Hid (q + 1 = (listN (j + 1) (safeF t rows)).length ∧ (Owns w8 W.heap.size [pxJ (.slice A3 (q + 1) c3) (listN (j + 1) (safeF t rows))] ∧ Below W.heap.size W w8)) := by
          rw [listN_yes HZ.out]
          exact ⟨by rw [List.length_append, ← Hq.out]; rfl, h8, HX2.out.2.trans hb8⟩
        clear HX HX2 Hq h8 hb8 hb' y0 y1 y2 y3
        go_wp2_with (at_builtin; refine wpList_append_run _ rfl _ _ _ _ rfl _ _ (by rfl) (by rfl) hr9 ?_)
        go_roundw
        case rel => exact ⟨j + 1, _, _, _, HJ.out.1, HJ.out.2.1, by go_num, rfl, HQ.out.1, HQ.out.2⟩
        case measure => simp [intOf]; have := HJ.out; omega
theorem Safe_x (start : Int) (A : Option Addr) (c : Nat) (p : List RowC) (hw : RowsWf p) (h12 : chartE start p = 0 → p.length ≤ 12) (rows : Int) (w : World) (hs : SlC w w.heap.size A p) :
    Calls Try.prog 24 #[.agg #[.int .i64 start, .slice A p.length c], .int .i64 rows] w fun e w' => BoPost (safeS start p rows).1 (safeS start p rows).2 w e w' := by
  unfold safeS
  by_cases he : chartE start p = 0
  · rw [if_neg (by rw [he]; decide)]
    exact Safe_ok start A c p hw (h12 he) he rows w hs
  · rw [if_pos he]
    exact Safe_err start A c p hw he rows w hs
end Go.Proofs.Ytbibndpkcilblaa
