/- BedBack, walked: there and back changes nothing. -/
import Derived.Test.YtjoglkamhjcmhaaKBackP
namespace Go.Proofs.Ytjoglkamhjcmhaa
open Go.RowKit Go.Shelf Go.Sort
set_option maxRecDepth 100000

/-- The law's box. -/
structure VlS (w : World) (s : BedS) (p : BedP) (W : World) : Prop where
  st : Bx W w.heap.size s p
  lo : Below w.heap.size w W
theorem VlS.to {w W W' : World} {s : BedS} {p : BedP} (h : VlS w s p W) (hb : Below W.heap.size W W') : VlS w s p W' := ⟨h.st.to hb, h.lo.trans (hb.mono h.lo.size)⟩
theorem VlS.new {w : World} {s : BedS} {p : BedP} (hs : BedAt w w.heap.size p s) : VlS w s p (w.alloc (bedBox s p)) := ⟨Bx.new hs, (Below.refl _ w).alloc (Nat.le_refl _) _⟩
structure VlT (w : World) (s : BedS) (p : BedP) (b : Nat) (t : BedS) (q : BedP) (W : World) : Prop where
  a : VlS w s p W
  st : Bx W b t q
theorem VlT.to {w W W' : World} {s t : BedS} {p q : BedP} {b : Nat} (h : VlT w s p b t q W) (hb : Below W.heap.size W W') : VlT w s p b t q W' := ⟨h.a.to hb, h.st.to hb⟩
set_option maxHeartbeats 16000000 in
theorem back_out (s : BedS) (p : BedP) (hwf : s.wf) (b n : Int) (ho : greatB s = true ∨ bedE s ≠ 0 ∨ 1 < b ∨ n < -100 ∨ 100 < n) (w : World) (hs : BedAt w w.heap.size p s) :
    Calls Try.prog 9 #[s.val p, .int .u8 b, .int .i64 n] w fun e w' => e = .returned (.bool true) ∧ Below w.heap.size w w' := by
  have HG := Lib.hid (fun w => rgreat_bed s p w)
  have HA := Lib.hid (fun w => alive_any w)
  have HV0 := Lib.hid (VlS.new hs)
  have al : ∀ (W : World) (o : Obj), Below W.heap.size W (W.alloc o) := fun W o => (Below.refl _ W).alloc (Nat.le_refl _) o
  have HAl := Lib.hid al
  clear al
  have HC : Hid (∀ W, greatB s = false → VlS w s p W → Calls Try.prog 23 #[s.val p] W fun e w' => e = .returned (.int .i64 (bedE s)) ∧ Below W.heap.size W w') := fun W hg hv => by
    have hn := great_len hg
    exact rbcheck_any s p hwf ⟨by omega, by omega, by omega⟩ W hv.st.state
  unfold BedS.val at HG HC ⊢
  cases hg : greatB s with
  | true =>
    rw [hg] at HG
    clear hs hg ho
    go_enter Try.func9, Try.ntmps9
    go_wp2_with fail
    refine (HA.out _).mono ?_
    rintro e w1 ⟨rfl, hb1⟩
    have HV1 := Lib.hid (HV0.out.to hb1)
    obtain ⟨c0, c1, c2, c3⟩ := HV1.out.st.cells
    clear hb1
    go_wp2_with fail
    refine (HG.out _).mono ?_
    rintro e w2 ⟨rfl, hb2⟩
    have HV2 := Lib.hid (HV1.out.to hb2)
    clear hb2 c0 c1 c2 c3
    go_wp2
    go_ret
    exact ⟨rfl, HV2.out.lo⟩
  | false =>
    rw [hg] at HG
    replace HC := Lib.hid (fun W hv => HC.out W hg hv)
    by_cases he : bedE s = 0
    case neg =>
      have e1 : (bedE s == 0) = false := by simp [he]
      have e2 : (bedE s != 0) = true := by simp [he]
      generalize bedE s = x at HC e1 e2
      clear hs hg ho he
      go_enter Try.func9, Try.ntmps9
      go_wp2_with fail
      refine (HA.out _).mono ?_
      rintro e w1 ⟨rfl, hb1⟩
      have HV1 := Lib.hid (HV0.out.to hb1)
      obtain ⟨c0, c1, c2, c3⟩ := HV1.out.st.cells
      clear hb1
      go_wp2_with fail
      refine (HG.out _).mono ?_
      rintro e w2 ⟨rfl, hb2⟩
      have HV2 := Lib.hid (HV1.out.to hb2)
      clear hb2 c0 c1 c2 c3
      obtain ⟨c0, c1, c2, c3⟩ := HV2.out.st.cells
      go_wp2_with fail
      refine (HC.out _ HV2.out).mono ?_
      rintro e w3 ⟨rfl, hb3⟩
      have HV3 := Lib.hid (HV2.out.to hb3)
      clear hb3 c0 c1 c2 c3
      go_wp2
      go_ret
      exact ⟨rfl, HV3.out.lo⟩
    case pos =>
      rw [he] at HC
      have ho' : 1 < b ∨ n < -100 ∨ 100 < n := by
        rcases ho with h | h | h
        · rw [hg] at h; cases h
        · exact absurd he h
        · exact h
      clear hs hg ho he
      by_cases k1 : 1 < b
      case pos =>
        have fk1 : decide (1 < b) = true := decide_eq_true k1
        clear k1 ho'
        go_enter Try.func9, Try.ntmps9
        go_wp2_with fail
        refine (HA.out _).mono ?_
        rintro e w1 ⟨rfl, hb1⟩
        have HV1 := Lib.hid (HV0.out.to hb1)
        obtain ⟨c0, c1, c2, c3⟩ := HV1.out.st.cells
        clear hb1
        go_wp2_with fail
        refine (HG.out _).mono ?_
        rintro e w2 ⟨rfl, hb2⟩
        have HV2 := Lib.hid (HV1.out.to hb2)
        clear hb2 c0 c1 c2 c3
        obtain ⟨c0, c1, c2, c3⟩ := HV2.out.st.cells
        go_wp2_with fail
        refine (HC.out _ HV2.out).mono ?_
        rintro e w3 ⟨rfl, hb3⟩
        have HV3 := Lib.hid (HV2.out.to hb3)
        clear hb3 c0 c1 c2 c3
        go_wp2
        go_ret
        exact ⟨rfl, HV3.out.lo⟩
      have fk1 : decide (1 < b) = false := decide_eq_false k1
      by_cases k2 : n < -100
      case pos =>
        have fk2 : decide (n < -100) = true := decide_eq_true k2
        clear k2 ho'
        go_enter Try.func9, Try.ntmps9
        go_wp2_with fail
        refine (HA.out _).mono ?_
        rintro e w1 ⟨rfl, hb1⟩
        have HV1 := Lib.hid (HV0.out.to hb1)
        obtain ⟨c0, c1, c2, c3⟩ := HV1.out.st.cells
        clear hb1
        go_wp2_with fail
        refine (HG.out _).mono ?_
        rintro e w2 ⟨rfl, hb2⟩
        have HV2 := Lib.hid (HV1.out.to hb2)
        clear hb2 c0 c1 c2 c3
        obtain ⟨c0, c1, c2, c3⟩ := HV2.out.st.cells
        go_wp2_with fail
        refine (HC.out _ HV2.out).mono ?_
        rintro e w3 ⟨rfl, hb3⟩
        have HV3 := Lib.hid (HV2.out.to hb3)
        clear hb3 c0 c1 c2 c3
        go_wp2
        go_ret
        exact ⟨rfl, HV3.out.lo⟩
      have fk2 : decide (n < -100) = false := decide_eq_false k2
      have k3 : 100 < n := by omega
      have fk3 : decide (100 < n) = true := decide_eq_true k3
      clear k1 k2 k3 ho'
      go_enter Try.func9, Try.ntmps9
      go_wp2_with fail
      refine (HA.out _).mono ?_
      rintro e w1 ⟨rfl, hb1⟩
      have HV1 := Lib.hid (HV0.out.to hb1)
      obtain ⟨c0, c1, c2, c3⟩ := HV1.out.st.cells
      clear hb1
      go_wp2_with fail
      refine (HG.out _).mono ?_
      rintro e w2 ⟨rfl, hb2⟩
      have HV2 := Lib.hid (HV1.out.to hb2)
      clear hb2 c0 c1 c2 c3
      obtain ⟨c0, c1, c2, c3⟩ := HV2.out.st.cells
      go_wp2_with fail
      refine (HC.out _ HV2.out).mono ?_
      rintro e w3 ⟨rfl, hb3⟩
      have HV3 := Lib.hid (HV2.out.to hb3)
      clear hb3 c0 c1 c2 c3
      go_wp2
      go_ret
      exact ⟨rfl, HV3.out.lo⟩
set_option maxHeartbeats 16000000 in
theorem back_front (s : BedS) (p : BedP) (hwf : s.wf) (n : Int) (hg : greatB s = false) (he : bedE s = 0) (hnd : needleP n) (w : World) (hs : BedAt w w.heap.size p s) :
    Calls Try.prog 9 #[s.val p, .int .u8 0, .int .i64 n] w fun e w' => e = .returned (.bool true) ∧ Below w.heap.size w w' := by
  have HG := Lib.hid (fun w => rgreat_bed s p w)
  have HA := Lib.hid (fun w => alive_any w)
  have HV0 := Lib.hid (VlS.new hs)
  have al : ∀ (W : World) (o : Obj), Below W.heap.size W (W.alloc o) := fun W o => (Below.refl _ W).alloc (Nat.le_refl _) o
  have HAl := Lib.hid al
  clear al
  have hgs := Good.of he hwf
  have hn := great_len hg
  have hm := great_small hg he
  obtain ⟨tt, htt⟩ : ∃ tt, tt = n - s.rack := ⟨_, rfl⟩
  have hcol : colI s.rack 0 n = colI s.rack (1 - 0) tt := by unfold colI; rw [htt]; omega
  have HC : Hid (∀ W, VlS w s p W → Calls Try.prog 23 #[s.val p] W fun e w' => e = .returned (.int .i64 0) ∧ Below W.heap.size W w') := fun W hv => by
    have := rbcheck_any s p hwf ⟨by omega, by omega, by omega⟩ W hv.st.state
    unfold RetB8 at this
    rwa [he] at this
  have HH : Hid (∀ W, VlS w s p W → Calls Try.prog 32 #[s.val p, .int .u8 1, .int .i64 tt] W fun e w' => intsOut (heldAt s.hooks 1 tt) W e w') := fun W hv =>
    rheld_any s p 1 tt (by omega) (fun h hh => by have := (hgs.hooks h hh).2.2.2; omega) W hv.st.state
  have hr := hgs.rack
  unfold needleP at hnd
  obtain ⟨hn1, hn2⟩ := hnd
  have f1 : decide (n < -100) = false := decide_eq_false (by omega)
  have f2 : decide (100 < n) = false := decide_eq_false (by omega)
  rw [hg] at HG
  by_cases ho : -100 ≤ tt ∧ tt ≤ 100
  case neg =>
    unfold BedS.val at HG HC HH ⊢
    by_cases h1 : tt < -100
    all_goals
      first | (have h2 : 100 < tt := by omega) | skip
      rw [htt] at h1
      first | (rw [htt] at h2) | skip
      obtain ⟨r1, r2⟩ := hr
      clear hs hg he htt hcol ho hgs hn hm HH
      go_enter Try.func9, Try.ntmps9
      go_wp2_with fail
      refine (HA.out _).mono ?_
      rintro e w1 ⟨rfl, hb1⟩
      have HV1 := Lib.hid (HV0.out.to hb1)
      obtain ⟨c0, c1, c2, c3⟩ := HV1.out.st.cells
      clear hb1
      go_wp2_with fail
      refine (HG.out _).mono ?_
      rintro e w2 ⟨rfl, hb2⟩
      have HV2 := Lib.hid (HV1.out.to hb2)
      clear hb2 c0 c1 c2 c3
      obtain ⟨c0, c1, c2, c3⟩ := HV2.out.st.cells
      go_wp2_with fail
      refine (HC.out _ HV2.out).mono ?_
      rintro e w3 ⟨rfl, hb3⟩
      have HV3 := Lib.hid (HV2.out.to hb3)
      clear hb3 c0 c1 c2 c3
      obtain ⟨c0, c1, c2, c3⟩ := HV3.out.st.cells
      go_wp2
      go_ret
      exact ⟨rfl, HV3.out.lo⟩
  case pos =>
    by_cases h0 : heldAt s.hooks 1 tt = []
    case neg =>
      have HL : Hid (0 < (heldAt s.hooks 1 tt).length) := List.length_pos_iff.2 h0
      generalize heldAt s.hooks 1 tt = L at HH HL
      have hl0 := HL.out
      unfold BedS.val at HG HC HH ⊢
      obtain ⟨t1, t2⟩ := ho
      rw [htt] at HH t1 t2
      obtain ⟨r1, r2⟩ := hr
      clear hs hg he htt hcol h0 hgs hn hm
      go_enter Try.func9, Try.ntmps9
      go_wp2_with fail
      refine (HA.out _).mono ?_
      rintro e w1 ⟨rfl, hb1⟩
      have HV1 := Lib.hid (HV0.out.to hb1)
      obtain ⟨c0, c1, c2, c3⟩ := HV1.out.st.cells
      clear hb1
      go_wp2_with fail
      refine (HG.out _).mono ?_
      rintro e w2 ⟨rfl, hb2⟩
      have HV2 := Lib.hid (HV1.out.to hb2)
      clear hb2 c0 c1 c2 c3
      obtain ⟨c0, c1, c2, c3⟩ := HV2.out.st.cells
      go_wp2_with fail
      refine (HC.out _ HV2.out).mono ?_
      rintro e w3 ⟨rfl, hb3⟩
      have HV3 := Lib.hid (HV2.out.to hb3)
      clear hb3 c0 c1 c2 c3
      obtain ⟨c0, c1, c2, c3⟩ := HV3.out.st.cells
      go_wp2_with fail
      refine (HH.out _ HV3.out).mono ?_
      rintro e w4 ⟨A4, c4, rfl, -, hb4⟩
      have HV4 := Lib.hid (HV3.out.to hb4)
      clear hb4 c0 c1 c2 c3
      go_wp2
      go_ret
      exact ⟨rfl, HV4.out.lo⟩
    case pos =>
      have hpos : 0 ≤ (0 : Int) ∧ (0 : Int) ≤ 1 := by decide
      have hneg : 0 ≤ (1 : Int) ∧ (1 : Int) ≤ 1 := by decide
      have hndl : needleP n := ⟨hn1, hn2⟩
      have htdl : needleP tt := ho
      have x1 := xfI_good hpos hndl htdl
      have x2 := xfI_good hneg htdl hndl
      have d1 := back_do1 hgs hcol h0
      have d2 := back_do2 hgs hpos hndl hcol h0
      have hd1 : doS s (xfI 0 n tt) = doI s (xfI 0 n tt) := by
        unfold doS
        rw [if_neg (by rw [he]; simp), if_neg (by unfold Ins.err; rw [if_pos x1.1]; simp)]
      have hgu := (doI_good hgs x1.2 x1.1 (by rw [d1])).1
      rw [d1] at hgu hd1
      obtain ⟨u, hu⟩ : ∃ u : BedS, u = { s with hooks := putAt (putAt s.hooks 0 n []) (1 - 0) tt (heldAt s.hooks 0 n) } := ⟨_, rfl⟩
      have hum : u.made = s.made := by rw [hu]
      have hou : heldAt u.hooks 1 tt = heldAt s.hooks 0 n := by rw [hu]; exact held_put_self _ _ _ _
      rw [← hu] at d1 d2 hgu hd1
      have hd2 : doS u (xfI 1 tt n) = (s, 0) := by
        unfold doS
        rw [if_neg (by rw [hgu.err]; simp), if_neg (by unfold Ins.err; rw [if_pos x2.1]; simp)]
        exact d2
      have HL : Hid ((heldAt s.hooks 0 n).length ≤ 6) := hgs.heldLen _ _
      have HD1 : Hid (∀ W, VlS w s p W → Calls Try.prog 18 #[s.val p, (xfI 0 n tt).val] W fun e w' => ∃ q : BedP, e = .returned (.tuple #[u.val q, .int .i64 0]) ∧ BedAt w' w'.heap.size q u ∧ Below W.heap.size W w') := fun W hv => by
        refine (bdo_any s p hwf hn (fun _ => by omega) _ x1.2 W hv.st.state).mono ?_
        rintro e w' ⟨q, h1, h2, h3⟩
        rw [hd1] at h1 h2
        exact ⟨q, h1, h2.at_, h3⟩
      have HD2 : Hid (∀ b q W, VlT w s p b u q W → Calls Try.prog 18 #[u.val q, (xfI 1 tt n).val] W fun e w' => ∃ q : BedP, e = .returned (.tuple #[s.val q, .int .i64 0]) ∧ BedAt w' w'.heap.size q s ∧ Below W.heap.size W w') := fun b q W hv => by
        refine (bdo_any u q hgu.wf hgu.sizes (fun _ => by rw [hum]; omega) _ x2.2 W hv.st.state).mono ?_
        rintro e w' ⟨q, h1, h2, h3⟩
        rw [hd2] at h1 h2
        exact ⟨q, h1, h2.at_, h3⟩
      have HO1 : Hid (∀ b q W, VlT w s p b u q W → Calls Try.prog 13 #[u.val q, .int .u8 1, .int .i64 tt] W fun e w' => ∃ A c, e = .returned (.tuple #[.slice A (heldAt s.hooks 0 n).length c, .int .i64 0]) ∧ SlI w' w'.heap.size A (heldAt s.hooks 0 n) ∧ Below W.heap.size W w') := fun b q W hv => by
        have h := on_any u q hgu.wf hgu.sizes 1 tt (by decide) W hv.st.state
        unfold onOut at h
        rw [onR_ok hgu hneg.2 htdl, hou] at h
        exact h
      have HO2 : Hid (∀ W, VlS w s p W → Calls Try.prog 13 #[s.val p, .int .u8 0, .int .i64 n] W fun e w' => ∃ A c, e = .returned (.tuple #[.slice A (heldAt s.hooks 0 n).length c, .int .i64 0]) ∧ SlI w' w'.heap.size A (heldAt s.hooks 0 n) ∧ Below W.heap.size W w') := fun W hv => by
        have h := on_any s p hwf hn 0 n (by decide) W hv.st.state
        unfold onOut at h
        rw [onR_ok hgs hpos.2 hndl] at h
        exact h
      have HSm : Hid (∀ q W, VlS w s p W → BedAt W W.heap.size q s → Calls Try.prog 24 #[s.val p, s.val q] W fun e w' => e = .returned (.bool true) ∧ Below W.heap.size W w') := fun q W hv hq =>
        rsame_any s p q hn ⟨fun h hh => (hgs.hooks h hh).2.2.2, hgs.parents⟩ W hv.st.state hq
      rw [h0] at HH
      generalize heldAt s.hooks 0 n = L at HO1 HO2 HL
      obtain ⟨t1, t2⟩ := ho
      obtain ⟨r1, r2⟩ := hr
      clear hd1 hd2 d1 d2 x1 x2 hgu hgs hcol h0 hu hou hum hpos hneg hndl htdl hm hn he hg hs
      unfold BedS.val at HG HC HH HD1 HD2 HO1 HO2 HSm ⊢
      unfold xfI Ins.val at HD1 HD2
      simp only at HD1 HD2
      rw [htt] at t1 t2 HH HD1 HD2 HO1
      clear htt
      go_enter Try.func9, Try.ntmps9
      go_wp2_with fail
      refine (HA.out _).mono ?_
      rintro e w1 ⟨rfl, hb1⟩
      have HV1 := Lib.hid (HV0.out.to hb1)
      obtain ⟨c0, c1, c2, c3⟩ := HV1.out.st.cells
      clear hb1
      go_wp2_with fail
      refine (HG.out _).mono ?_
      rintro e w2 ⟨rfl, hb2⟩
      have HV2 := Lib.hid (HV1.out.to hb2)
      clear hb2 c0 c1 c2 c3
      obtain ⟨c0, c1, c2, c3⟩ := HV2.out.st.cells
      go_wp2_with fail
      refine (HC.out _ HV2.out).mono ?_
      rintro e w3 ⟨rfl, hb3⟩
      have HV3 := Lib.hid (HV2.out.to hb3)
      clear hb3 c0 c1 c2 c3
      obtain ⟨c0, c1, c2, c3⟩ := HV3.out.st.cells
      go_wp2_with fail
      refine (HH.out _ HV3.out).mono ?_
      rintro e w4 ⟨A4, c4, rfl, -, hb4⟩
      have HV4 := Lib.hid (HV3.out.to hb4)
      clear hb4 c0 c1 c2 c3
      obtain ⟨c0, c1, c2, c3⟩ := HV4.out.st.cells
      simp only [List.length_nil]
      go_wp2_with fail
      refine (HD1.out _ HV4.out).mono ?_
      rintro e w5 ⟨q, rfl, hs5, hb5⟩
      have HV5 : Hid (VlT w s p w5.heap.size u q (w5.alloc (bedBox u q))) := ⟨(HV4.out.to hb5).to (HAl.out _ _), Bx.new hs5⟩
      clear hb5 hs5 c0 c1 c2 c3
      go_wp2_with fail
      refine (HD2.out _ _ _ HV5.out).mono ?_
      rintro e w6 ⟨q2, rfl, hs6, hb6⟩
      have HV6 := Lib.hid ((HV5.out.to hb6).to (HAl.out _ (bedBox s q2)))
      have HX6 := Lib.hid (Bx.new hs6)
      clear hb6 hs6
      obtain ⟨c0, c1, c2, c3⟩ := HV6.out.st.cells
      have l0 := lt_of_cell c0
      go_wp2_with fail
      refine (HO1.out _ _ _ HV6.out).mono ?_
      rintro e w7 ⟨A7, c7, rfl, hs7, hb7⟩
      have HV7 := Lib.hid (HV6.out.to hb7)
      have HX7 := Lib.hid (HX6.out.to hb7)
      have HS7 := Lib.hid hs7
      clear hb7 hs7 c0 c1 c2 c3 l0 HX6
      obtain ⟨c0, c1, c2, c3⟩ := HV7.out.a.st.cells
      go_wp2_with fail
      refine (HO2.out _ HV7.out.a).mono ?_
      rintro e w8 ⟨A8, c8, rfl, hs8, hb8⟩
      have HV8 := Lib.hid (HV7.out.to hb8)
      have HX8 := Lib.hid (HX7.out.to hb8)
      have HS8 := Lib.hid (show _ ∧ _ from ⟨(HS7.out.below hb8).more hb8.size, hs8⟩)
      clear hb8 hs8 c0 c1 c2 c3 HX7 HS7
      obtain ⟨c0, c1, c2, c3⟩ := HV8.out.a.st.cells
      obtain ⟨d0, d1, d2, d3⟩ := HX8.out.cells
      go_wp2_with fail
      refine (HSm.out _ _ HV8.out.a HX8.out.state).mono ?_
      rintro e w9 ⟨rfl, hb9⟩
      have HV9 := Lib.hid (HV8.out.to hb9)
      have HS9 := Lib.hid (show _ ∧ _ from ⟨(HS8.out.1.below hb9).more hb9.size, (HS8.out.2.below hb9).more hb9.size⟩)
      clear hb9 c0 c1 c2 c3 d0 d1 d2 d3
      go_wp2_with fail
      refine (sameQ_any A7 A8 c7 c8 L _ HS9.out.1 HS9.out.2 (by have := HL.out; omega)).mono ?_
      rintro e w10 ⟨rfl, m, hw⟩
      have HV10 : Hid (VlT w s p w5.heap.size u q w10) := by
        show VlT _ _ _ _ _ _ _
        rw [hw]
        exact HV9.out.to (below_drewN (Below.refl _ _) m)
      clear hw
      go_wp2
      go_ret
      exact ⟨rfl, HV10.out.a.lo⟩
set_option maxHeartbeats 16000000 in
theorem back_back (s : BedS) (p : BedP) (hwf : s.wf) (n : Int) (hg : greatB s = false) (he : bedE s = 0) (hnd : needleP n) (w : World) (hs : BedAt w w.heap.size p s) :
    Calls Try.prog 9 #[s.val p, .int .u8 1, .int .i64 n] w fun e w' => e = .returned (.bool true) ∧ Below w.heap.size w w' := by
  have HG := Lib.hid (fun w => rgreat_bed s p w)
  have HA := Lib.hid (fun w => alive_any w)
  have HV0 := Lib.hid (VlS.new hs)
  have al : ∀ (W : World) (o : Obj), Below W.heap.size W (W.alloc o) := fun W o => (Below.refl _ W).alloc (Nat.le_refl _) o
  have HAl := Lib.hid al
  clear al
  have hgs := Good.of he hwf
  have hn := great_len hg
  have hm := great_small hg he
  obtain ⟨tt, htt⟩ : ∃ tt, tt = n + s.rack := ⟨_, rfl⟩
  have hcol : colI s.rack 1 n = colI s.rack (1 - 1) tt := by unfold colI; rw [htt]; omega
  have HC : Hid (∀ W, VlS w s p W → Calls Try.prog 23 #[s.val p] W fun e w' => e = .returned (.int .i64 0) ∧ Below W.heap.size W w') := fun W hv => by
    have := rbcheck_any s p hwf ⟨by omega, by omega, by omega⟩ W hv.st.state
    unfold RetB8 at this
    rwa [he] at this
  have HH : Hid (∀ W, VlS w s p W → Calls Try.prog 32 #[s.val p, .int .u8 0, .int .i64 tt] W fun e w' => intsOut (heldAt s.hooks 0 tt) W e w') := fun W hv =>
    rheld_any s p 0 tt (by omega) (fun h hh => by have := (hgs.hooks h hh).2.2.2; omega) W hv.st.state
  have hr := hgs.rack
  unfold needleP at hnd
  obtain ⟨hn1, hn2⟩ := hnd
  have f1 : decide (n < -100) = false := decide_eq_false (by omega)
  have f2 : decide (100 < n) = false := decide_eq_false (by omega)
  rw [hg] at HG
  by_cases ho : -100 ≤ tt ∧ tt ≤ 100
  case neg =>
    unfold BedS.val at HG HC HH ⊢
    by_cases h1 : tt < -100
    all_goals
      first | (have h2 : 100 < tt := by omega) | skip
      rw [htt] at h1
      first | (rw [htt] at h2) | skip
      obtain ⟨r1, r2⟩ := hr
      clear hs hg he htt hcol ho hgs hn hm HH
      go_enter Try.func9, Try.ntmps9
      go_wp2_with fail
      refine (HA.out _).mono ?_
      rintro e w1 ⟨rfl, hb1⟩
      have HV1 := Lib.hid (HV0.out.to hb1)
      obtain ⟨c0, c1, c2, c3⟩ := HV1.out.st.cells
      clear hb1
      go_wp2_with fail
      refine (HG.out _).mono ?_
      rintro e w2 ⟨rfl, hb2⟩
      have HV2 := Lib.hid (HV1.out.to hb2)
      clear hb2 c0 c1 c2 c3
      obtain ⟨c0, c1, c2, c3⟩ := HV2.out.st.cells
      go_wp2_with fail
      refine (HC.out _ HV2.out).mono ?_
      rintro e w3 ⟨rfl, hb3⟩
      have HV3 := Lib.hid (HV2.out.to hb3)
      clear hb3 c0 c1 c2 c3
      obtain ⟨c0, c1, c2, c3⟩ := HV3.out.st.cells
      go_wp2
      go_ret
      exact ⟨rfl, HV3.out.lo⟩
  case pos =>
    by_cases h0 : heldAt s.hooks 0 tt = []
    case neg =>
      have HL : Hid (0 < (heldAt s.hooks 0 tt).length) := List.length_pos_iff.2 h0
      generalize heldAt s.hooks 0 tt = L at HH HL
      have hl0 := HL.out
      unfold BedS.val at HG HC HH ⊢
      obtain ⟨t1, t2⟩ := ho
      rw [htt] at HH t1 t2
      obtain ⟨r1, r2⟩ := hr
      clear hs hg he htt hcol h0 hgs hn hm
      go_enter Try.func9, Try.ntmps9
      go_wp2_with fail
      refine (HA.out _).mono ?_
      rintro e w1 ⟨rfl, hb1⟩
      have HV1 := Lib.hid (HV0.out.to hb1)
      obtain ⟨c0, c1, c2, c3⟩ := HV1.out.st.cells
      clear hb1
      go_wp2_with fail
      refine (HG.out _).mono ?_
      rintro e w2 ⟨rfl, hb2⟩
      have HV2 := Lib.hid (HV1.out.to hb2)
      clear hb2 c0 c1 c2 c3
      obtain ⟨c0, c1, c2, c3⟩ := HV2.out.st.cells
      go_wp2_with fail
      refine (HC.out _ HV2.out).mono ?_
      rintro e w3 ⟨rfl, hb3⟩
      have HV3 := Lib.hid (HV2.out.to hb3)
      clear hb3 c0 c1 c2 c3
      obtain ⟨c0, c1, c2, c3⟩ := HV3.out.st.cells
      go_wp2_with fail
      refine (HH.out _ HV3.out).mono ?_
      rintro e w4 ⟨A4, c4, rfl, -, hb4⟩
      have HV4 := Lib.hid (HV3.out.to hb4)
      clear hb4 c0 c1 c2 c3
      go_wp2
      go_ret
      exact ⟨rfl, HV4.out.lo⟩
    case pos =>
      have hpos : 0 ≤ (1 : Int) ∧ (1 : Int) ≤ 1 := by decide
      have hneg : 0 ≤ (0 : Int) ∧ (0 : Int) ≤ 1 := by decide
      have hndl : needleP n := ⟨hn1, hn2⟩
      have htdl : needleP tt := ho
      have x1 := xfI_good hpos hndl htdl
      have x2 := xfI_good hneg htdl hndl
      have d1 := back_do1 hgs hcol h0
      have d2 := back_do2 hgs hpos hndl hcol h0
      have hd1 : doS s (xfI 1 n tt) = doI s (xfI 1 n tt) := by
        unfold doS
        rw [if_neg (by rw [he]; simp), if_neg (by unfold Ins.err; rw [if_pos x1.1]; simp)]
      have hgu := (doI_good hgs x1.2 x1.1 (by rw [d1])).1
      rw [d1] at hgu hd1
      obtain ⟨u, hu⟩ : ∃ u : BedS, u = { s with hooks := putAt (putAt s.hooks 1 n []) (1 - 1) tt (heldAt s.hooks 1 n) } := ⟨_, rfl⟩
      have hum : u.made = s.made := by rw [hu]
      have hou : heldAt u.hooks 0 tt = heldAt s.hooks 1 n := by rw [hu]; exact held_put_self _ _ _ _
      rw [← hu] at d1 d2 hgu hd1
      have hd2 : doS u (xfI 0 tt n) = (s, 0) := by
        unfold doS
        rw [if_neg (by rw [hgu.err]; simp), if_neg (by unfold Ins.err; rw [if_pos x2.1]; simp)]
        exact d2
      have HL : Hid ((heldAt s.hooks 1 n).length ≤ 6) := hgs.heldLen _ _
      have HD1 : Hid (∀ W, VlS w s p W → Calls Try.prog 18 #[s.val p, (xfI 1 n tt).val] W fun e w' => ∃ q : BedP, e = .returned (.tuple #[u.val q, .int .i64 0]) ∧ BedAt w' w'.heap.size q u ∧ Below W.heap.size W w') := fun W hv => by
        refine (bdo_any s p hwf hn (fun _ => by omega) _ x1.2 W hv.st.state).mono ?_
        rintro e w' ⟨q, h1, h2, h3⟩
        rw [hd1] at h1 h2
        exact ⟨q, h1, h2.at_, h3⟩
      have HD2 : Hid (∀ b q W, VlT w s p b u q W → Calls Try.prog 18 #[u.val q, (xfI 0 tt n).val] W fun e w' => ∃ q : BedP, e = .returned (.tuple #[s.val q, .int .i64 0]) ∧ BedAt w' w'.heap.size q s ∧ Below W.heap.size W w') := fun b q W hv => by
        refine (bdo_any u q hgu.wf hgu.sizes (fun _ => by rw [hum]; omega) _ x2.2 W hv.st.state).mono ?_
        rintro e w' ⟨q, h1, h2, h3⟩
        rw [hd2] at h1 h2
        exact ⟨q, h1, h2.at_, h3⟩
      have HO1 : Hid (∀ b q W, VlT w s p b u q W → Calls Try.prog 13 #[u.val q, .int .u8 0, .int .i64 tt] W fun e w' => ∃ A c, e = .returned (.tuple #[.slice A (heldAt s.hooks 1 n).length c, .int .i64 0]) ∧ SlI w' w'.heap.size A (heldAt s.hooks 1 n) ∧ Below W.heap.size W w') := fun b q W hv => by
        have h := on_any u q hgu.wf hgu.sizes 0 tt (by decide) W hv.st.state
        unfold onOut at h
        rw [onR_ok hgu hneg.2 htdl, hou] at h
        exact h
      have HO2 : Hid (∀ W, VlS w s p W → Calls Try.prog 13 #[s.val p, .int .u8 1, .int .i64 n] W fun e w' => ∃ A c, e = .returned (.tuple #[.slice A (heldAt s.hooks 1 n).length c, .int .i64 0]) ∧ SlI w' w'.heap.size A (heldAt s.hooks 1 n) ∧ Below W.heap.size W w') := fun W hv => by
        have h := on_any s p hwf hn 1 n (by decide) W hv.st.state
        unfold onOut at h
        rw [onR_ok hgs hpos.2 hndl] at h
        exact h
      have HSm : Hid (∀ q W, VlS w s p W → BedAt W W.heap.size q s → Calls Try.prog 24 #[s.val p, s.val q] W fun e w' => e = .returned (.bool true) ∧ Below W.heap.size W w') := fun q W hv hq =>
        rsame_any s p q hn ⟨fun h hh => (hgs.hooks h hh).2.2.2, hgs.parents⟩ W hv.st.state hq
      rw [h0] at HH
      generalize heldAt s.hooks 1 n = L at HO1 HO2 HL
      obtain ⟨t1, t2⟩ := ho
      obtain ⟨r1, r2⟩ := hr
      clear hd1 hd2 d1 d2 x1 x2 hgu hgs hcol h0 hu hou hum hpos hneg hndl htdl hm hn he hg hs
      unfold BedS.val at HG HC HH HD1 HD2 HO1 HO2 HSm ⊢
      unfold xfI Ins.val at HD1 HD2
      simp only at HD1 HD2
      rw [htt] at t1 t2 HH HD1 HD2 HO1
      clear htt
      go_enter Try.func9, Try.ntmps9
      go_wp2_with fail
      refine (HA.out _).mono ?_
      rintro e w1 ⟨rfl, hb1⟩
      have HV1 := Lib.hid (HV0.out.to hb1)
      obtain ⟨c0, c1, c2, c3⟩ := HV1.out.st.cells
      clear hb1
      go_wp2_with fail
      refine (HG.out _).mono ?_
      rintro e w2 ⟨rfl, hb2⟩
      have HV2 := Lib.hid (HV1.out.to hb2)
      clear hb2 c0 c1 c2 c3
      obtain ⟨c0, c1, c2, c3⟩ := HV2.out.st.cells
      go_wp2_with fail
      refine (HC.out _ HV2.out).mono ?_
      rintro e w3 ⟨rfl, hb3⟩
      have HV3 := Lib.hid (HV2.out.to hb3)
      clear hb3 c0 c1 c2 c3
      obtain ⟨c0, c1, c2, c3⟩ := HV3.out.st.cells
      go_wp2_with fail
      refine (HH.out _ HV3.out).mono ?_
      rintro e w4 ⟨A4, c4, rfl, -, hb4⟩
      have HV4 := Lib.hid (HV3.out.to hb4)
      clear hb4 c0 c1 c2 c3
      obtain ⟨c0, c1, c2, c3⟩ := HV4.out.st.cells
      simp only [List.length_nil]
      go_wp2_with fail
      refine (HD1.out _ HV4.out).mono ?_
      rintro e w5 ⟨q, rfl, hs5, hb5⟩
      have HV5 : Hid (VlT w s p w5.heap.size u q (w5.alloc (bedBox u q))) := ⟨(HV4.out.to hb5).to (HAl.out _ _), Bx.new hs5⟩
      clear hb5 hs5 c0 c1 c2 c3
      go_wp2_with fail
      refine (HD2.out _ _ _ HV5.out).mono ?_
      rintro e w6 ⟨q2, rfl, hs6, hb6⟩
      have HV6 := Lib.hid ((HV5.out.to hb6).to (HAl.out _ (bedBox s q2)))
      have HX6 := Lib.hid (Bx.new hs6)
      clear hb6 hs6
      obtain ⟨c0, c1, c2, c3⟩ := HV6.out.st.cells
      have l0 := lt_of_cell c0
      go_wp2_with fail
      refine (HO1.out _ _ _ HV6.out).mono ?_
      rintro e w7 ⟨A7, c7, rfl, hs7, hb7⟩
      have HV7 := Lib.hid (HV6.out.to hb7)
      have HX7 := Lib.hid (HX6.out.to hb7)
      have HS7 := Lib.hid hs7
      clear hb7 hs7 c0 c1 c2 c3 l0 HX6
      obtain ⟨c0, c1, c2, c3⟩ := HV7.out.a.st.cells
      go_wp2_with fail
      refine (HO2.out _ HV7.out.a).mono ?_
      rintro e w8 ⟨A8, c8, rfl, hs8, hb8⟩
      have HV8 := Lib.hid (HV7.out.to hb8)
      have HX8 := Lib.hid (HX7.out.to hb8)
      have HS8 := Lib.hid (show _ ∧ _ from ⟨(HS7.out.below hb8).more hb8.size, hs8⟩)
      clear hb8 hs8 c0 c1 c2 c3 HX7 HS7
      obtain ⟨c0, c1, c2, c3⟩ := HV8.out.a.st.cells
      obtain ⟨d0, d1, d2, d3⟩ := HX8.out.cells
      go_wp2_with fail
      refine (HSm.out _ _ HV8.out.a HX8.out.state).mono ?_
      rintro e w9 ⟨rfl, hb9⟩
      have HV9 := Lib.hid (HV8.out.to hb9)
      have HS9 := Lib.hid (show _ ∧ _ from ⟨(HS8.out.1.below hb9).more hb9.size, (HS8.out.2.below hb9).more hb9.size⟩)
      clear hb9 c0 c1 c2 c3 d0 d1 d2 d3
      go_wp2_with fail
      refine (sameQ_any A7 A8 c7 c8 L _ HS9.out.1 HS9.out.2 (by have := HL.out; omega)).mono ?_
      rintro e w10 ⟨rfl, m, hw⟩
      have HV10 : Hid (VlT w s p w5.heap.size u q w10) := by
        show VlT _ _ _ _ _ _ _
        rw [hw]
        exact HV9.out.to (below_drewN (Below.refl _ _) m)
      clear hw
      go_wp2
      go_ret
      exact ⟨rfl, HV10.out.a.lo⟩
theorem back_walk (s : BedS) (p : BedP) (hwf : s.wf) (b n : Int) (hb : 0 ≤ b ∧ b ≤ 255) (w : World) (hs : BedAt w w.heap.size p s) :
    Calls Try.prog 9 #[s.val p, .int .u8 b, .int .i64 n] w fun e w' => e = .returned (.bool true) ∧ Below w.heap.size w w' := by
  by_cases ho : greatB s = true ∨ bedE s ≠ 0 ∨ 1 < b ∨ n < -100 ∨ 100 < n
  · exact back_out s p hwf b n ho w hs
  · have hg : greatB s = false := by
      cases h : greatB s with
      | false => rfl
      | true => exact absurd (Or.inl h) ho
    have he : bedE s = 0 := by
      by_cases h : bedE s = 0
      · exact h
      · exact absurd (Or.inr (Or.inl h)) ho
    have hnd : needleP n := by
      unfold needleP
      omega
    have : b = 0 ∨ b = 1 := by omega
    rcases this with rfl | rfl
    · exact back_front s p hwf n hg he hnd w hs
    · exact back_back s p hwf n hg he hnd w hs
end Go.Proofs.Ytjoglkamhjcmhaa
