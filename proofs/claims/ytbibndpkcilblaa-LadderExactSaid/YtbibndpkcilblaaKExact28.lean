/- LadderExact, walked. -/
import Derived.Test.YtbibndpkcilblaaKEx2
namespace Go.Proofs.Ytbibndpkcilblaa
open Go.RowKit Go.Shelf Go.Sort
set_option maxRecDepth 100000

set_option maxHeartbeats 16000000 in
theorem exact_walk (start : Int) (A : Option Addr) (c : Nat) (p : List RowC) (hw : RowsWf p) (da : Option Addr) (dc : Nat) (drop : List Int) (i : Int) (w : World) (hs : SlC w w.heap.size A p) (hd : SlI w w.heap.size da drop) :
    Calls Try.prog 7 #[.agg #[.int .i64 start, .slice A p.length c], .slice da drop.length dc, .int .i64 i] w fun e w' => e = .returned (.bool true) ∧ Below w.heap.size w w' := by
  have hF := rf_front start A c p w hs
  have c0 := hF.cb0
  have c1 := hF.cb1
  have HF := Lib.hid hF
  have HSd : Hid (∀ W, Below w.heap.size w W → SlI W W.heap.size da drop) := fun W hb => (hd.below hb).more hb.size
  obtain ⟨D, hDe⟩ : ∃ D, D = drop.length := ⟨_, rfl⟩
  have HDe := Lib.hid hDe
  have HGr : Hid (∀ W, RfF start A c p w.heap.size w W → Calls Try.prog 9 #[.agg #[.int .i64 start, .slice A p.length c], .slice da D dc] W fun e w' => BlPost (grtB p D) W e w') := fun W h => lgreat_any start A c p da D dc W h.sl
  have HCk : Hid (∀ W, RfF start A c p w.heap.size w W → Calls Try.prog 16 #[.agg #[.int .i64 start, .slice A p.length c]] W fun e w' => RetE (chartE start p) W e w') := fun W h => h.check
  rw [← hDe]
  obtain ⟨z, hz⟩ : ∃ z, z = grtB p D := ⟨_, rfl⟩
  rw [← hz] at HGr
  have HZ := Lib.hid hz
  obtain ⟨x, hx⟩ : ∃ x, x = chartE start p := ⟨_, rfl⟩
  rw [← hx] at HCk
  have HX := Lib.hid hx
  have HW := Lib.hid hw
  clear hF hs hd hDe hz hw hx
  go_enter Try.func7, Try.ntmps7
  go_wp2_with fail
  refine (alive_any _).mono ?_
  rintro e w1 ⟨rfl, hb1⟩
  have h1 := HF.out.to hb1
  have c0' := h1.cb0
  have c1' := h1.cb1
  have HC := Lib.hid (HGr.out w1 h1)
  have HF1 := Lib.hid h1
  clear h1 hb1 c0 c1 HF HGr
  go_wp2_with fail
  refine HC.out.mono ?_
  rintro e w2 ⟨rfl, hb2⟩
  have h2 := HF1.out.to hb2
  have c0 := h2.cb0
  have c1 := h2.cb1
  have HF2 := Lib.hid h2
  clear h2 hb2 c0' c1' HF1 HC
  cases z with
  | true =>
    go_wp2
    go_ret
    exact ⟨rfl, HF2.out.bel⟩
  | false =>
  have hg := grt_no HZ.out.symm
  have HC := Lib.hid (HCk.out w2 HF2.out)
  go_wp2_with fail
  refine HC.out.mono ?_
  rintro e w3 ⟨rfl, hb3⟩
  have h3 := HF2.out.to hb3
  have c0' := h3.cb0
  have c1' := h3.cb1
  have HF3 := Lib.hid h3
  clear h3 hb3 c0 c1 HF2 HC HCk HZ
  by_cases hne : x = 0
  case neg =>
    have hne' : (x != 0) = true := by simp [hne]
    clear hg
    go_wp2
    go_ret
    exact ⟨rfl, HF3.out.bel⟩
  have he : chartE start p = 0 := HX.out.symm.trans hne
  subst hne
  have h12 : p.length ≤ 12 := great_rows hg.1 he
  have HD300 : Hid (D ≤ 300) := hg.2
  have HE := Lib.hid he
  have H12 := Lib.hid h12
  have hG := chart_grd he h12
  have hrl := rows_len he h12
  have hwk := rwk_ch start A c p he h12 w3 HF3.out.sl
  obtain ⟨t, ht⟩ : ∃ t, t = workX start p := ⟨_, rfl⟩
  rw [← ht] at hG hrl hwk
  have HT := Lib.hid ht
  have HG := Lib.hid hG
  have HRl := Lib.hid hrl
  have HC := Lib.hid hwk
  clear he h12 hg hG hrl hwk ht HX
  go_wp2_with fail
  refine HC.out.mono ?_
  rintro e w4 ⟨a, b, xx, r, ca, cb, cx, cr, rfl, hr, hb4⟩
  have h4 := HF3.out.to hb4
  have c0 := h4.cb0
  have c1 := h4.cb1
  have HDr := Lib.hid (rdropped_any a b xx r t.lp.length ca t.bound.length cb t.cross.length cx cr p.length t.next (by have := H12.out; omega) t.lp t.bound t.rows HG.out.g.lv_ da dc drop (by have := HDe.out; have := HD300.out; omega) w4 hr (HSd.out w4 h4.bel))
  rw [← HDe.out, ← HRl.out] at HDr
  have HF4 := Lib.hid h4
  clear h4 hr hb4 c0' c1' HF3 HC
  obtain ⟨z, hz⟩ : ∃ z, z = dropB t.lp.length t.next drop := ⟨_, rfl⟩
  rw [← hz] at HDr
  have HZ := Lib.hid hz
  clear hz
  go_wp2_with fail
  refine HDr.out.mono ?_
  rintro e w5 ⟨rfl, hb5⟩
  have h5 := HF4.out.to hb5
  have c0' := h5.cb0
  have c1' := h5.cb1
  have HF5 := Lib.hid h5
  clear h5 hb5 c0 c1 HF4 HDr
  cases z with
  | false =>
    go_wp2
    go_ret
    exact ⟨rfl, HF5.out.bel⟩
  | true =>
  have HC := Lib.hid (Of_ok start A c p HW.out HE.out H12.out w5 HF5.out.sl)
  rw [← HT.out] at HC
  go_wp2_with fail
  refine HC.out.mono ?_
  rintro e w6 ⟨vL, vs, rfl, hv, ho, hb6⟩
  obtain ⟨la, lc, rfl⟩ := pxL_form ho
  have h6 := HF5.out.to hb6
  have c0 := h6.cb0
  have c1 := h6.cb1
  have HL6 := Lib.hid (slL_of ho rfl hv (fun o h => ho.all o (by simp [h])))
  have HF6 := Lib.hid h6
  clear h6 hv ho hb6 c0' c1' HF5 HC
  have hru := Run_x start A c p HW.out (fun _ => H12.out) da dc drop (by have := HDe.out; have := HD300.out; omega) w6 HF6.out.sl (HSd.out w6 HF6.out.bel)
  rw [runS_ok HE.out (by rw [← HT.out]; exact HZ.out.symm), ← HT.out, ← HDe.out] at hru
  obtain ⟨R, hR⟩ : ∃ R, R = listN t.lp.length (runF t.lp drop) := ⟨_, rfl⟩
  rw [← hR] at hru
  have HC := Lib.hid hru
  have HR := Lib.hid hR
  obtain ⟨rn, hrn⟩ : ∃ rn, rn = R.length := ⟨_, rfl⟩
  have HRn := Lib.hid hrn
  have HRm : Hid (R.length ≤ 2600) := by have := listN_len t.lp.length (runF t.lp drop); have := HG.out.ll; show _ ≤ _; rw [hR]; omega
  clear hru hR hrn
  go_wp2_with fail
  refine HC.out.mono ?_
  rintro e w7 ⟨v, rfl, ho, hb7⟩
  obtain ⟨ra, rc, rfl⟩ := pxJ_is ho HRn.out.symm
  have h7 := HF6.out.to hb7
  have c0' := h7.cb0
  have c1' := h7.cb1
  have HL7 := Lib.hid ((HL6.out.below hb7).more hb7.size)
  have HR7 := Lib.hid (pxJ_lies ho)
  have HF7 := Lib.hid h7
  clear h7 ho hb7 c0 c1 HF6 HL6 HC
  obtain ⟨M, hM⟩ : ∃ M, M = t.lp.length := ⟨_, rfl⟩
  have HMe := Lib.hid hM
  rw [← hM]
  clear hM
  by_cases h0 : i < 0
  · have z1 : decide (i < 0) = true := decide_eq_true h0
    go_wp2
    go_ret
    exact ⟨rfl, HF7.out.bel⟩
  have z1 : decide (i < 0) = false := decide_eq_false h0
  by_cases h1 : (M : Int) ≤ i
  · have z2 : decide ((M : Int) ≤ i) = true := decide_eq_true h1
    have z3 : decide (i ≥ (M : Int)) = true := decide_eq_true h1
    go_wp2
    go_ret
    exact ⟨rfl, HF7.out.bel⟩
  have z2 : decide ((M : Int) ≤ i) = false := decide_eq_false h1
  have z3 : decide (i ≥ (M : Int)) = false := decide_eq_false h1
  obtain ⟨j, rfl⟩ : ∃ j : Nat, i = (j : Int) := ⟨i.toNat, by omega⟩
  have hjt : j < t.lp.length := by have := HMe.out; omega
  have hen := Ends_ok start A c p HW.out H12.out HE.out j (by rw [← HT.out]; exact hjt) w7 HF7.out.sl
  rw [← HT.out] at hen
  obtain ⟨hp1, hp2⟩ := exact_plain (grd_n HG.out.g) (dropB_ok (lp := t.lp) HZ.out.symm) hjt
  have HEm : Hid ((listN t.lp.length (endF t j)).length ≤ 2600) := Nat.le_trans (listN_len _ _) HG.out.ll
  obtain ⟨E, hE⟩ : ∃ E, E = listN t.lp.length (endF t j) := ⟨_, rfl⟩
  rw [← hE] at hen hp1 hp2 HEm
  rw [← HR.out] at hp2
  have HC := Lib.hid hen
  obtain ⟨en, hen⟩ : ∃ en, en = E.length := ⟨_, rfl⟩
  have HEn := Lib.hid hen
  have hen0 : en ≠ 0 := fun e => hp1 (List.eq_nil_of_length_eq_zero (hen.symm.trans e))
  have z4 : ((en : Int) == 0) = false := beq_eq_false_iff_ne.2 (by omega)
  have HP2 := Lib.hid hp2
  have HJ := Lib.hid hjt
  clear hp1 hp2 hE hen hen0 hjt
  go_wp2_with fail
  refine HC.out.mono ?_
  rintro e w8 ⟨v, rfl, ho, hb8⟩
  obtain ⟨ea, ec, rfl⟩ := pxJ_is ho HEn.out.symm
  have HX8 : Hid (ExS start A c p w.heap.size la ra ea t.lp R E w w8) := ⟨HF7.out.to hb8, (HL7.out.below hb8).more hb8.size, (HR7.out.below hb8).more hb8.size, pxJ_lies ho⟩
  clear ho hb8 c0' c1' HF7 HL7 HR7 HC
  go_wp2
  clear z4
  go_loopw [14, 15] (fun s14 s15 wr => ∃ k : Nat, k ≤ en ∧ s15 = .int .i64 (k : Int) ∧ s14 = .bool ((E.take k).all fun e => hasB drop e) ∧ Hid (ExS start A c p w.heap.size la ra ea t.lp R E w wr)) (fun _ s15 _ => en - (intOf s15).toNat)
  case atStart => exact ⟨0, Nat.zero_le _, rfl, rfl, HX8.out⟩
  case round =>
    obtain ⟨k, hk, rfl, rfl, HX⟩ := hrel
    clear HX8
    by_cases hlt : k < en
    case pos =>
      have hkE : k < E.length := by have := HEn.out; omega
      obtain ⟨eb, off, y, hea, hB, hr, q0⟩ := HX.out.e.at_ hkE
      subst hea
      have HNx := Lib.hid (all_next (f := fun e => hasB drop e) hr)
      have HH := Lib.hid (rhas_any da dc drop y (by have := HDe.out; have := HD300.out; omega) wr (HSd.out wr HX.out.ff.bel))
      rw [← HDe.out] at HH
      have hen26 : en ≤ 2600 := by have := HEn.out; have := HEm.out; omega
      have hltI : (k : Int) < (en : Int) := by omega
      have hk0 : (0 : Int) ≤ (k : Int) := by omega
      have HK : Hid (k + 1 ≤ en ∧ k < en) := ⟨hlt, hlt⟩
      obtain ⟨q, hq⟩ : ∃ q, q = (E.take k).all fun e => hasB drop e := ⟨_, rfl⟩
      rw [← hq] at HNx ⊢
      clear hr hB hkE hq
      cases q with
      | true =>
        go_wp2_with (go_at_call 19; refine HH.out.mono ?_; rintro e w' ⟨rfl, rfl⟩)
        go_roundw
        case rel => exact ⟨k + 1, HK.out.1, by go_num, by rw [HNx.out]; rfl, HX.out⟩
        case measure => have := HK.out.2; simp [intOf]; omega
      | false =>
        go_wp2
        go_roundw
        case rel => exact ⟨k + 1, HK.out.1, by go_num, by rw [HNx.out]; rfl, HX.out⟩
        case measure => have := HK.out.2; simp [intOf]; omega
    case neg =>
      have hken : k = en := by omega
      subst hken
      have hta : E.take k = E := by rw [HEn.out]; exact List.take_length
      rw [hta]
      have hltI : ¬ (k : Int) < (k : Int) := by omega
      obtain ⟨lb, off, l, A', C', hla, hlB, hl, q0, -⟩ := HX.out.l.at_ HJ.out
      subst hla
      have hrow : rowN t.lp j = l.row := by unfold rowN; rw [List.getD_eq_getElem?_getD, hl]; rfl
      have HH1 := Lib.hid (rhas_any ra rc R (j : Int) (by have := HRm.out; omega) wr HX.out.r)
      have HH2 := Lib.hid (rhas_any da dc drop (j : Int) (by have := HDe.out; have := HD300.out; omega) wr (HSd.out wr HX.out.ff.bel))
      rw [← HDe.out] at HH2
      rw [← HRn.out] at HH1
      have hp := HP2.out
      rw [hrow] at hp
      unfold hasB at hp
      rw [hp] at HH1
      unfold hasB
      obtain ⟨q, hq⟩ : ∃ q, q = E.all fun e => drop.any fun y => decide (y = e) := ⟨_, rfl⟩
      obtain ⟨g, hg⟩ : ∃ g, g = drop.any fun y => decide (y = (j : Int)) := ⟨_, rfl⟩
      obtain ⟨y, hy⟩ : ∃ y, y = decide (l.row > 0) := ⟨_, rfl⟩
      have y1 : decide (l.row > 0) = y := hy.symm
      have y2 : decide (0 < l.row) = y := hy.symm
      rw [← hq, ← hy, ← hg] at HH1
      rw [← hg] at HH2
      rw [← hq]
      have hj0 : (0 : Int) ≤ (j : Int) := by omega
      have hjM : (j : Int) < (M : Int) := by omega
      clear hp hq hg hy hl hlB hta hrow HP2
      cases q with
      | false =>
        go_wp2_with (go_at_call 19; refine HH1.out.mono ?_; rintro e w' ⟨rfl, rfl⟩)
        go_ret
        exact ⟨rfl, HX.out.ff.bel⟩
      | true =>
        cases y with
        | true =>
          go_wp2_with (go_at_call 19; refine HH1.out.mono ?_; rintro e w' ⟨rfl, rfl⟩)
          go_ret
          exact ⟨rfl, HX.out.ff.bel⟩
        | false =>
          go_wp2_with fail
          refine HH1.out.mono ?_
          rintro e w' ⟨rfl, rfl⟩
          go_wp2_with fail
          refine HH2.out.mono ?_
          rintro e w' ⟨rfl, rfl⟩
          cases g with
          | true =>
            go_wp2
            go_ret
            exact ⟨rfl, HX.out.ff.bel⟩
          | false =>
            go_wp2
            go_ret
            exact ⟨rfl, HX.out.ff.bel⟩
end Go.Proofs.Ytbibndpkcilblaa
