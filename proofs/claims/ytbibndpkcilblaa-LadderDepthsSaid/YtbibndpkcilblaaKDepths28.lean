/- LadderDepths, walked. -/
import Derived.Test.YtbibndpkcilblaaKDo2
namespace Go.Proofs.Ytbibndpkcilblaa
open Go.RowKit Go.Shelf Go.Sort
set_option maxRecDepth 100000

set_option maxHeartbeats 16000000 in
theorem depths_walk (start : Int) (A : Option Addr) (c : Nat) (p : List RowC) (hw : RowsWf p) (rows : Int) (w : World) (hs : SlC w w.heap.size A p) :
    Calls Try.prog 6 #[.agg #[.int .i64 start, .slice A p.length c], .int .i64 rows] w fun e w' => e = .returned (.bool true) ∧ Below w.heap.size w w' := by
  have hF := rf_front start A c p w hs
  have c0 := hF.cb0
  have c1 := hF.cb1
  have HF := Lib.hid hF
  have HGr : Hid (∀ W, RfF start A c p w.heap.size w W → Calls Try.prog 9 #[.agg #[.int .i64 start, .slice A p.length c], .slice none 0 0] W fun e w' => BlPost (grtB p 0) W e w') := fun W h => lgreat_any start A c p none 0 0 W h.sl
  have HCk : Hid (∀ W, RfF start A c p w.heap.size w W → Calls Try.prog 16 #[.agg #[.int .i64 start, .slice A p.length c]] W fun e w' => RetE (chartE start p) W e w') := fun W h => h.check
  obtain ⟨z, hz⟩ : ∃ z, z = grtB p 0 := ⟨_, rfl⟩
  rw [← hz] at HGr
  have HZ := Lib.hid hz
  obtain ⟨x, hx⟩ : ∃ x, x = chartE start p := ⟨_, rfl⟩
  rw [← hx] at HCk
  have HX := Lib.hid hx
  have HW := Lib.hid hw
  clear hF hs hz hw hx
  go_enter Try.func6, Try.ntmps6
  go_wp2_with fail
  refine (alive_any _).mono ?_
  rintro e w1 ⟨rfl, hb1⟩
  have h1 := HF.out.to hb1
  have c0' := h1.cb0
  have c1' := h1.cb1
  have HC := Lib.hid (HGr.out w1 h1)
  have HF1 := Lib.hid h1
  clear h1 hb1 c0 c1 HF HGr
  go_wp2_with fail
  refine HC.out.mono ?_
  rintro e w2 ⟨rfl, hb2⟩
  have h2 := HF1.out.to hb2
  have c0 := h2.cb0
  have c1 := h2.cb1
  have HF2 := Lib.hid h2
  clear h2 hb2 c0' c1' HF1 HC
  cases z with
  | true =>
    go_wp2
    go_ret
    exact ⟨rfl, HF2.out.bel⟩
  | false =>
  have hg := grt_no HZ.out.symm
  have HC := Lib.hid (HCk.out w2 HF2.out)
  go_wp2_with fail
  refine HC.out.mono ?_
  rintro e w3 ⟨rfl, hb3⟩
  have h3 := HF2.out.to hb3
  have c0' := h3.cb0
  have c1' := h3.cb1
  have HF3 := Lib.hid h3
  clear h3 hb3 c0 c1 HF2 HC HCk HZ
  by_cases hne : x = 0
  case neg =>
    have hne' : (x != 0) = true := by simp [hne]
    clear hg
    go_wp2
    go_ret
    exact ⟨rfl, HF3.out.bel⟩
  have he : chartE start p = 0 := HX.out.symm.trans hne
  subst hne
  have h12 : p.length ≤ 12 := great_rows hg.1 he
  have HE := Lib.hid he
  have H12 := Lib.hid h12
  have hG := chart_grd he h12
  obtain ⟨t, ht⟩ : ∃ t, t = workX start p := ⟨_, rfl⟩
  rw [← ht] at hG
  have HT := Lib.hid ht
  have HG := Lib.hid hG
  clear he h12 hg hG ht HX
  have hof := Of_ok start A c p HW.out HE.out H12.out w3 HF3.out.sl
  rw [← HT.out] at hof
  have HC := Lib.hid hof
  clear hof
  go_wp2_with fail
  refine HC.out.mono ?_
  rintro e w6 ⟨vL, vs, rfl, hv, ho, hb6⟩
  obtain ⟨la, lc, rfl⟩ := pxL_form ho
  have h6 := HF3.out.to hb6
  have c0 := h6.cb0
  have c1 := h6.cb1
  have HL6 := Lib.hid (slL_of ho rfl hv (fun o h => ho.all o (by simp [h])))
  have HF6 := Lib.hid h6
  clear h6 hv ho hb6 c0' c1' HF3 HC
  obtain ⟨lv, hlv⟩ : ∃ lv, lv = t.next := ⟨_, rfl⟩
  have HLv := Lib.hid hlv
  obtain ⟨M, hM⟩ : ∃ M, M = t.lp.length := ⟨_, rfl⟩
  have HMe := Lib.hid hM
  have hrow := Row_any start A c p HW.out HE.out H12.out p.length (Nat.le_refl _) (lv : Int) (M : Int) (by rw [← HT.out, hlv]; exact HG.out.g.lv_) (by rw [← HT.out, hM]; exact HG.out.r1) w6 HF6.out.sl
  have HC := Lib.hid hrow
  rw [← hM]
  clear hrow hlv hM
  go_wp2_with fail
  refine HC.out.mono ?_
  rintro e w7 ⟨rfl, hb7⟩
  have h7 := HF6.out.to hb7
  have c0' := h7.cb0
  have c1' := h7.cb1
  have HL7 := Lib.hid ((HL6.out.below hb7).more hb7.size)
  have HF7 := Lib.hid h7
  have hsf := Safe_ok start A c p HW.out H12.out HE.out rows w7 h7.sl
  rw [← HT.out] at hsf
  obtain ⟨S, hS⟩ : ∃ S, S = listN t.lp.length (safeF t rows) := ⟨_, rfl⟩
  rw [← hS] at hsf
  have HS := Lib.hid hS
  obtain ⟨sn, hsn⟩ : ∃ sn, sn = S.length := ⟨_, rfl⟩
  have HSn := Lib.hid hsn
  have HSm : Hid (S.length ≤ 2600) := by have := listN_len t.lp.length (safeF t rows); have := HG.out.ll; show _ ≤ _; rw [hS]; omega
  clear HC
  have HC := Lib.hid hsf
  clear h7 hb7 c0 c1 HF6 HL6 hsf hS hsn
  go_wp2_with fail
  refine HC.out.mono ?_
  rintro e w8 ⟨v, rfl, ho, hb8⟩
  obtain ⟨sa, sc, rfl⟩ := pxJ_is ho HSn.out.symm
  have HX8 : Hid (ExS start A c p w.heap.size la sa sa t.lp S S w w8) := ⟨HF7.out.to hb8, (HL7.out.below hb8).more hb8.size, pxJ_lies ho, pxJ_lies ho⟩
  clear ho hb8 c0' c1' HF7 HL7 HC
  have hlM : lv ≤ M := by have := HG.out.g.le; have := HMe.out; have := HLv.out; omega
  have hM2 : M ≤ 2600 := by have := HG.out.ll; have := HMe.out; omega
  have z1 : decide ((lv : Int) < 0) = false := decide_eq_false (by omega)
  have z2 : decide ((M : Int) < (M : Int)) = false := decide_eq_false (by omega)
  have z3 : decide ((M : Int) > (M : Int)) = false := decide_eq_false (by omega)
  go_wp2
  clear z1 z2 z3
  go_loopw [13] (fun s13 wr => ∃ i : Nat, lv ≤ i ∧ i ≤ M ∧ s13 = .int .i64 (i : Int) ∧ Hid (ExS start A c p w.heap.size la sa sa t.lp S S w wr)) (fun s13 _ => M - (intOf s13).toNat)
  case atStart => exact ⟨lv, Nat.le_refl _, hlM, rfl, HX8.out⟩
  case round =>
    obtain ⟨i, hi0, hi, rfl, HX⟩ := hrel
    clear HX8
    by_cases hlt : i < M
    case neg =>
      have him : i = M := by omega
      subst him
      have hltI : ¬ (i : Int) < (i : Int) := by omega
      go_wp2
      go_ret
      exact ⟨rfl, HX.out.ff.bel⟩
    have hltI : (i : Int) < (M : Int) := by omega
    have hw1 : IntKind.i64.wrap ((lv : Int) + 20) = (lv : Int) + 20 := IntWalk.i64_in _ (by omega)
    by_cases h20 : (i : Int) < (lv : Int) + 20
    case neg =>
      have z1 : decide ((i : Int) < (lv : Int) + 20) = false := decide_eq_false h20
      go_wp2
      go_ret
      exact ⟨rfl, HX.out.ff.bel⟩
    have hit : i < t.lp.length := by have := HMe.out; omega
    have hlt2 : t.next ≤ i := by have := HLv.out; omega
    have hal := al_t wr (.cells #[.int .i64 (i : Int)] 3)
    have HXa := Lib.hid (HX.out.to hal)
    have hru := Run_x start A c p HW.out (fun _ => H12.out) (some ⟨wr.heap.size, 0, none⟩) 1 [(i : Int)] (by simp) (wr.alloc (.cells #[.int .i64 (i : Int)] 3)) HXa.out.ff.sl (lit_sl wr [(i : Int)] _ rfl)
    rw [runS_ok HE.out (by rw [← HT.out]; exact one_dropB hit hlt2), ← HT.out, show [(i : Int)].length = 1 from rfl] at hru
    obtain ⟨R, hR⟩ : ∃ R, R = listN t.lp.length (runF t.lp [(i : Int)]) := ⟨_, rfl⟩
    rw [← hR] at hru
    have HR := Lib.hid hR
    obtain ⟨rn, hrn⟩ : ∃ rn, rn = R.length := ⟨_, rfl⟩
    have HRn := Lib.hid hrn
    have hrm : rn ≤ 2600 := by have := listN_len t.lp.length (runF t.lp [(i : Int)]); have := HG.out.ll; rw [hrn, hR]; omega
    have HC := Lib.hid hru
    have HIt := Lib.hid hit
    have HLt := Lib.hid hlt2
    have HK : Hid (lv ≤ i + 1 ∧ i + 1 ≤ M ∧ i < M) := ⟨by omega, hlt, hlt⟩
    have c0 := HX.out.ff.cb0
    have c1 := HX.out.ff.cb1
    clear hal hru hR hrn hit hlt2 HX
    go_wp2_with fail
    refine HC.out.mono ?_
    rintro e w9 ⟨v, rfl, ho, hb9⟩
    obtain ⟨ra, rc, rfl⟩ := pxJ_is ho HRn.out.symm
    have hx9 := HXa.out.to hb9
    have HX9 : Hid (ExS start A c p w.heap.size la sa ra t.lp S R w w9) := ⟨hx9.ff, hx9.l, hx9.r, pxJ_lies ho⟩
    have c0' := hx9.ff.cb0
    have c1' := hx9.ff.cb1
    have hdp := Depth_ok start A c p HW.out H12.out HE.out i (by rw [← HT.out]; exact HIt.out) (by rw [← HT.out]; exact HLt.out) w9 hx9.ff.sl
    rw [← HT.out] at hdp
    obtain ⟨dz, hdz⟩ : ∃ dz, dz = depZ t.lp i := ⟨_, rfl⟩
    rw [← hdz] at hdp
    have HDz := Lib.hid hdz
    clear HC
    have HC := Lib.hid hdp
    clear hx9 ho hb9 c0 c1 hdp hdz HXa
    go_wp2_with fail
    refine HC.out.mono ?_
    rintro e w10 ⟨rfl, hb10⟩
    have HX10 := Lib.hid (HX9.out.to hb10)
    have c0 := HX10.out.ff.cb0
    have c1 := HX10.out.ff.cb1
    clear hb10 c0' c1' HX9 HC
    have hpk := H12.out
    have hrowi : rowN t.lp i = (p.length : Int) := (((grd_n HG.out.g).row i HIt.out).2.2).1 HLt.out
    have HL0 : Hid (LowI t.lp i (R.take 0) (p.length : Int)) := by
      have := LowI.start t.lp i
      rw [hrowi] at this
      exact this
    have HRi := Lib.hid hrowi
    clear hrowi
    go_wp2
    go_loopw [18, 19] (fun s18 s19 wr => ∃ (k : Nat) (low : Int), k ≤ rn ∧ s19 = .int .i64 (k : Int) ∧ s18 = .int .i64 low ∧ 0 ≤ low ∧ low ≤ 12 ∧ Hid (LowI t.lp i (R.take k) low) ∧ Hid (ExS start A c p w.heap.size la sa ra t.lp S R w wr)) (fun _ s19 _ => rn - (intOf s19).toNat)
    case atStart => exact ⟨0, (p.length : Int), Nat.zero_le _, rfl, rfl, by omega, by omega, HL0.out, HX10.out⟩
    case round =>
      obtain ⟨k, low, hk, rfl, rfl, hl0, hl1, HLo, HX⟩ := hrel
      clear HX10 HL0 c0 c1
      by_cases hlk : k < rn
      case pos =>
        have hkE : k < R.length := by have := HRn.out; omega
        obtain ⟨eb, off, y, hea, hB, hr, q0⟩ := HX.out.e.at_ hkE
        subst hea
        have hy := sl_mem hr
        rw [HR.out] at hy
        obtain ⟨j, hj, rfl, -⟩ := listN_mem.1 hy
        obtain ⟨lb, lo, l, A', C', hla, hlB, hl, q1, -⟩ := HX.out.l.at_ hj
        subst hla
        have hrow : rowN t.lp j = l.row := by unfold rowN; rw [List.getD_eq_getElem?_getD, hl]; rfl
        have HL2 := Lib.hid (low_next HLo.out hr)
        have hrw := (grd_n HG.out.g).row j hj
        rw [hrow] at HL2 hrw
        obtain ⟨rw_, hrw_⟩ : ∃ r, r = l.row := ⟨_, rfl⟩
        rw [← hrw_] at HL2 hrw q1
        have hr1 : 0 ≤ rw_ := hrw.1
        have hr2 : rw_ ≤ 12 := by have := hrw.2.1; omega
        have hjM : (j : Int) < (M : Int) := by have := HMe.out; omega
        have hj0 : (0 : Int) ≤ (j : Int) := by omega
        have z1 : decide ((j : Int) < 0) = false := decide_eq_false (by omega)
        have z2 : decide ((M : Int) ≤ (j : Int)) = false := decide_eq_false (by omega)
        have z3 : decide ((j : Int) ≥ (M : Int)) = false := decide_eq_false (by omega)
        have z4 : decide (M ≤ j) = false := decide_eq_false (by omega)
        have hltk : (k : Int) < (rn : Int) := by omega
        have hk0 : (0 : Int) ≤ (k : Int) := by omega
        have HK2 : Hid (k + 1 ≤ rn ∧ k < rn) := ⟨hlk, hlk⟩
        clear hr hB hkE hy hj hl hlB hrow hrw hrw_ HLo
        go_wp2
        go_roundw
        case rel => exact ⟨k + 1, min low rw_, HK2.out.1, by go_num, rfl, by omega, by omega, HL2.out, HX.out⟩
        case measure => have := HK2.out.2; simp [intOf]; omega
      case neg =>
        have hkn : k = rn := by omega
        subst hkn
        have hlo := HLo.out
        rw [show R.take k = R by rw [HRn.out]; exact List.take_length] at hlo
        have hz := hlo.done (grd_n HG.out.g) HIt.out HLt.out (fun x => by rw [HR.out]; exact run_list_mark)
        rw [HRi.out, ← HDz.out] at hz
        have hhs := safe_has (rows := rows) HIt.out HLt.out
        rw [← HS.out, ← HDz.out] at hhs
        have hc := rhas_any sa sc S (i : Int) (by have := HSm.out; omega) wr HX.out.r
        unfold hasB at hhs
        rw [hhs, ← HSn.out] at hc
        subst hz
        obtain ⟨z, hzz⟩ : ∃ z, z = decide ((p.length : Int) - low + 1 ≤ rows) := ⟨_, rfl⟩
        rw [← hzz] at hc
        have HC := Lib.hid hc
        have z1 : decide ((p.length : Int) - low + 1 ≤ rows) = z := hzz.symm
        have hltk : ¬ (k : Int) < (k : Int) := by omega
        have c0 := HX.out.ff.cb0
        have c1 := HX.out.ff.cb1
        have HX2 : Hid (ExS start A c p w.heap.size la sa sa t.lp S S w wr) := ⟨HX.out.ff, HX.out.l, HX.out.r, HX.out.r⟩
        clear hlo hhs hc hzz HLo HX HDz
        cases z with
        | true =>
          go_wp2_with (go_at_call 19; refine HC.out.mono ?_; rintro e w' ⟨rfl, rfl⟩)
          go_roundw
          case rel => exact ⟨i + 1, HK.out.1, HK.out.2.1, by go_num, HX2.out⟩
          case measure => have := HK.out.2; simp [intOf]; omega
        | false =>
          go_wp2_with (go_at_call 19; refine HC.out.mono ?_; rintro e w' ⟨rfl, rfl⟩)
          go_roundw
          case rel => exact ⟨i + 1, HK.out.1, HK.out.2.1, by go_num, HX2.out⟩
          case measure => have := HK.out.2; simp [intOf]; omega
end Go.Proofs.Ytbibndpkcilblaa
