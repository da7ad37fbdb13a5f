/- LadderStops, walked. -/
import Derived.Test.YtbibndpkcilblaaKSo2
import Derived.Deep.RegionHeld3
import Derived.Deep.QuietTactic
import Derived.BigQuiet
import Derived.Deep.DeepCutAuto
namespace Go.Proofs.Ytbibndpkcilblaa
open Go.RowKit Go.Shelf Go.Sort
set_option maxRecDepth 100000

set_option maxHeartbeats 16000000 in
theorem stops_walk (start : Int) (A : Option Addr) (c : Nat) (p : List RowC) (hw : RowsWf p) (da : Option Addr) (dc : Nat) (drop : List Int) (w : World) (hs : SlC w w.heap.size A p) (hd : SlI w w.heap.size da drop) :
    Calls Try.prog 5 #[.agg #[.int .i64 start, .slice A p.length c], .slice da drop.length dc] w fun e w' => e = .returned (.bool true) ∧ Below w.heap.size w w' := by
  have hF := rf_front start A c p w hs
  have c0 := hF.cb0
  have c1 := hF.cb1
  have HF := Lib.hid hF
  have HSd : Hid (∀ W, Below w.heap.size w W → SlI W W.heap.size da drop) := fun W hb => (hd.below hb).more hb.size
  obtain ⟨D, hDe⟩ : ∃ D, D = drop.length := ⟨_, rfl⟩
  have HDe := Lib.hid hDe
  have HGr : Hid (∀ W, RfF start A c p w.heap.size w W → Calls Try.prog 9 #[.agg #[.int .i64 start, .slice A p.length c], .slice da D dc] W fun e w' => BlPost (grtB p D) W e w') := fun W h => lgreat_any start A c p da D dc W h.sl
  have HCk : Hid (∀ W, RfF start A c p w.heap.size w W → Calls Try.prog 16 #[.agg #[.int .i64 start, .slice A p.length c]] W fun e w' => RetE (chartE start p) W e w') := fun W h => h.check
  rw [← hDe]
  obtain ⟨z, hz⟩ : ∃ z, z = grtB p D := ⟨_, rfl⟩
  rw [← hz] at HGr
  have HZ := Lib.hid hz
  obtain ⟨x, hx⟩ : ∃ x, x = chartE start p := ⟨_, rfl⟩
  rw [← hx] at HCk
  have HX := Lib.hid hx
  have HW := Lib.hid hw
  clear hF hs hd hDe hz hw hx
  go_enter Try.func5, Try.ntmps5
  go_wp2_with fail
  refine (alive_any _).mono ?_
  rintro e w1 ⟨rfl, hb1⟩
  have h1 := HF.out.to hb1
  have c0' := h1.cb0
  have c1' := h1.cb1
  have HC := Lib.hid (HGr.out w1 h1)
  have HF1 := Lib.hid h1
  clear h1 hb1 c0 c1 HF HGr
  go_wp2_with fail
  refine HC.out.mono ?_
  rintro e w2 ⟨rfl, hb2⟩
  have h2 := HF1.out.to hb2
  have c0 := h2.cb0
  have c1 := h2.cb1
  have HF2 := Lib.hid h2
  clear h2 hb2 c0' c1' HF1 HC
  cases z with
  | true =>
    go_wp2
    go_ret
    exact ⟨rfl, HF2.out.bel⟩
  | false =>
  have hg := grt_no HZ.out.symm
  have HC := Lib.hid (HCk.out w2 HF2.out)
  go_wp2_with fail
  refine HC.out.mono ?_
  rintro e w3 ⟨rfl, hb3⟩
  have h3 := HF2.out.to hb3
  have c0' := h3.cb0
  have c1' := h3.cb1
  have HF3 := Lib.hid h3
  clear h3 hb3 c0 c1 HF2 HC HCk HZ
  by_cases hne : x = 0
  case neg =>
    have hne' : (x != 0) = true := by simp [hne]
    clear hg
    go_wp2
    go_ret
    exact ⟨rfl, HF3.out.bel⟩
  have he : chartE start p = 0 := HX.out.symm.trans hne
  subst hne
  have h12 : p.length ≤ 12 := great_rows hg.1 he
  have HD300 : Hid (D ≤ 300) := hg.2
  have HE := Lib.hid he
  have H12 := Lib.hid h12
  have hG := chart_grd he h12
  have hrl := rows_len he h12
  have hwk := rwk_ch start A c p he h12 w3 HF3.out.sl
  obtain ⟨t, ht⟩ : ∃ t, t = workX start p := ⟨_, rfl⟩
  rw [← ht] at hG hrl hwk
  have HT := Lib.hid ht
  have HG := Lib.hid hG
  have HRl := Lib.hid hrl
  have HC := Lib.hid hwk
  clear he h12 hg hG hrl hwk ht HX
  go_wp2_with fail
  refine HC.out.mono ?_
  rintro e w4 ⟨a, b, xx, r, ca, cb, cx, cr, rfl, hr, hb4⟩
  have h4 := HF3.out.to hb4
  have c0 := h4.cb0
  have c1 := h4.cb1
  have HDr := Lib.hid (rdropped_any a b xx r t.lp.length ca t.bound.length cb t.cross.length cx cr p.length t.next (by have := H12.out; omega) t.lp t.bound t.rows HG.out.g.lv_ da dc drop (by have := HDe.out; have := HD300.out; omega) w4 hr (HSd.out w4 h4.bel))
  rw [← HDe.out, ← HRl.out] at HDr
  have HF4 := Lib.hid h4
  clear h4 hr hb4 c0' c1' HF3 HC
  obtain ⟨z, hz⟩ : ∃ z, z = dropB t.lp.length t.next drop := ⟨_, rfl⟩
  rw [← hz] at HDr
  have HZ := Lib.hid hz
  clear hz
  go_wp2_with fail
  refine HDr.out.mono ?_
  rintro e w5 ⟨rfl, hb5⟩
  have h5 := HF4.out.to hb5
  have c0' := h5.cb0
  have c1' := h5.cb1
  have HF5 := Lib.hid h5
  clear h5 hb5 c0 c1 HF4 HDr
  cases z with
  | false =>
    go_wp2
    go_ret
    exact ⟨rfl, HF5.out.bel⟩
  | true =>
  have HC := Lib.hid (Of_ok start A c p HW.out HE.out H12.out w5 HF5.out.sl)
  rw [← HT.out] at HC
  go_wp2_with fail
  refine HC.out.mono ?_
  rintro e w6 ⟨vL, vs, rfl, hv, ho, hb6⟩
  obtain ⟨la, lc, rfl⟩ := pxL_form ho
  have h6 := HF5.out.to hb6
  have c0 := h6.cb0
  have c1 := h6.cb1
  have HL6 := Lib.hid (slL_of ho rfl hv (fun o h => ho.all o (by simp [h])))
  have HF6 := Lib.hid h6
  clear h6 hv ho hb6 c0' c1' HF5 HC
  have hru := Run_x start A c p HW.out (fun _ => H12.out) da dc drop (by have := HDe.out; have := HD300.out; omega) w6 HF6.out.sl (HSd.out w6 HF6.out.bel)
  rw [runS_ok HE.out (by rw [← HT.out]; exact HZ.out.symm), ← HT.out, ← HDe.out] at hru
  obtain ⟨R, hR⟩ : ∃ R, R = listN t.lp.length (runF t.lp drop) := ⟨_, rfl⟩
  rw [← hR] at hru
  have HC := Lib.hid hru
  have HR := Lib.hid hR
  obtain ⟨rn, hrn⟩ : ∃ rn, rn = R.length := ⟨_, rfl⟩
  have HRn := Lib.hid hrn
  have HRm : Hid (R.length ≤ 2600) := by have := listN_len t.lp.length (runF t.lp drop); have := HG.out.ll; show _ ≤ _; rw [hR]; omega
  clear hru hR hrn
  go_wp2_with fail
  refine HC.out.mono ?_
  rintro e w7 ⟨v, rfl, ho, hb7⟩
  obtain ⟨ra, rc, rfl⟩ := pxJ_is ho HRn.out.symm
  have h7 := HF6.out.to hb7
  have c0' := h7.cb0
  have c1' := h7.cb1
  have HL7 := Lib.hid ((HL6.out.below hb7).more hb7.size)
  have HR7 := Lib.hid (pxJ_lies ho)
  have HF7 := Lib.hid h7
  clear h7 ho hb7 c0 c1 HF6 HL6 HC
  have hst := Stops_x start A c p HW.out (fun _ => H12.out) da dc drop (by have := HDe.out; have := HD300.out; omega) w7 HF7.out.sl (HSd.out w7 HF7.out.bel)
  rw [stopS_ok HE.out (by rw [← HT.out]; exact HZ.out.symm), ← HT.out, ← HDe.out] at hst
  obtain ⟨S, hS⟩ : ∃ S, S = listN t.lp.length (stopF t.lp drop) := ⟨_, rfl⟩
  rw [← hS] at hst
  have HC := Lib.hid hst
  have HS := Lib.hid hS
  obtain ⟨sn, hsn⟩ : ∃ sn, sn = S.length := ⟨_, rfl⟩
  have HSn := Lib.hid hsn
  have HSm : Hid (S.length ≤ 2600) := by have := listN_len t.lp.length (stopF t.lp drop); have := HG.out.ll; show _ ≤ _; rw [hS]; omega
  clear hst hS hsn
  go_wp2_with fail
  refine HC.out.mono ?_
  rintro e w8 ⟨v, rfl, ho, hb8⟩
  obtain ⟨sa, sc, rfl⟩ := pxJ_is ho HSn.out.symm
  have HX8 : Hid (ExS start A c p w.heap.size la ra sa t.lp R S w w8) := ⟨HF7.out.to hb8, (HL7.out.below hb8).more hb8.size, (HR7.out.below hb8).more hb8.size, pxJ_lies ho⟩
  clear ho hb8 c0' c1' HF7 HL7 HR7 HC
  obtain ⟨M, hM⟩ : ∃ M, M = t.lp.length := ⟨_, rfl⟩
  have HMe := Lib.hid hM
  rw [← hM]
  clear hM
  have hsm : sn ≤ 2600 := by have := HSn.out; have := HSm.out; omega
  have hrm : rn ≤ 2600 := by have := HRn.out; have := HRm.out; omega
  go_wp2
  go_loopw [12] (fun s12 wr => ∃ k : Nat, k ≤ sn ∧ s12 = .int .i64 (k : Int) ∧ Hid (ExS start A c p w.heap.size la ra sa t.lp R S w wr)) (fun s12 _ => sn - (intOf s12).toNat)
  case atStart => exact ⟨0, Nat.zero_le _, rfl, HX8.out⟩
  case round =>
    obtain ⟨k, hk, rfl, HX⟩ := hrel
    clear HX8
    obtain ⟨W, hW⟩ : ∃ x : World, x = wr := ⟨_, rfl⟩
    rw [← hW] at HX ⊢
    clear hW
    by_cases hlt : k < sn
    case neg =>
      have hken : k = sn := by omega
      subst hken
      have hltI : ¬ (k : Int) < (k : Int) := by omega
      go_wp2
      go_ret
      exact ⟨rfl, HX.out.ff.bel⟩
    have hkE : k < S.length := by have := HSn.out; omega
    have HX1 := HX
    obtain ⟨sb, off, y, hea, hB, hr, q0⟩ := HX1.out.e.at_ hkE
    subst hea
    have hy := sl_mem hr
    rw [HS.out] at hy
    obtain ⟨m, hm, rfl, hms⟩ := listN_mem.1 hy
    obtain ⟨hp1, hp2, hp3⟩ := stop_plain (grd_n HG.out.g) hm hms
    rw [← HR.out] at hp1 hp2 hp3
    have hpv : 0 < k → ∃ z : Int, S[k - 1]? = some z ∧ z < (m : Int) ∧ W.cell? ⟨sb, off + (k - 1), none⟩ = some (.int .i64 z) := fun h0 => by
      obtain ⟨b2, off2, z, e2, -, hr2, q2⟩ := HX1.out.e.at_ (k := k - 1) (by omega)
      simp only [Option.some.injEq, Addr.mk.injEq] at e2
      obtain ⟨rfl, rfl, -⟩ := e2
      refine ⟨z, hr2, ?_, q2⟩
      rw [HS.out] at hr hr2
      exact listN_next hr2 (by rw [Nat.sub_add_cancel h0]; exact hr)
    have HHr := Lib.hid (fun W' (h : ExS start A c p w.heap.size la ra (some ⟨sb, off, none⟩) t.lp R S w W') => rhas_any ra rc R (m : Int) (by have := HRm.out; omega) W' h.r)
    unfold hasB at hp1
    rw [hp1, ← HRn.out] at HHr
    have HP2 := Lib.hid hp2
    have HP3 := Lib.hid hp3
    have hkd := Kids_ok start A c p HW.out H12.out HE.out m (by rw [← HT.out]; exact hm)
    rw [← HT.out] at hkd
    have HKm : Hid ((listN t.lp.length (kidF t.lp m)).length ≤ 2600) := Nat.le_trans (listN_len _ _) HG.out.ll
    obtain ⟨E, hE⟩ : ∃ E, E = listN t.lp.length (kidF t.lp m) := ⟨_, rfl⟩
    rw [← hE] at hkd HP2 HP3 HKm
    have HKd := Lib.hid hkd
    obtain ⟨en, hen⟩ : ∃ en, en = E.length := ⟨_, rfl⟩
    have HEn := Lib.hid hen
    have hem : en ≤ 2600 := by have := HKm.out; omega
    have HM1 := Lib.hid hm
    have hmM : (m : Int) < (M : Int) := by have := HMe.out; omega
    have hm0 : (0 : Int) ≤ (m : Int) := by omega
    have z1 : decide ((m : Int) < 0) = false := decide_eq_false (by omega)
    have z2 : decide ((M : Int) ≤ (m : Int)) = false := decide_eq_false (by omega)
    have z3 : decide ((m : Int) ≥ (M : Int)) = false := decide_eq_false (by omega)
    have z4 : decide (M ≤ m) = false := decide_eq_false (by omega)
    have hltI : (k : Int) < (sn : Int) := by omega
    have hk0 : (0 : Int) ≤ (k : Int) := by omega
    have HK : Hid (k + 1 ≤ sn ∧ k < sn) := ⟨hlt, hlt⟩
    have HQ : Hid (∀ W', ExS start A c p w.heap.size la ra (some ⟨sb, off, none⟩) t.lp R S w W' → W'.cell? ⟨sb, off + k, none⟩ = some (.int .i64 (m : Int))) := fun W' h => by
      obtain ⟨b2, off2, z, e2, -, hr2, q2⟩ := h.e.at_ hkE
      simp only [Option.some.injEq, Addr.mk.injEq] at e2
      obtain ⟨rfl, rfl, -⟩ := e2
      rw [hr] at hr2
      obtain rfl := Option.some.inj hr2
      exact q2
    have HHw := Lib.hid (fun n => (HHr.out (W.drewN n) (HX1.out.to (below_drewT (Below.refl _ _) n))).mono fun e w' (h : _ ∧ _) => (And.intro h.1 h.2.symm))
    clear hp1 hp2 hp3 hkd hE hen hB hr hy hms hkE hm
    go_upto_region 12 with fail
    go_cut [109] (fun s109 wr => s109 = .bool false ∧ Hid (ExS start A c p w.heap.size la ra (some ⟨sb, off, none⟩) t.lp R S w wr))
    case first =>
      by_cases hkz : k = 0
      · subst hkz
        clear hpv
        rw [Nat.add_zero] at q0
        have z5 : decide ((0 : Int) < 0) = false := rfl
        go_quiet ((go_at_call 19; exact Calls.quiet_of_same (HHw.out _)))
        go_wp2
        go_meet
        exact ⟨rfl, HX1.out.to (below_drewT (Below.refl _ _) _)⟩
      · obtain ⟨z, -, hz, qz⟩ := hpv (by omega)
        have z5 : 0 < k := by omega
        have z6 : (0 : Int) < (k : Int) := by omega
        have hw1 : IntKind.i64.wrap ((k : Int) - 1) = (k : Int) - 1 := IntWalk.i64_in _ (by omega)
        have z7 : (0 : Int) ≤ (k : Int) - 1 := by omega
        have z8 : (k : Int) - 1 < (sn : Int) := by omega
        have z9 : ((k : Int) - 1).toNat = k - 1 := by omega
        have z10 : decide ((m : Int) ≤ z) = false := decide_eq_false (by omega)
        have z11 : decide (z ≥ (m : Int)) = false := decide_eq_false (by omega)
        clear hz
        go_quiet ((go_at_call 19; exact Calls.quiet_of_same (HHw.out _)))
        go_wp2
        go_meet
        exact ⟨rfl, HX1.out.to (below_drewT (Below.refl _ _) _)⟩
    case rest =>
      obtain ⟨rfl, HX2⟩ := hcut
      clear hpv q0 HHw HX1 HX
      obtain ⟨W2, hW2⟩ : ∃ x : World, x = wc := ⟨_, rfl⟩
      rw [← hW2] at HX2 ⊢
      clear hW2
      have HXd := Lib.hid (HX2.out.to (Below.drew (Below.refl _ _)))
      have HC := Lib.hid (HKd.out W2.drew HXd.out.ff.sl)
      have HKc := Lib.hid (And.intro HXd.out.ff.cb0 (And.intro HXd.out.ff.cb1 (HQ.out _ HXd.out)))
      go_upto_region 14 with fail
      go_region_held3 (fun W' => W'.cell? ⟨w.heap.size, 0, none⟩ = some (.int .i64 start) ∧ W'.cell? ⟨w.heap.size, 1, none⟩ = some (.slice A p.length c) ∧ W'.cell? ⟨sb, off + k, none⟩ = some (.int .i64 (m : Int)))
        (first | (with_reducible exact HKc.out) | (with_reducible exact HKw.out) | fail)
        (first | (go_at_call 22; refine HC.out.mono ?_; rintro e ww ⟨v, rfl, ho, hbw⟩; have hxw := HXd.out.to hbw; have HKw := Lib.hid (And.intro hxw.ff.cb0 (And.intro hxw.ff.cb1 (HQ.out _ hxw))); obtain ⟨ka, kc, rfl⟩ := pxJ_is ho HEn.out.symm; have HY0 := Lib.hid (And.intro hxw (pxJ_lies ho)); clear ho hbw hxw))
      clear HKc HKw HXd HC HKd
      go_wp2
      go_loopw [15, 16, 17] (fun s15 s16 s17 wr => ∃ n : Nat, n ≤ en ∧ s17 = .int .i64 (n : Int) ∧ s15 = .bool ((E.take n).any fun e => hasB R e) ∧ s16 = .bool ((E.take n).any fun e => !hasB R e) ∧ Hid (ExS start A c p w.heap.size la ra (some ⟨sb, off, none⟩) t.lp R S w wr ∧ SlI wr wr.heap.size ka E)) (fun _ _ s17 _ => en - (intOf s17).toNat)
      case atStart => exact ⟨0, Nat.zero_le _, rfl, rfl, rfl, HY0.out⟩
      case round =>
        obtain ⟨n, hn, rfl, rfl, rfl, HY⟩ := hrel
        clear HY0
        by_cases hltn : n < en
        case pos =>
          have hnE : n < E.length := by have := HEn.out; omega
          obtain ⟨eb, eo, y, hea, hB, hr, q0⟩ := HY.out.2.at_ hnE
          subst hea
          have HN1 := Lib.hid (any_next (f := fun e => hasB R e) hr)
          have HN2 := Lib.hid (any_next (f := fun e => !hasB R e) hr)
          have hc := rhas_any ra rc R y (by have := HRm.out; omega) wr HY.out.1.r
          obtain ⟨z, hz⟩ : ∃ z, z = hasB R y := ⟨_, rfl⟩
          have hz' : (R.any fun x => decide (x = y)) = z := hz.symm
          rw [hz', ← HRn.out] at hc
          rw [← hz] at HN1 HN2
          have HC := Lib.hid hc
          have hltI2 : (n : Int) < (en : Int) := by omega
          have hn0 : (0 : Int) ≤ (n : Int) := by omega
          have HK2 : Hid (n + 1 ≤ en ∧ n < en) := ⟨hltn, hltn⟩
          clear hr hB hnE hc hz hz'
          cases z with
          | true =>
            go_wp2_with (go_at_call 19; refine HC.out.mono ?_; rintro e w' ⟨rfl, rfl⟩)
            go_roundw
            case rel => exact ⟨n + 1, HK2.out.1, by go_num, by rw [HN1.out, Bool.or_true], by rw [HN2.out, Bool.not_true, Bool.or_false], HY.out⟩
            case measure => have := HK2.out.2; simp [intOf]; omega
          | false =>
            go_wp2_with (go_at_call 19; refine HC.out.mono ?_; rintro e w' ⟨rfl, rfl⟩)
            go_roundw
            case rel => exact ⟨n + 1, HK2.out.1, by go_num, by rw [HN1.out, Bool.or_false], by rw [HN2.out, Bool.not_false, Bool.or_true], HY.out⟩
            case measure => have := HK2.out.2; simp [intOf]; omega
        case neg =>
          have hken : n = en := by omega
          subst hken
          have hta : E.take n = E := by rw [HEn.out]; exact List.take_length
          rw [hta, HP2.out]
          have hltI2 : ¬ (n : Int) < (n : Int) := by omega
          obtain ⟨nb, hnb⟩ : ∃ nb, nb = E.any fun e => !hasB R e := ⟨_, rfl⟩
          have hp3 := HP3.out
          rw [← hnb] at hp3 ⊢
          obtain ⟨lb, lo, l, A', C', hla, hlB, hl, q1, -⟩ := HY.out.1.l.at_ HM1.out
          subst hla
          have hrow : rowN t.lp m = l.row := by unfold rowN; rw [List.getD_eq_getElem?_getD, hl]; rfl
          rw [hrow] at hp3
          have q0 := HQ.out _ HY.out.1
          clear hnb hta hl hlB hrow
          cases nb with
          | true =>
            clear hp3
            go_wp2
            go_roundw
            case rel => exact ⟨k + 1, HK.out.1, by go_num, HY.out.1⟩
            case measure => have := HK.out.2; simp [intOf]; omega
          | false =>
            have y1 : decide (l.row > 0) = false := hp3.resolve_left (by decide)
            have y2 : decide (0 < l.row) = false := y1
            go_wp2
            go_roundw
            case rel => exact ⟨k + 1, HK.out.1, by go_num, HY.out.1⟩
            case measure => have := HK.out.2; simp [intOf]; omega
end Go.Proofs.Ytbibndpkcilblaa
