/- LadderMore, walked. -/
import Derived.Test.YtbibndpkcilblaaKMo2
import Derived.Deep.RegionHeld3
namespace Go.Proofs.Ytbibndpkcilblaa
open Go.RowKit Go.Shelf Go.Sort
set_option maxRecDepth 100000

set_option maxHeartbeats 16000000 in
theorem more_walk (start : Int) (A : Option Addr) (c : Nat) (p : List RowC) (hw : RowsWf p) (da : Option Addr) (dc : Nat) (drop : List Int) (hcap : drop.length ≤ dc) (less : Int) (w : World) (hs : SlC w w.heap.size A p) (hd : SlI w w.heap.size da drop) :
    Calls Try.prog 4 #[.agg #[.int .i64 start, .slice A p.length c], .slice da drop.length dc, .int .i64 less] w fun e w' => e = .returned (.bool true) ∧ Below w.heap.size w w' := by
  have hF := rf_front start A c p w hs
  have c0 := hF.cb0
  have c1 := hF.cb1
  have HF := Lib.hid hF
  have HSd : Hid (∀ W, Below w.heap.size w W → SlI W W.heap.size da drop) := fun W hb => (hd.below hb).more hb.size
  obtain ⟨D, hDe⟩ : ∃ D, D = drop.length := ⟨_, rfl⟩
  have HDe := Lib.hid hDe
  have HGr : Hid (∀ W, RfF start A c p w.heap.size w W → Calls Try.prog 9 #[.agg #[.int .i64 start, .slice A p.length c], .slice da D dc] W fun e w' => BlPost (grtB p D) W e w') := fun W h => lgreat_any start A c p da D dc W h.sl
  have HCk : Hid (∀ W, RfF start A c p w.heap.size w W → Calls Try.prog 16 #[.agg #[.int .i64 start, .slice A p.length c]] W fun e w' => RetE (chartE start p) W e w') := fun W h => h.check
  rw [← hDe]
  obtain ⟨z, hz⟩ : ∃ z, z = grtB p D := ⟨_, rfl⟩
  rw [← hz] at HGr
  have HZ := Lib.hid hz
  obtain ⟨x, hx⟩ : ∃ x, x = chartE start p := ⟨_, rfl⟩
  rw [← hx] at HCk
  have HX := Lib.hid hx
  have HW := Lib.hid hw
  clear hF hs hd hDe hz hw hx
  go_enter Try.func4, Try.ntmps4
  go_wp2_with fail
  refine (alive_any _).mono ?_
  rintro e w1 ⟨rfl, hb1⟩
  have h1 := HF.out.to hb1
  have c0' := h1.cb0
  have c1' := h1.cb1
  have HC := Lib.hid (HGr.out w1 h1)
  have HF1 := Lib.hid h1
  clear h1 hb1 c0 c1 HF HGr
  go_wp2_with fail
  refine HC.out.mono ?_
  rintro e w2 ⟨rfl, hb2⟩
  have h2 := HF1.out.to hb2
  have c0 := h2.cb0
  have c1 := h2.cb1
  have HF2 := Lib.hid h2
  clear h2 hb2 c0' c1' HF1 HC
  cases z with
  | true =>
    go_wp2
    go_ret
    exact ⟨rfl, HF2.out.bel⟩
  | false =>
  have hg := grt_no HZ.out.symm
  have HC := Lib.hid (HCk.out w2 HF2.out)
  go_wp2_with fail
  refine HC.out.mono ?_
  rintro e w3 ⟨rfl, hb3⟩
  have h3 := HF2.out.to hb3
  have c0' := h3.cb0
  have c1' := h3.cb1
  have HF3 := Lib.hid h3
  clear h3 hb3 c0 c1 HF2 HC HCk HZ
  by_cases hne : x = 0
  case neg =>
    have hne' : (x != 0) = true := by simp [hne]
    clear hg
    go_wp2
    go_ret
    exact ⟨rfl, HF3.out.bel⟩
  have he : chartE start p = 0 := HX.out.symm.trans hne
  subst hne
  have h12 : p.length ≤ 12 := great_rows hg.1 he
  have HD300 : Hid (D ≤ 300) := hg.2
  have HE := Lib.hid he
  have H12 := Lib.hid h12
  have hG := chart_grd he h12
  have hrl := rows_len he h12
  have hwk := rwk_ch start A c p he h12 w3 HF3.out.sl
  obtain ⟨t, ht⟩ : ∃ t, t = workX start p := ⟨_, rfl⟩
  rw [← ht] at hG hrl hwk
  have HT := Lib.hid ht
  have HG := Lib.hid hG
  have HRl := Lib.hid hrl
  have HC := Lib.hid hwk
  clear he h12 hg hG hrl hwk ht HX
  go_wp2_with fail
  refine HC.out.mono ?_
  rintro e w4 ⟨a, b, xx, r, ca, cb, cx, cr, rfl, hr, hb4⟩
  have h4 := HF3.out.to hb4
  have c0 := h4.cb0
  have c1 := h4.cb1
  have HDr := Lib.hid (rdropped_any a b xx r t.lp.length ca t.bound.length cb t.cross.length cx cr p.length t.next (by have := H12.out; omega) t.lp t.bound t.rows HG.out.g.lv_ da dc drop (by have := HDe.out; have := HD300.out; omega) w4 hr (HSd.out w4 h4.bel))
  rw [← HDe.out, ← HRl.out] at HDr
  have HF4 := Lib.hid h4
  clear h4 hr hb4 c0' c1' HF3 HC
  obtain ⟨z, hz⟩ : ∃ z, z = dropB t.lp.length t.next drop := ⟨_, rfl⟩
  rw [← hz] at HDr
  have HZ := Lib.hid hz
  clear hz
  go_wp2_with fail
  refine HDr.out.mono ?_
  rintro e w5 ⟨rfl, hb5⟩
  have h5 := HF4.out.to hb5
  have c0' := h5.cb0
  have c1' := h5.cb1
  have HF5 := Lib.hid h5
  clear h5 hb5 c0 c1 HF4 HDr
  cases z with
  | false =>
    go_wp2
    go_ret
    exact ⟨rfl, HF5.out.bel⟩
  | true =>
  by_cases h0 : less < 0
  · have z1 : decide (less < 0) = true := decide_eq_true h0
    go_wp2
    go_ret
    exact ⟨rfl, HF5.out.bel⟩
  have z1 : decide (less < 0) = false := decide_eq_false h0
  by_cases h1 : (D : Int) < less
  · have z2 : decide ((D : Int) < less) = true := decide_eq_true h1
    have z3 : decide (less > (D : Int)) = true := decide_eq_true h1
    go_wp2
    go_ret
    exact ⟨rfl, HF5.out.bel⟩
  have z2 : decide ((D : Int) < less) = false := decide_eq_false h1
  have z3 : decide (less > (D : Int)) = false := decide_eq_false h1
  obtain ⟨q, rfl⟩ : ∃ q : Nat, less = (q : Int) := ⟨less.toNat, by omega⟩
  obtain ⟨m, hm⟩ : ∃ m : Nat, (m : Int) = (D : Int) - (q : Int) := ⟨D - q, by omega⟩
  have hD3 := HD300.out
  have hw1 : IntKind.i64.wrap ((D : Int) - (q : Int)) = (m : Int) := by rw [hm]; exact IntWalk.i64_in _ (by omega)
  have HMq := Lib.hid hm
  have hmD : m ≤ D := by omega
  clear hm
  have hru := Run_x start A c p HW.out (fun _ => H12.out) da dc drop (by have := HDe.out; have := HD300.out; omega) w5 HF5.out.sl (HSd.out w5 HF5.out.bel)
  rw [runS_ok HE.out (by rw [← HT.out]; exact HZ.out.symm), ← HT.out, ← HDe.out] at hru
  obtain ⟨R, hR⟩ : ∃ R, R = listN t.lp.length (runF t.lp drop) := ⟨_, rfl⟩
  rw [← hR] at hru
  have HC := Lib.hid hru
  have HR := Lib.hid hR
  obtain ⟨rn, hrn⟩ : ∃ rn, rn = R.length := ⟨_, rfl⟩
  have HRn := Lib.hid hrn
  have HRm : Hid (R.length ≤ 2600) := by have := listN_len t.lp.length (runF t.lp drop); have := HG.out.ll; show _ ≤ _; rw [hR]; omega
  clear hru hR hrn
  go_wp2_with fail
  refine HC.out.mono ?_
  rintro e w6 ⟨v, rfl, ho, hb6⟩
  obtain ⟨ra, rc, rfl⟩ := pxJ_is ho HRn.out.symm
  have h6 := HF5.out.to hb6
  have c0 := h6.cb0
  have c1 := h6.cb1
  have HR6 := Lib.hid (pxJ_lies ho)
  have HF6 := Lib.hid h6
  clear h6 ho hb6 c0' c1' HF5 HC
  have hcap2 : D ≤ dc := by have := HDe.out; omega
  have hml : (drop.take m).length = m := by rw [List.length_take]; have := HDe.out; omega
  have hru := fun W (h : RfF start A c p w.heap.size w W) => Run_x start A c p HW.out (fun _ => H12.out) da dc (drop.take m) (by omega) W h.sl (sl_take (HSd.out W h.bel) m)
  rw [runS_ok HE.out (dropB_take (by rw [← HT.out]; exact HZ.out.symm) m), ← HT.out, hml] at hru
  obtain ⟨S, hS⟩ : ∃ S, S = listN t.lp.length (runF t.lp (drop.take m)) := ⟨_, rfl⟩
  rw [← hS] at hru
  have HC := Lib.hid (hru w6.drew (HF6.out.to (Below.drew (Below.refl _ _))))
  have HS := Lib.hid hS
  obtain ⟨sn, hsn⟩ : ∃ sn, sn = S.length := ⟨_, rfl⟩
  have HSn := Lib.hid hsn
  have HSm : Hid (S.length ≤ 2600) := by have := listN_len t.lp.length (runF t.lp (drop.take m)); have := HG.out.ll; show _ ≤ _; rw [hS]; omega
  have ht := run_takeJ (w := w6.drew) (A := da) (len := D) (c := dc) (n := m) (by omega)
  have z4 : (0 : Int) ≤ (m : Int) := by omega
  have z5 : (m : Int) ≤ (D : Int) := by omega
  have z6 : (m : Int) ≤ (dc : Int) := by omega
  have z7 : (D : Int) ≤ (dc : Int) := by omega
  have HKd := Lib.hid (And.intro (HF6.out.to (Below.drew (Below.refl _ _))).cb0 (HF6.out.to (Below.drew (Below.refl _ _))).cb1)
  clear hru hS hsn hml
  go_upto_region 5 with fail
  go_region_held3 (fun W' => W'.cell? ⟨w.heap.size, 0, none⟩ = some (.int .i64 start) ∧ W'.cell? ⟨w.heap.size, 1, none⟩ = some (.slice A p.length c))
    (first | (with_reducible exact HKd.out) | (with_reducible exact HK7.out) | fail)
    (first | (go_at_call 10; refine HC.out.mono ?_; rintro e w7 ⟨v, rfl, ho, hb7⟩; have h7 := (HF6.out.to (Below.drew (Below.refl _ _))).to hb7; have HK7 := Lib.hid (And.intro h7.cb0 h7.cb1); obtain ⟨sa, sc, rfl⟩ := pxJ_is ho HSn.out.symm; have HX7 : Hid (MoS start A c p w.heap.size ra sa R S w w7) := ⟨h7, (HR6.out.below ((Below.drew (Below.refl _ _)).trans hb7)).more hb7.size, pxJ_lies ho⟩; clear h7 ho hb7))
  have c0n := HX7.out.ff.cb0
  have c1n := HX7.out.ff.cb1
  have hru := Run_x start A c p HW.out (fun _ => H12.out) none 0 [] (by decide) w7 HX7.out.ff.sl SlI.nil
  rw [runS_ok HE.out (by unfold dropB; rfl), ← HT.out, none_nil (grd_n HG.out.g)] at hru
  have HC := Lib.hid hru
  clear hru HF6 HR6 ht hw1 hmD z1 z2 z3 z4 z5 z6 z7 HKd HK7 c0 c1
  go_wp2_with fail
  refine HC.out.mono ?_
  rintro e w8 ⟨v, rfl, ho, hb8⟩
  obtain ⟨na, nc, rfl⟩ := pxJ_is (n := 0) ho rfl
  have HX8 := Lib.hid (HX7.out.to hb8)
  have hsm : sn ≤ 2600 := by have := HSn.out; have := HSm.out; omega
  have hrm : rn ≤ 2600 := by have := HRn.out; have := HRm.out; omega
  clear ho hb8 HX7 HC c0n c1n
  go_wp2
  go_loopw [14] (fun s14 wr => ∃ k : Nat, k ≤ sn ∧ s14 = .int .i64 (k : Int) ∧ Hid (MoS start A c p w.heap.size ra sa R S w wr)) (fun s14 _ => sn - (intOf s14).toNat)
  case atStart => exact ⟨0, Nat.zero_le _, rfl, HX8.out⟩
  case round =>
    obtain ⟨k, hk, rfl, HX⟩ := hrel
    clear HX8
    by_cases hlt : k < sn
    case pos =>
      have hkE : k < S.length := by have := HSn.out; omega
      obtain ⟨eb, off, y, hea, hB, hr, q0⟩ := HX.out.s.at_ hkE
      subst hea
      have hy := sl_mem hr
      rw [HS.out] at hy
      have hh := more_sub (grd_n HG.out.g) hy
      rw [← HR.out] at hh
      have hc := rhas_any ra rc R y (by have := HRm.out; omega) wr HX.out.r
      unfold hasB at hh
      rw [hh, ← HRn.out] at hc
      have HH := Lib.hid hc
      have hltI : (k : Int) < (sn : Int) := by omega
      have hk0 : (0 : Int) ≤ (k : Int) := by omega
      have HK : Hid (k + 1 ≤ sn ∧ k < sn) := ⟨hlt, hlt⟩
      clear hr hB hkE hy hh hc
      go_wp2_with (go_at_call 19; refine HH.out.mono ?_; rintro e w' ⟨rfl, rfl⟩)
      go_roundw
      case rel => exact ⟨k + 1, HK.out.1, by go_num, HX.out⟩
      case measure => have := HK.out.2; simp [intOf]; omega
    case neg =>
      have hken : k = sn := by omega
      subst hken
      have hltI : ¬ (k : Int) < (k : Int) := by omega
      have HX0 : Hid (MoS start A c p w.heap.size ra ra R R w wr) := ⟨HX.out.ff, HX.out.r, HX.out.r⟩
      clear HX
      go_wp2
      go_loopw [15] (fun s15 wr => ∃ k : Nat, k ≤ rn ∧ s15 = .int .i64 (k : Int) ∧ Hid (MoS start A c p w.heap.size ra ra R R w wr)) (fun s15 _ => rn - (intOf s15).toNat)
      case atStart => exact ⟨0, Nat.zero_le _, rfl, HX0.out⟩
      case round =>
        obtain ⟨k2, hk2, rfl, HX⟩ := hrel
        clear HX0
        by_cases hlt2 : k2 < rn
        case neg =>
          have hken : k2 = rn := by omega
          subst hken
          have hltI2 : ¬ (k2 : Int) < (k2 : Int) := by omega
          go_wp2
          go_ret
          exact ⟨rfl, HX.out.ff.bel⟩
        by_cases h40 : (k2 : Int) < 40
        case neg =>
          have hltI2 : (k2 : Int) < (rn : Int) := by omega
          go_wp2
          go_ret
          exact ⟨rfl, HX.out.ff.bel⟩
        have hkE : k2 < R.length := by have := HRn.out; omega
        obtain ⟨rb, off, y, hea, hB, hr, q0⟩ := HX.out.r.at_ hkE
        subst hea
        have hy := sl_mem hr
        rw [HR.out] at hy
        obtain ⟨j, hj, rfl, hjr⟩ := listN_mem.1 hy
        have hha := Hangs_ok start A c p HW.out H12.out HE.out j (by rw [← HT.out]; exact hj) wr.drew (HX.out.to (Below.drew (Below.refl _ _))).ff.sl
        rw [← HT.out] at hha
        have hself := hang_self (grd_n HG.out.g) hj
        have HHr := Lib.hid (fun y (hy : y ∈ listN t.lp.length (hangF t.lp j)) => hang_runs (grd_n HG.out.g) (dropB_ok (lp := t.lp) HZ.out.symm) hj hjr hy)
        have HHm : Hid ((listN t.lp.length (hangF t.lp j)).length ≤ 2600) := Nat.le_trans (listN_len _ _) HG.out.ll
        obtain ⟨H, hH⟩ : ∃ H, H = listN t.lp.length (hangF t.lp j) := ⟨_, rfl⟩
        rw [← hH] at hha hself HHr HHm
        rw [← HR.out] at HHr
        obtain ⟨hn, hhn⟩ : ∃ hn, hn = H.length := ⟨_, rfl⟩
        have HHn := Lib.hid hhn
        have hnm : hn ≤ 2600 := by have := HHm.out; omega
        have HC := Lib.hid hha
        have HSelf := Lib.hid hself
        have HXd := Lib.hid (HX.out.to (Below.drew (Below.refl _ _)))
        have hkd := (bcell (Below.drew (Below.refl wr.heap.size wr)) hB (off + k2)).trans q0
        have HKd := Lib.hid (And.intro HXd.out.ff.cb0 (And.intro HXd.out.ff.cb1 hkd))
        have HB2 := Lib.hid hB
        have HQ0 := Lib.hid q0
        have hltI2 : (k2 : Int) < (rn : Int) := by omega
        have hk0 : (0 : Int) ≤ (k2 : Int) := by omega
        have HK : Hid (k2 + 1 ≤ rn ∧ k2 < rn) := ⟨hlt2, hlt2⟩
        clear hha hself hH hhn hkE hy hr hjr hkd hB q0
        go_upto_region 17 with fail
        go_region_held3 (fun W' => W'.cell? ⟨w.heap.size, 0, none⟩ = some (.int .i64 start) ∧ W'.cell? ⟨w.heap.size, 1, none⟩ = some (.slice A p.length c) ∧ W'.cell? ⟨rb, off + k2, none⟩ = some (.int .i64 (j : Int)))
          (first | (with_reducible exact HKd.out) | (with_reducible exact HKw.out) | fail)
          (first | (go_at_call 20; refine HC.out.mono ?_; rintro e ww ⟨v, rfl, ho, hbw⟩; have HXw := Lib.hid (HXd.out.to hbw); have hkw := (bcell hbw (lt_of_cell HKd.out.2.2) _).trans HKd.out.2.2; have HKw := Lib.hid (And.intro HXw.out.ff.cb0 (And.intro HXw.out.ff.cb1 hkw)); obtain ⟨ha, hc, rfl⟩ := pxJ_is ho HHn.out.symm; have HSw := Lib.hid (pxJ_lies ho); clear ho hbw))
        have hq0 := HKw.out.2.2
        have hc1 := rhas_any ha hc H (j : Int) (by have := HHm.out; omega) ww HSw.out
        have hself := HSelf.out
        unfold hasB at hself
        rw [hself, ← HHn.out] at hc1
        have HC1 := Lib.hid hc1
        have HX3 : Hid (MoS start A c p w.heap.size (some ⟨rb, off, none⟩) ha R H w ww) := ⟨HXw.out.ff, HXw.out.r, HSw.out⟩
        clear hc1 hself HC HKd HKw HXd HX HQ0 HSelf HSw HXw
        go_wp2_with (go_at_call 19; refine HC1.out.mono ?_; rintro e w' ⟨rfl, rfl⟩)
        clear hq0 HC1
        go_loopw [18] (fun s18 wr => ∃ k3 : Nat, k3 ≤ hn ∧ s18 = .int .i64 (k3 : Int) ∧ Hid (MoS start A c p w.heap.size (some ⟨rb, off, none⟩) ha R H w wr)) (fun s18 _ => hn - (intOf s18).toNat)
        case atStart => exact ⟨0, Nat.zero_le _, rfl, HX3.out⟩
        case round =>
          obtain ⟨k3, hk3, rfl, HX⟩ := hrel
          clear HX3
          by_cases hlt3 : k3 < hn
          case neg =>
            have hken : k3 = hn := by omega
            subst hken
            have hltI3 : ¬ (k3 : Int) < (k3 : Int) := by omega
            go_wp2
            go_roundw
            case rel => exact ⟨k2 + 1, HK.out.1, by go_num, HX.out.ff, HX.out.r, HX.out.r⟩
            case measure => have := HK.out.2; simp [intOf]; omega
          have hkE3 : k3 < H.length := by have := HHn.out; omega
          obtain ⟨hb, hoff, y, hea, hB, hr, q0⟩ := HX.out.s.at_ hkE3
          subst hea
          have hy := HHr.out y (sl_mem hr)
          have hc1 := rhas_any (some ⟨rb, off, none⟩) rc R y (by have := HRm.out; omega) _ HX.out.r
          unfold hasB at hy
          rw [hy, ← HRn.out] at hc1
          have HC1 := Lib.hid hc1
          have hltI3 : (k3 : Int) < (hn : Int) := by omega
          have hk30 : (0 : Int) ≤ (k3 : Int) := by omega
          have HK3 : Hid (k3 + 1 ≤ hn ∧ k3 < hn) := ⟨hlt3, hlt3⟩
          clear hr hB hkE3 hy hc1
          go_wp2_with (go_at_call 19; refine HC1.out.mono ?_; rintro e w' ⟨rfl, rfl⟩)
          go_roundw
          case rel => exact ⟨k3 + 1, HK3.out.1, by go_num, HX.out⟩
          case measure => have := HK3.out.2; simp [intOf]; omega
end Go.Proofs.Ytbibndpkcilblaa
