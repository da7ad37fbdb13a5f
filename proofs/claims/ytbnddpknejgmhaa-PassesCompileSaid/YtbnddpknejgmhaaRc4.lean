/- The reference's Compile, walked. -/
import Derived.Test.YtbnddpknejgmhaaComp1
import Derived.Test.YtbnddpknejgmhaaRc3
import Derived.Test.YtbnddpknejgmhaaRcP
import Derived.BigQuiet
namespace Go.Proofs.Ytbnddpknejgmhaa
open Go.RowKit Go.Shelf
set_option maxRecDepth 100000

theorem rowNil (w : World) (bb : Nat) (vo : Value) (W : World) : RowAt w bb vo (.slice none 0 0) [] W := ⟨World.ownsRow_nil _ _ _ _, (fun e => by cases e), Or.inl rfl⟩
theorem faceNil (bb : Nat) (vo : Value) (W : World) : FaceAt bb vo (.slice none 0 0) none [] W := ⟨SlT.nil, fun h => absurd rfl h⟩
theorem head_len (k : Nat) : (headL k).length = k + 1 := by simp [headL]
theorem head_snoc (k : Nat) : headL (k + 1) = headL k ++ [knitI 3 true 0 (k : Int)] := by simp [headL, List.range_succ]
set_option maxHeartbeats 16000000 in
theorem rcompile_any (start : Int) (A : Option Addr) (c : Nat) (p : List RowC) (w : World) (hs : SlC w w.heap.size A p) :
    Calls Try.prog 19 #[.agg #[.int .i64 start, .slice A p.length c]] w fun e w' => compPost start p w e w' := by
  have hbw0 : Below w.heap.size w (w.alloc (.cells #[.int .i64 start, .slice A p.length c] 40)) := (Below.refl _ w).alloc (Nat.le_refl _) _
  have HB0 := Lib.hid hbw0
  have HCk := Lib.hid (fun (w1 : World) (hb : Below w.heap.size w w1) => rcheck_any start A c p w1 ((hs.below hb).more hb.size))
  have hcs0 : ∀ w1 : World, Below (w.heap.size + 1) (w.alloc (.cells #[.int .i64 start, .slice A p.length c] 40)) w1 → w1.cell? ⟨w.heap.size, 0, none⟩ = some (.int .i64 start) ∧ w1.cell? ⟨w.heap.size, 1, none⟩ = some (.slice A p.length c) := fun w1 hb =>
    ⟨(bcell hb (by omega) _).trans (cell_new rfl rfl rfl), (bcell hb (by omega) _).trans (cell_new rfl rfl rfl)⟩
  have HCS := Lib.hid hcs0
  by_cases he : chartE start p = 0
  case neg =>
    have HF : Hid (compE start p = chartE start p) := by unfold Hid compE; rw [if_pos he]
    have HN := Lib.hid he
    have heb : (chartE start p != 0) = true := by simp [he]
    have heb2 : (chartE start p == 0) = false := by simp [he]
    generalize chartE start p = x at HCk HF HN heb heb2
    clear he hs hbw0 hcs0
    go_enter Try.func19, Try.ntmps19
    go_upto_region 2 with (go_at_call 22; refine (HCk.out _ HB0.out).mono ?_; rintro e w1 ⟨rfl, hb1⟩; obtain ⟨c0, c1⟩ := HCS.out w1 (hb1.mono (by simp)); have hbw1 := HB0.out.trans (hb1.mono (by simp)))
    go_wp2_with (go_at_call 22; refine (HCk.out _ hbw1).mono ?_; rintro e w2 ⟨rfl, hb2⟩)
    go_ret2
    exact compPost.err HF.out HN.out (hbw1.trans (hb2.mono hbw1.size))
  case pos =>
    rw [he] at HCk
    have hz := chart_zero he
    have hal := err_rows hz.2.2
    have HPl := Lib.hid (fun (w1 : World) (hb : Below w.heap.size w w1) => rplain_any start A c p (by have := hz.1; omega) (fun r hr => by have := (all_zero (hal r hr)).1; omega) w1 ((hs.below hb).more hb.size))
    cases hp : plainB start p with
    | false =>
      have HF : Hid (compE start p = 2) := by unfold Hid compE; rw [if_neg (by simpa using he), if_pos hp]
      rw [hp] at HPl
      clear he hs hbw0 hz hal hcs0 hp
      go_enter Try.func19, Try.ntmps19
      go_wp2_with (first
        | (go_at_call 22; refine (HCk.out _ HB0.out).mono ?_; rintro e w1 ⟨rfl, hb1⟩
           obtain ⟨c0, c1⟩ := HCS.out w1 (hb1.mono (by simp))
           have hbw1 := HB0.out.trans (hb1.mono (by simp)))
        | (go_at_call 37; refine (HPl.out _ hbw1).mono ?_; rintro e w2 ⟨rfl, hb2⟩))
      go_ret2
      exact compPost.err HF.out (by decide) (hbw1.trans (hb2.mono hbw1.size))
    | true =>
      obtain ⟨hst, hkind⟩ := plain_kind hp
      have hlen := plain_len hz.2.2 hkind
      obtain ⟨n, rfl⟩ := Int.eq_ofNat_of_zero_le hz.2.1.1
      have hn : n ≤ 101 := by omega
      have hpl := hz.1
      have HE : Hid (compE (n : Int) p = if 2000 < (compL (n : Int) p).length then 4 else 0) := by unfold Hid compE; rw [if_neg (by simpa using he), if_neg (by rw [hp]; simp)]
      have HL : Hid (compL (n : Int) p = (rowsRun 0 p (headL n, List.replicate n 0)).1) := by unfold Hid compL; rw [Int.toNat_natCast]
      have HOk : Hid (∀ r ∈ p, (∀ s ∈ r.2, s.ok = true) ∧ r.2.length ≤ 1000) := fun r hr => ⟨(all_zero (hal r hr)).2.1, by have := (all_zero (hal r hr)).1; omega⟩
      have HLn : Hid (∀ r ∈ p, (faceL r).length = n) := fun r hr => by rw [face_len]; have := hlen r hr; omega
      have HKd : Hid (∀ r ∈ p, ∀ s ∈ faceL r, s.kind = 1 ∨ s.kind = 8) := fun r hr => face_kind (hkind r hr)
      have HS := Lib.hid hs
      rw [hp] at HPl
      obtain ⟨i0, hi, hz0, hz1, hz2⟩ := info_parts info_ins
      obtain ⟨i1, hi', hz0', hz1', hz2'⟩ := info_parts info_u8
      clear he hs hbw0 hz hal hcs0 hp hst hkind hlen
      go_enter Try.func19, Try.ntmps19
      go_upto_region 6 with (first
        | (go_at_call 22; refine (HCk.out _ HB0.out).mono ?_; rintro e w1 ⟨rfl, hb1⟩
           obtain ⟨c0, c1⟩ := HCS.out w1 (hb1.mono (by simp))
           have hbw1 := HB0.out.trans (hb1.mono (by simp)))
        | (go_at_call 37; refine (HPl.out _ hbw1).mono ?_; rintro e w2 ⟨rfl, hb2⟩
           have hbw2 := hbw1.trans (hb2.mono hbw1.size)
           obtain ⟨d0, d1⟩ := HCS.out w2 ((hb1.mono (by simp)).trans (hb2.mono (by have := hb1.size; simpa using this)))))
      refine abs_world (Q := fun W => Code.wp _ _ _ _ W) (F := fun W => Below w.heap.size w W ∧ W.cell? ⟨w.heap.size, 0, none⟩ = some (.int .i64 (n : Int)) ∧ W.cell? ⟨w.heap.size, 1, none⟩ = some (.slice A p.length c) ∧ W.ownsRow (w.heap.size + 1) 50 7 (.slice (some ⟨w2.heap.size, 0, none⟩) 1 1) (headL 0).length ((headL 0).map Ins.cells).flatten) _ ?_ ?_
      · have hlt := lt_of_cell d0
        exact ⟨hbw2.alloc hbw2.size _, (bcell ((Below.refl _ _).alloc (Nat.le_refl _) _) hlt _).trans d0, (bcell ((Below.refl _ _).alloc (Nat.le_refl _) _) hlt _).trans d1, World.ownsRow_lit w2 _ 1 (by omega) (by decide) rfl⟩
      rintro W ⟨hbW, e0, e1, hown0⟩
      clear c0 c1 d0 d1 hbw1 hb1 hb2 hbw2 HB0 HCk HPl HCS
      have hlt0 := lt_of_cell e0
      obtain ⟨w3, hmr, hob, hgb⟩ := run_make_full (P := Try.prog) W (w.heap.size + 1) 66 5 i1 (.int .u8 0) 1 Try.underlying66 hi' hz0' hz1' .i64 .i64 n (by rw [hz2']; omega) (by unfold maxLen; omega) (by omega)
      have hB3 : Below W.heap.size W w3 := (Below.refl _ W).grown hgb (Nat.le_refl _) (fun k e => by cases e)
      have hC0 : CompAt w W.heap.size (n : Int) A p.length c (.slice (some ⟨w2.heap.size, 0, none⟩) 1 1) (headL 0) (List.replicate n 0) w3 := by
        refine ⟨hbW.trans (hB3.mono hbW.size), (bcell hB3 hlt0 _).trans e0, (bcell hB3 hlt0 _).trans e1, own_below hown0 hB3 (Nat.le_refl _), ?_, fun e => by have := (hown0.lt _ e).2; omega⟩
        have e : (madeCells (Value.int .u8 0).cells (n * 1)).toList = bedV (List.replicate n 0) := by
          rw [Nat.mul_one]
          exact (toList_madeCells_one _ _).trans (by unfold bedV; rw [List.map_replicate])
        rw [e] at hob
        rw [List.length_replicate]
        exact hob
      have HC0 := Lib.hid hC0
      obtain ⟨bb, hbb⟩ : ∃ bb, bb = W.heap.size := ⟨_, rfl⟩
      rw [← hbb] at hmr HC0
      clear hob hgb hB3 hC0 hown0 hbb hbW
      go_wp2
      clear e0 e1
      go_loopw [4, 6] (fun s4 s6 wr => ∃ (k : Nat) (vo : Value), k ≤ n ∧ s6 = .int .i64 k ∧ vo = s4 ∧ Hid (CompAt w bb (n : Int) A p.length c vo (headL k) (List.replicate n 0) wr)) (fun _ s6 _ => n - (intOf s6).toNat)
      case atStart => exact ⟨0, _, Nat.zero_le _, rfl, rfl, HC0⟩
      case round =>
        obtain ⟨k, vo, hk, rfl, rfl, HC⟩ := hrel
        have f0 := HC.out.c0
        have f1 := HC.out.c1
        by_cases hlt : k < n
        · have hhl := head_len k
          have HSn := Lib.hid (head_snoc k)
          have HH := Lib.hid hhl
          generalize headL k = Hk at hhl HSn HC HH
          go_wp2_with (at_builtin; refine wpList_append_lies _ rfl _ _ 22 rfl (w.heap.size + 1) 50 i0 (.agg #[.int .u8 0, .bool false, .int .u8 0, .int .i64 0, .int .i64 0, .int .i64 0, .int .i64 0]) 7 40 Try.underlying22 hi hz0 hz1 hz2 rfl (by decide) vo Hk.length (Hk.map Ins.cells).flatten rfl (HC.out.own.alloc _) ⟨wr.heap.size, 0, none⟩ 1 1 (knitI 3 true 0 (k : Int)).cells rfl rfl (news_new wr _ _) (one7' _) (by decide) (by unfold maxLen; omega) (by omega) (by have := HC.out.below.size; simp; omega) (wr.heap.size + 1) (by simp) ?_; intro g cap w4 hown4 hgrow4 hor4 _; have HP := Lib.hid (out_pushed HC.out (rowNil _ _ _ _) (faceNil _ _ _) hown4 hgrow4 hor4); clear hown4 hgrow4 hor4)
          go_roundw
          case rel => exact ⟨k + 1, .slice (some ⟨g, 0, none⟩) (Hk.length + 1) cap, by omega, by go_num, by rw [HH.out], by rw [HSn.out]; exact HP.out.1⟩
          case measure => simp [intOf]; omega
        · obtain rfl : k = n := by omega
          clear hlt
          go_wp2
          clear f0 f1
          go_loopw [4, 7, 8, 9, 10, 11, 12] (fun s4 s7 s8 s9 s10 s11 s12 wr => ∃ (i : Nat) (vo v8 v9 v10 v11 v12 : Value) (O : List Ins) (B : List Int), i ≤ p.length ∧ s7 = .int .i64 i ∧ vo = s4 ∧ v8 = s8 ∧ v9 = s9 ∧ v10 = s10 ∧ v11 = s11 ∧ v12 = s12 ∧ Hid (CompAt w bb (k : Int) A p.length c vo O B wr) ∧ B.length = k ∧ Hid (∀ b ∈ B, bt b) ∧ O.length ≤ 300 + 202 * i ∧ Hid (rowsRun 0 p (headL k, List.replicate k 0) = rowsRun i (p.drop i) (O, B))) (fun _ s7 _ _ _ _ _ _ => p.length - (intOf s7).toNat)
          case atStart => exact ⟨0, _, _, _, _, _, _, _, _, Nat.zero_le _, rfl, rfl, rfl, rfl, rfl, rfl, rfl, HC, by simp, (fun b hb => by rw [List.eq_of_mem_replicate hb]; exact Or.inl rfl), by rw [head_len]; omega, rfl⟩
          case round =>
            obtain ⟨i, vo, v8, v9, v10, v11, v12, O, B, hi2, rfl, rfl, rfl, rfl, rfl, rfl, rfl, HC, hBl, HBt, hOl, HRun⟩ := hrel
            have hc0 := HC.out.c0
            have hc1 := HC.out.c1
            by_cases hlt : i < p.length
            · have hr : p[i]? = some p[i] := List.getElem?_eq_getElem hlt
              generalize p[i] = r at hr
              have hfl := HLn.out r (List.mem_of_getElem? hr)
              have HRs : Hid (rowsRun 0 p (headL k, List.replicate k 0) = rowsRun (i + 1) (p.drop (i + 1)) ((xRun 0 (faceL r) (O, B)).1 ++ rowL i (decide (i % 2 = 1)) (xRun 0 (faceL r) (O, B)).2 (faceL r), (xRun 0 (faceL r) (O, B)).2)) := by
                unfold Hid; rw [HRun.out, rows_step2 hr]
              have HKr := Lib.hid (HKd.out r (List.mem_of_getElem? hr))
              obtain ⟨b, off, A', C', rfl, hB, hcr0, hcr1, hCC, hsi⟩ := rows_at HS.out hr
              have hr0 := (bcell HC.out.below hB _).trans hcr0
              have hr1 := (bcell HC.out.below hB _).trans hcr1
              have HSeen := Lib.hid (rseen_any r A' C' (HOk.out r (List.mem_of_getElem? hr)).1 (HOk.out r (List.mem_of_getElem? hr)).2 wr ((hsi.below HC.out.below).more HC.out.below.size))
              generalize faceL r = fc at HRs hfl HSeen HKr
              unfold stcOut at HSeen
              rw [hfl] at HSeen
              obtain ⟨qr, hqr⟩ : ∃ qr, qr = decide (i % 2 = 1) := ⟨_, rfl⟩
              rw [← hqr] at HRs
              have HQ := Lib.hid hqr
              clear hqr hr HRun hcr0 hcr1 hsi
              go_wp2_with (go_at_call 38; refine HSeen.out.mono ?_; rintro e w1 ⟨a2, c2, rfl, hT2, hb2, hf2⟩; have HT2 := Lib.hid hT2; have HF2 := Lib.hid hf2; have HB2 := Lib.hid hb2; clear hT2 hf2 hb2)
              have HC1 := Lib.hid (HC.out.to HB2.out)
              have HFA : Hid (FaceAt bb vo (.slice none 0 0) a2 fc w1) := ⟨HT2.out, fun hne ad had => by
                have h1 := HF2.out hne ad had
                have h2 := (HC.out.bed.lt bb rfl).2
                refine ⟨by omega, fun e => ?_, fun e => by cases e⟩
                have := (HC.out.own.lt _ e).2
                omega⟩
              clear hc0 hc1 HC HT2 HF2 HB2 hr0 hr1 HSeen
              go_loopw [4, 9] (fun s4 s9 wr => ∃ (q : Nat) (vo : Value) (O1 : List Ins) (B1 : List Int), q ≤ k ∧ s9 = .int .i64 q ∧ vo = s4 ∧ Hid (CompAt w bb (k : Int) (some ⟨b, off, none⟩) p.length c vo O1 B1 wr) ∧ Hid (FaceAt bb vo (.slice none 0 0) a2 fc wr) ∧ B1.length = k ∧ Hid (∀ b ∈ B1, bt b) ∧ O1.length ≤ 300 + 202 * i + q ∧ Hid (xRun 0 fc (O, B) = xRun q (fc.drop q) (O1, B1))) (fun _ s9 _ => k - (intOf s9).toNat)
              case atStart => exact ⟨0, _, O, B, Nat.zero_le _, rfl, rfl, HC1, HFA, hBl, HBt, by omega, rfl⟩
              case round =>
                obtain ⟨q, vo, O1, B1, hq, rfl, rfl, HC, HF, hB1, HBt1, hO1, HX⟩ := hrel
                clear HC1 HFA HBt hBl hOl
                obtain ⟨W, rfl⟩ : ∃ W, W = wr := ⟨wr, rfl⟩
                by_cases hqk : q < k
                case pos =>
                  obtain ⟨b2, off2, s, rfl, hB2, hz, hcs⟩ := HF.out.sl.at_ (k := q) (by omega)
                  obtain ⟨d0, d1, d2, d3⟩ := hcs
                  have hbd := HC.out.bedAt (k := q) (by omega)
                  have hkd := HKr.out s (List.mem_of_getElem? hz)
                  have hbit := bt_get HBt1.out q
                  have HX2 := Lib.hid (HX.out.trans (xRun_step hz O1 B1))
                  clear hz HX d2 d3
                  rcases hkd with hkd | hkd
                  case inr =>
                    have HSt := Lib.hid (step_slip hkd q O1 B1)
                    rw [hkd] at d0
                    clear hkd hbit
                    go_upto_region 18 with fail
                    go_quiet (fail)
                    have hbD := below_drewN (Below.refl W.heap.size W) nq
                    generalize W.drewN nq = W1 at hbD ⊢
                    have HC1 := Lib.hid (HC.out.to hbD)
                    have HF1 := Lib.hid (HF.out.to hbD)
                    have hbd1 := (bcell hbD (lt_of_cell hbd) _).trans hbd
                    go_wp2
                    go_roundw
                    case rel => exact ⟨q + 1, _, O1, B1, by omega, by go_num, rfl, HC1, HF1, hB1, HBt1, by omega, by have := HX2.out; rw [HSt.out.1, HSt.out.2] at this; exact this⟩
                    case measure => simp [intOf]; omega
                  case inl =>
                    rw [hkd] at d0
                    cases hpu : s.purl with
                    | true =>
                      rw [hpu] at d1
                      rcases hbit with hbz | hbz
                      · have HSt := Lib.hid (step_turn (s := s) hkd (k := q) (O := O1) (B := B1) (b := 0) (z := 1) hbz (by unfold wantS; rw [hpu]; rfl) (by decide))
                        rw [hbz] at hbd
                        clear hkd
                        go_upto_region 18 with fail
                        go_quiet (fail)
                        have hbD := below_drewN (Below.refl W.heap.size W) nq
                        generalize W.drewN nq = W1 at hbD ⊢
                        have HC1 := Lib.hid (HC.out.to hbD)
                        have HF1 := Lib.hid (HF.out.to hbD)
                        have hbd1 := (bcell hbD (lt_of_cell hbd) _).trans hbd
                        go_wp2_with (at_builtin; refine wpList_append_lies _ rfl _ _ 22 rfl (w.heap.size + 1) 50 i0 (.agg #[.int .u8 0, .bool false, .int .u8 0, .int .i64 0, .int .i64 0, .int .i64 0, .int .i64 0]) 7 40 Try.underlying22 hi hz0 hz1 hz2 rfl (by decide) vo O1.length (O1.map Ins.cells).flatten rfl (HC1.out.own.alloc _) ⟨W1.heap.size, 0, none⟩ 1 1 (xferI 0 (q : Int)).cells rfl rfl (news_new W1 _ _) (one7' _) (by decide) (by unfold maxLen; omega) (by omega) (by have := HC1.out.below.size; simp; omega) (W1.heap.size + 1) (by simp) ?_; intro g cap w4 hown4 hgrow4 hor4 _; have HP := Lib.hid (out_pushed HC1.out (rowNil _ _ _ _) HF1.out hown4 hgrow4 hor4); have hbd4 := HP.out.1.bedAt (k := q) (by omega); rw [hbz] at hbd4; have hfz4 := HP.out.1.bed.frozenAt q; have HS4 := Lib.hid (bed_set q 1 HP.out.1 HP.out.2.1 HP.out.2.2); clear hown4 hgrow4 hor4)
                        go_roundw
                        case rel => exact ⟨q + 1, .slice (some ⟨g, 0, none⟩) (O1.length + 1) cap, O1 ++ [xferI 0 q], B1.set q 1, by omega, by go_num, rfl, HS4.out.1, HS4.out.2.2, by rw [List.length_set]; exact hB1, bt_set HBt1.out q (by unfold bt; decide), by rw [List.length_append]; simp; omega, by have := HX2.out; rw [HSt.out.1, HSt.out.2] at this; exact this⟩
                        case measure => simp [intOf]; omega
                      · have HSt := Lib.hid (step_same (s := s) hkd (k := q) (O := O1) (B := B1) (by omega) (by rw [hbz]; unfold wantS; rw [hpu]; rfl))
                        rw [hbz] at hbd
                        clear hkd hbz
                        go_upto_region 18 with fail
                        go_quiet (fail)
                        have hbD := below_drewN (Below.refl W.heap.size W) nq
                        generalize W.drewN nq = W1 at hbD ⊢
                        have HC1 := Lib.hid (HC.out.to hbD)
                        have HF1 := Lib.hid (HF.out.to hbD)
                        have hbd1 := (bcell hbD (lt_of_cell hbd) _).trans hbd
                        go_wp2
                        go_roundw
                        case rel => exact ⟨q + 1, _, O1, B1, by omega, by go_num, rfl, HC1, HF1, hB1, HBt1, by omega, by have := HX2.out; rw [HSt.out.1, HSt.out.2] at this; exact this⟩
                        case measure => simp [intOf]; omega
                    | false =>
                      rw [hpu] at d1
                      rcases hbit with hbz | hbz
                      · have HSt := Lib.hid (step_same (s := s) hkd (k := q) (O := O1) (B := B1) (by omega) (by rw [hbz]; unfold wantS; rw [hpu]; rfl))
                        rw [hbz] at hbd
                        clear hkd hbz
                        go_upto_region 18 with fail
                        go_quiet (fail)
                        have hbD := below_drewN (Below.refl W.heap.size W) nq
                        generalize W.drewN nq = W1 at hbD ⊢
                        have HC1 := Lib.hid (HC.out.to hbD)
                        have HF1 := Lib.hid (HF.out.to hbD)
                        have hbd1 := (bcell hbD (lt_of_cell hbd) _).trans hbd
                        go_wp2
                        go_roundw
                        case rel => exact ⟨q + 1, _, O1, B1, by omega, by go_num, rfl, HC1, HF1, hB1, HBt1, by omega, by have := HX2.out; rw [HSt.out.1, HSt.out.2] at this; exact this⟩
                        case measure => simp [intOf]; omega
                      · have HSt := Lib.hid (step_turn (s := s) hkd (k := q) (O := O1) (B := B1) (b := 1) (z := 0) hbz (by unfold wantS; rw [hpu]; rfl) (by decide))
                        rw [hbz] at hbd
                        clear hkd
                        go_upto_region 18 with fail
                        go_quiet (fail)
                        have hbD := below_drewN (Below.refl W.heap.size W) nq
                        generalize W.drewN nq = W1 at hbD ⊢
                        have HC1 := Lib.hid (HC.out.to hbD)
                        have HF1 := Lib.hid (HF.out.to hbD)
                        have hbd1 := (bcell hbD (lt_of_cell hbd) _).trans hbd
                        go_wp2_with (at_builtin; refine wpList_append_lies _ rfl _ _ 22 rfl (w.heap.size + 1) 50 i0 (.agg #[.int .u8 0, .bool false, .int .u8 0, .int .i64 0, .int .i64 0, .int .i64 0, .int .i64 0]) 7 40 Try.underlying22 hi hz0 hz1 hz2 rfl (by decide) vo O1.length (O1.map Ins.cells).flatten rfl (HC1.out.own.alloc _) ⟨W1.heap.size, 0, none⟩ 1 1 (xferI 1 (q : Int)).cells rfl rfl (news_new W1 _ _) (one7' _) (by decide) (by unfold maxLen; omega) (by omega) (by have := HC1.out.below.size; simp; omega) (W1.heap.size + 1) (by simp) ?_; intro g cap w4 hown4 hgrow4 hor4 _; have HP := Lib.hid (out_pushed HC1.out (rowNil _ _ _ _) HF1.out hown4 hgrow4 hor4); have hbd4 := HP.out.1.bedAt (k := q) (by omega); rw [hbz] at hbd4; have hfz4 := HP.out.1.bed.frozenAt q; have HS4 := Lib.hid (bed_set q 0 HP.out.1 HP.out.2.1 HP.out.2.2); clear hown4 hgrow4 hor4)
                        go_roundw
                        case rel => exact ⟨q + 1, .slice (some ⟨g, 0, none⟩) (O1.length + 1) cap, O1 ++ [xferI 1 q], B1.set q 0, by omega, by go_num, rfl, HS4.out.1, HS4.out.2.2, by rw [List.length_set]; exact hB1, bt_set HBt1.out q (by unfold bt; decide), by rw [List.length_append]; simp; omega, by have := HX2.out; rw [HSt.out.1, HSt.out.2] at this; exact this⟩
                        case measure => simp [intOf]; omega
                case neg =>
                  obtain rfl : k = q := by omega
                  have hdq : fc.drop k = [] := List.drop_of_length_le (by omega)
                  have hx : xRun 0 fc (O, B) = (O1, B1) := by have h := HX.out; rw [hdq] at h; exact h
                  have HR2 : Hid (rowsRun 0 p (headL k, List.replicate k 0) = rowsRun (i + 1) (p.drop (i + 1)) (O1 ++ rowL i qr B1 fc, B1)) := by have h := HRs.out; rw [hx] at h; exact h
                  clear HX hx HRs hqk hq
                  go_wp2
                  go_loopw [4, 10, 11, 12] (fun s4 s10 s11 s12 wr => ∃ (m : Nat) (vo v11 v12 : Value) (O2 : List Ins), m ≤ k ∧ s10 = .int .i64 m ∧ vo = s4 ∧ v11 = s11 ∧ v12 = s12 ∧ Hid (CompAt w bb (k : Int) (some ⟨b, off, none⟩) p.length c vo O2 B1 wr) ∧ Hid (FaceAt bb vo (.slice none 0 0) a2 fc wr) ∧ O2.length ≤ 300 + 202 * i + k + m ∧ Hid (O2 = O1 ++ (rowL i qr B1 fc).take m)) (fun _ s10 _ _ _ => k - (intOf s10).toNat)
                  case atStart => exact ⟨0, _, _, _, O1, Nat.zero_le _, rfl, rfl, rfl, rfl, HC, HF, by omega, (show O1 = _ by rw [List.take_zero, List.append_nil])⟩
                  case round =>
                    clear HC HF hO1
                    obtain ⟨m, vo, v11, v12, O2, hm, rfl, rfl, rfl, rfl, HC, HF, hO2, HO2⟩ := hrel
                    obtain ⟨W, rfl⟩ : ∃ W, W = wr := ⟨wr, rfl⟩
                    by_cases hmk : m < k
                    case pos =>
                      obtain ⟨j, hj⟩ : ∃ j, j = if i % 2 = 0 then k - 1 - m else m := ⟨_, rfl⟩
                      have hjk : j < k := by rw [hj]; split <;> omega
                      obtain ⟨b2, off2, s, rfl, hB2, hz, hcs⟩ := HF.out.sl.at_ (k := j) (by omega)
                      obtain ⟨d0, d1, d2, d3⟩ := hcs
                      have hbd := HC.out.bedAt (k := j) (by omega)
                      have hkd := HKr.out s (List.mem_of_getElem? hz)
                      have hrow := rowL_at (i := i) (qr := qr) (B := B1) (l := fc) (m := m) (by omega) (by rw [hfl]; exact hj) hz
                      have hsn : (rowL i qr B1 fc).take (m + 1) = (rowL i qr B1 fc).take m ++ [knitI (opK s) qr (B1.getD j 0) (j : Int)] := by
                        obtain ⟨hk', e⟩ := List.getElem?_eq_some_iff.1 hrow
                        rw [List.take_succ_eq_append_getElem hk', e]
                      have HO3 : Hid (O2 ++ [knitI (opK s) qr (B1.getD j 0) (j : Int)] = O1 ++ (rowL i qr B1 fc).take (m + 1)) := by
                        unfold Hid; rw [hsn, HO2.out, List.append_assoc]
                      clear hz hrow hsn d1 d2 d3
                      generalize B1.getD j 0 = bq at hbd HO3
                      have hs1 : IntKind.i64.wrap ((k : Int) - 1) = (k : Int) - 1 := IntWalk.i64_in _ (by omega)
                      rcases (by omega : i % 2 = 0 ∨ i % 2 = 1) with hi1 | hi1
                      · have hjv : IntKind.i64.wrap ((k : Int) - 1 - (m : Int)) = (j : Int) := by rw [hj, if_pos hi1, IntWalk.i64_in _ (by omega)]; omega
                        have hqf : qr = false := by rw [HQ.out, hi1]; rfl
                        have HO4 : Hid (O2 ++ [knitI (opK s) false bq (j : Int)] = O1 ++ (rowL i qr B1 fc).take (m + 1)) := by have h := HO3.out; rw [hqf] at h; rw [hqf]; exact h
                        have hrm : (i : Int).tmod 2 = 0 := by rw [Int.tmod_eq_emod_of_nonneg (by omega)]; omega
                        clear HO3
                        clear hj hqf
                        rcases hkd with hkd | hkd
                        · rw [hkd] at d0
                          rw [show opK s = 3 by unfold opK; rw [if_pos hkd]] at HO4
                          clear hkd
                          go_wp2_with (at_builtin; refine wpList_append_lies _ rfl _ _ 22 rfl (w.heap.size + 1) 50 i0 (.agg #[.int .u8 0, .bool false, .int .u8 0, .int .i64 0, .int .i64 0, .int .i64 0, .int .i64 0]) 7 40 Try.underlying22 hi hz0 hz1 hz2 rfl (by decide) vo O2.length (O2.map Ins.cells).flatten rfl ((HC.out.alloc _).own.alloc _) ⟨W.heap.size + 1, 0, none⟩ 1 1 (knitI 3 false bq (j : Int)).cells rfl rfl (news_new' (W.alloc _) _ _ (W.heap.size + 1) (by simp)) (one7' _) (by decide) (by unfold maxLen; omega) (by omega) (by have := HC.out.below.size; simp; omega) (W.heap.size + 1 + 1) (by simp) ?_; intro g cap w4 hown4 hgrow4 hor4 _; have HP := Lib.hid (out_pushed (HC.out.alloc _) (rowNil _ _ _ _) (HF.out.to ((Below.refl W.heap.size W).alloc (Nat.le_refl _) _)) hown4 hgrow4 (hor4.imp id (fun e => by simpa using e))); clear hown4 hgrow4 hor4)
                          go_roundw
                          case rel => exact ⟨m + 1, .slice (some ⟨g, 0, none⟩) (O2.length + 1) cap, _, _, O2 ++ [knitI 3 false bq (j : Int)], by omega, by go_num, rfl, rfl, rfl, HP.out.1, HP.out.2.2, by rw [List.length_append]; simp; omega, HO4⟩
                          case measure => simp [intOf]; omega
                        · rw [hkd] at d0
                          rw [show opK s = 5 by unfold opK; rw [if_neg (by omega)]] at HO4
                          clear hkd
                          go_wp2_with (at_builtin; refine wpList_append_lies _ rfl _ _ 22 rfl (w.heap.size + 1) 50 i0 (.agg #[.int .u8 0, .bool false, .int .u8 0, .int .i64 0, .int .i64 0, .int .i64 0, .int .i64 0]) 7 40 Try.underlying22 hi hz0 hz1 hz2 rfl (by decide) vo O2.length (O2.map Ins.cells).flatten rfl ((HC.out.alloc _).own.alloc _) ⟨W.heap.size + 1, 0, none⟩ 1 1 (knitI 5 false bq (j : Int)).cells rfl rfl (news_new' (W.alloc _) _ _ (W.heap.size + 1) (by simp)) (one7' _) (by decide) (by unfold maxLen; omega) (by omega) (by have := HC.out.below.size; simp; omega) (W.heap.size + 1 + 1) (by simp) ?_; intro g cap w4 hown4 hgrow4 hor4 _; have HP := Lib.hid (out_pushed (HC.out.alloc _) (rowNil _ _ _ _) (HF.out.to ((Below.refl W.heap.size W).alloc (Nat.le_refl _) _)) hown4 hgrow4 (hor4.imp id (fun e => by simpa using e))); clear hown4 hgrow4 hor4)
                          go_roundw
                          case rel => exact ⟨m + 1, .slice (some ⟨g, 0, none⟩) (O2.length + 1) cap, _, _, O2 ++ [knitI 5 false bq (j : Int)], by omega, by go_num, rfl, rfl, rfl, HP.out.1, HP.out.2.2, by rw [List.length_append]; simp; omega, HO4⟩
                          case measure => simp [intOf]; omega
                      · obtain rfl : j = m := by rw [hj, if_neg (by omega)]
                        have hqf : qr = true := by rw [HQ.out, hi1]; rfl
                        have HO4 : Hid (O2 ++ [knitI (opK s) true bq (j : Int)] = O1 ++ (rowL i qr B1 fc).take (j + 1)) := by have h := HO3.out; rw [hqf] at h; rw [hqf]; exact h
                        have hrm : (i : Int).tmod 2 = 1 := by rw [Int.tmod_eq_emod_of_nonneg (by omega)]; omega
                        clear HO3
                        clear hj hqf
                        rcases hkd with hkd | hkd
                        · rw [hkd] at d0
                          rw [show opK s = 3 by unfold opK; rw [if_pos hkd]] at HO4
                          clear hkd
                          go_wp2_with (at_builtin; refine wpList_append_lies _ rfl _ _ 22 rfl (w.heap.size + 1) 50 i0 (.agg #[.int .u8 0, .bool false, .int .u8 0, .int .i64 0, .int .i64 0, .int .i64 0, .int .i64 0]) 7 40 Try.underlying22 hi hz0 hz1 hz2 rfl (by decide) vo O2.length (O2.map Ins.cells).flatten rfl ((HC.out.alloc _).own.alloc _) ⟨W.heap.size + 1, 0, none⟩ 1 1 (knitI 3 true bq (j : Int)).cells rfl rfl (news_new' (W.alloc _) _ _ (W.heap.size + 1) (by simp)) (one7' _) (by decide) (by unfold maxLen; omega) (by omega) (by have := HC.out.below.size; simp; omega) (W.heap.size + 1 + 1) (by simp) ?_; intro g cap w4 hown4 hgrow4 hor4 _; have HP := Lib.hid (out_pushed (HC.out.alloc _) (rowNil _ _ _ _) (HF.out.to ((Below.refl W.heap.size W).alloc (Nat.le_refl _) _)) hown4 hgrow4 (hor4.imp id (fun e => by simpa using e))); clear hown4 hgrow4 hor4)
                          go_roundw
                          case rel => exact ⟨j + 1, .slice (some ⟨g, 0, none⟩) (O2.length + 1) cap, _, _, O2 ++ [knitI 3 true bq (j : Int)], by omega, by go_num, rfl, rfl, rfl, HP.out.1, HP.out.2.2, by rw [List.length_append]; simp; omega, HO4⟩
                          case measure => simp [intOf]; omega
                        · rw [hkd] at d0
                          rw [show opK s = 5 by unfold opK; rw [if_neg (by omega)]] at HO4
                          clear hkd
                          go_wp2_with (at_builtin; refine wpList_append_lies _ rfl _ _ 22 rfl (w.heap.size + 1) 50 i0 (.agg #[.int .u8 0, .bool false, .int .u8 0, .int .i64 0, .int .i64 0, .int .i64 0, .int .i64 0]) 7 40 Try.underlying22 hi hz0 hz1 hz2 rfl (by decide) vo O2.length (O2.map Ins.cells).flatten rfl ((HC.out.alloc _).own.alloc _) ⟨W.heap.size + 1, 0, none⟩ 1 1 (knitI 5 true bq (j : Int)).cells rfl rfl (news_new' (W.alloc _) _ _ (W.heap.size + 1) (by simp)) (one7' _) (by decide) (by unfold maxLen; omega) (by omega) (by have := HC.out.below.size; simp; omega) (W.heap.size + 1 + 1) (by simp) ?_; intro g cap w4 hown4 hgrow4 hor4 _; have HP := Lib.hid (out_pushed (HC.out.alloc _) (rowNil _ _ _ _) (HF.out.to ((Below.refl W.heap.size W).alloc (Nat.le_refl _) _)) hown4 hgrow4 (hor4.imp id (fun e => by simpa using e))); clear hown4 hgrow4 hor4)
                          go_roundw
                          case rel => exact ⟨j + 1, .slice (some ⟨g, 0, none⟩) (O2.length + 1) cap, _, _, O2 ++ [knitI 5 true bq (j : Int)], by omega, by go_num, rfl, rfl, rfl, HP.out.1, HP.out.2.2, by rw [List.length_append]; simp; omega, HO4⟩
                          case measure => simp [intOf]; omega
                    case neg =>
                      obtain rfl : k = m := by omega
                      have htk : (rowL i qr B1 fc).take k = rowL i qr B1 fc := List.take_of_length_le (by rw [rowL_len]; omega)
                      have HR3 : Hid (rowsRun 0 p (headL k, List.replicate k 0) = rowsRun (i + 1) (p.drop (i + 1)) (O2, B1)) := by
                        unfold Hid; rw [HR2.out, HO2.out, htk]
                      clear HR2 HO2 htk hmk
                      go_wp2
                      go_roundw
                      case rel => exact ⟨i + 1, _, _, _, _, _, _, O2, B1, by omega, by go_num, rfl, rfl, rfl, rfl, rfl, rfl, HC, hB1, HBt1, by omega, HR3⟩
                      case measure => simp [intOf]; omega
            · obtain rfl : i = p.length := by omega
              have HL2 : Hid (compL (k : Int) p = O) := by
                unfold Hid; rw [HL.out, HRun.out, List.drop_length]; rfl
              obtain ⟨a9, c9, rfl, hc9⟩ := own_slice HC.out.own
              have HSl : Hid (SlX wr wr.heap.size a9 O) := SlS.of_own (cells7 O) (by rw [List.length_map]) HC.out.own
              have HB9 := Lib.hid HC.out.below
              by_cases hbig : 2000 < O.length
              · have HF : Hid (compE (k : Int) p = 4) := by unfold Hid; rw [HE.out, HL2.out, if_pos hbig]
                clear HRun HC
                go_wp2
                go_ret2
                exact compPost.err HF.out (by decide) HB9.out
              · have HF : Hid (compE (k : Int) p = 0) := by unfold Hid; rw [HE.out, HL2.out, if_neg hbig]
                have HG : Hid (compO (k : Int) p = O) := by unfold Hid compO; rw [HF.out, if_pos rfl, HL2.out]
                clear HRun HC
                go_wp2
                go_ret2
                unfold compPost
                rw [HF.out, HG.out]
                exact ⟨a9, c9, rfl, HSl.out, hc9, HB9.out⟩
end Go.Proofs.Ytbnddpknejgmhaa
