/- The reference: done does a valid instruction on the state behind the pointer. -/
import Derived.Test.YtjoglkamhjcmhaaKRworks
import Derived.Test.YtjoglkamhjcmhaaKRfds
namespace Go.Proofs.Ytjoglkamhjcmhaa
open Go.RowKit Go.Shelf Go.Sort
set_option maxRecDepth 100000

theorem good_parts {i : Ins} (hw : i.wf) (hi : i.good) : (0 ≤ i.bed ∧ i.bed ≤ 1) ∧ needleP i.at_ ∧ needleP i.to_ ∧ 1 ≤ i.op ∧ i.op ≤ 9 := by
  unfold Ins.good carP needleP at hi
  unfold Ins.wf at hw
  unfold needleP
  refine ⟨?_, ?_, ?_, ?_⟩ <;> omega
set_option maxHeartbeats 16000000 in
theorem rdone_any (B pb : Nat) (s : BedS) (i : Ins) (X : List Own) (hk : StOk s) (hf : FdOk s) (hwi : i.wf) (hi : i.good) (w : World) (hBw : B ≤ w.heap.size) (hw : WorkX 26 w B pb s X) :
    Calls Try.prog 43 #[.pointer (some ⟨pb, 0, none⟩), i.val] w fun e w' => codOut B pb (doI s i) X w e w' := by
  obtain ⟨hbd, ha, ht, hop1, hop9⟩ := good_parts hwi hi
  have hw1 : WorkX 26 (w.alloc (insBox i)) B pb s (rowX w.heap.size i :: X) := hw.add ((Below.refl _ w).alloc (Nat.le_refl _) (insBox i)) (rowX_new w i)
  have hal := (Below.refl B w).alloc hBw (insBox i)
  have hB1 : B ≤ (w.alloc (insBox i)).heap.size := by simp; omega
  have HD := Lib.hid (do_ref (i := i) hk)
  have HK := Lib.hid hk
  have HAl := Lib.hid hal
  have HFe := Lib.hid (fun hop => rfeeds_any B pb s i (rowX w.heap.size i :: X) hf hop (w.alloc (insBox i)) hB1 hw1)
  have HWo := Lib.hid (fun hop => rworks_any B pb s i (rowX w.heap.size i :: X) hk hf hop hbd ha ht (w.alloc (insBox i)) hB1 hw1)
  have HLess : Hid (∀ {r : BedS × Int} {e : Ending} {w' : World}, doI s i = r → codOut B pb r (rowX w.heap.size i :: X) (w.alloc (insBox i)) e w' → codOut B pb (doI s i) X w e w') := fun {r e w'} hr h => by
    subst hr
    exact ⟨h.1, fun hz => (h.2.1 hz).less, HAl.out.trans h.2.2⟩
  have HN := Lib.hid (show _ ∧ _ ∧ _ from ⟨hbd, ha, ht⟩)
  obtain ⟨x0, x1, x2, x3, x4, x5, x6⟩ := rowX_at (B := B) (hw1.row List.mem_cons_self)
  obtain ⟨hv, mv, p, hwa⟩ := hw1.open
  have HW1 := Lib.hid hwa
  obtain ⟨c0, c1, c2, c3⟩ := hwa.at4
  have hpl := hwa.base
  unfold Ins.val at HFe HWo ⊢
  clear hw hw1 hk hf ha ht hal hbd hwi hi hwa
  by_cases h12 : i.op = 1 ∨ i.op = 2
  · have hE := HD.out.1 h12
    have HFe1 := Lib.hid (HFe.out h12)
    have b : (i.op == 1) = true ∨ ((i.op == 1) = false ∧ (i.op == 2) = true) := by
      rcases h12 with h | h
      · exact Or.inl (by simp [h])
      · exact Or.inr ⟨beq_eq_false_iff_ne.2 (by omega), by simp [h]⟩
    have HE := Lib.hid hE
    clear h12 hE hop1 hop9 HWo HFe HW1 c0 c1 c2 c3
    rcases b with b1 | ⟨b1, b2⟩
    · go_enter Try.func43, Try.ntmps43
      go_wp2_with fail
      refine HFe1.out.mono ?_
      intro e w1 h1
      have hO := HLess.out HE.out h1
      obtain ⟨rfl, -, -⟩ := h1
      have HO := Lib.hid hO
      clear hO
      go_wp2
      go_ret
      exact HO.out
    · go_enter Try.func43, Try.ntmps43
      go_wp2_with fail
      refine HFe1.out.mono ?_
      intro e w1 h1
      have hO := HLess.out HE.out h1
      obtain ⟨rfl, -, -⟩ := h1
      have HO := Lib.hid hO
      clear hO
      go_wp2
      go_ret
      exact HO.out
  · have b1 : (i.op == 1) = false := beq_eq_false_iff_ne.2 (by omega)
    have b2 : (i.op == 2) = false := beq_eq_false_iff_ne.2 (by omega)
    clear HFe
    by_cases h8 : i.op = 8
    · have b8 : (i.op == 8) = true := by simp [h8]
      have hz := HW1.out.cells.2.2.2.2 0
      have HO := Lib.hid (codOut.go (B := B) (pb := pb) (X := X) (w := w) (HD.out.2.1 h8) (WorkX.less ⟨_, _, _, _, _, HW1.out.setRack i.rack⟩) (HAl.out.setCell (p := ⟨pb, 0, none⟩) hpl.1 _))
      clear h12 h8 hop1 hop9 HWo HW1 HD
      go_enter Try.func43, Try.ntmps43
      go_wp2
      go_ret
      exact HO.out
    · have b8 : (i.op == 8) = false := beq_eq_false_iff_ne.2 h8
      by_cases h9 : i.op = 9
      · have b9 : (i.op == 9) = true := by simp [h9]
        have HE := Lib.hid (HD.out.2.2.1 h9)
        clear h12 h8 h9 hop1 hop9 HWo HD
        go_enter Try.func43, Try.ntmps43
        go_upto_region 9 with fail
        refine abs_world (Q := fun W => Code.wp _ _ _ _ W) (F := fun W => WkP W B pb s hv mv p (rowX w.heap.size i :: X) ∧ Below B w W ∧ B ≤ W.heap.size) _ ⟨HW1.out, HAl.out, hB1⟩ ?_
        clear HW1 HAl HLess c0 c1 c2 c3 x0 x1 x2 x3 x4 x5 x6 hpl
        rintro W6 ⟨hwu, hbW, hBW⟩
        have hku := HK.out
        have hbW6 : Below W6.heap.size W6 W6.drew := Below.drew (Below.refl _ _)
        have hWa : WkP W6.drew B pb s hv mv p (rowI (.slice none 0 0) [] :: rowX w.heap.size i :: X) := hwu.addNil.to hbW6
        have HPu := Lib.hid (rput_ready (b := i.bed) (n := i.at_) (l := []) (A := none) (c := 0) hku (by exact hBW) hWa)
        have hnx : w.heap.size ≠ pb := rowX_ne (i := i) hwu (by simp)
        obtain ⟨c0, c1, c2, c3⟩ := hwu.at4
        obtain ⟨y0, y1, y2, y3, y4, y5, y6⟩ := rowX_at (B := B) (bx := w.heap.size) (i := i) (hwu.rx (by simp))
        have HSx : Hid (∀ V, Below W6.heap.size W6 V → (V.cell? ⟨w.heap.size, 2, none⟩ = some (.int .u8 i.bed) ∧ V.cell? ⟨w.heap.size, 3, none⟩ = some (.int .i64 i.at_)) ∧ ∀ a b c d, (stW V pb a b c d).cell? ⟨w.heap.size, 2, none⟩ = some (.int .u8 i.bed) ∧ (stW V pb a b c d).cell? ⟨w.heap.size, 3, none⟩ = some (.int .i64 i.at_)) := fun V hV =>
          ⟨⟨(bcell hV (lt_of_cell y2) _).trans y2, (bcell hV (lt_of_cell y3) _).trans y3⟩, fun a b c d => ⟨(st_far hnx 2).trans ((bcell hV (lt_of_cell y2) _).trans y2), (st_far hnx 3).trans ((bcell hV (lt_of_cell y3) _).trans y3)⟩⟩
        have HBc := Lib.hid hbW
        clear hwu hWa hnx hbW
        have hld : ∀ (t : TypeId) (x : Operand), ldOp t x = Op.load t x := fun _ _ => rfl
        rw [show Op.load 26 (Operand.tmp 25) = ldOp 26 (Operand.tmp 25) from rfl]
        go_cut [31] (fun s90 wr => ∃ v90, v90 = s90 ∧ Hid (codOut B pb (doI s i) X w (.returned (.int .i64 0)) wr))
        case first =>
          go_region_held3 (fun V => V.cell? ⟨w.heap.size, 2, none⟩ = some (.int .u8 i.bed) ∧ V.cell? ⟨w.heap.size, 3, none⟩ = some (.int .i64 i.at_))
            (first | (with_reducible exact (HSx.out _ (by assumption)).1) | (with_reducible exact (HSx.out _ (by assumption)).2 _ _ _ _) | fail)
            (first | (go_at_call 64; refine HPu.out.mono ?_; rintro e w7 ⟨A7, m7, c7, rfl, hb7, ⟨d0, d1, d2, d3, df⟩, HS7, HB7⟩; have hbw7 := hbW6.trans (hb7.mono hbW6.size)) | fail)
          all_goals
            go_wp2_with fail
            go_meet
            exact ⟨_, rfl, codOut.go HE.out (WorkX.less HS7.out) (HBc.out.trans ((hbW6.mono hBW).trans HB7.out))⟩
        case rest =>
          obtain ⟨v90, rfl, HO⟩ := hcut
          clear HPu HSx HBc c0 c1 c2 c3 y0 y1 y2 y3 y4 y5 y6 hld
          go_wp2
          go_ret
          exact HO.out
      · have b9 : (i.op == 9) = false := beq_eq_false_iff_ne.2 h9
        by_cases h7 : i.op = 7
        · have b7 : (i.op == 7) = true := by simp [h7]
          have HE := Lib.hid (HD.out.2.2.2.1 h7)
          clear h12 h8 h9 h7 hop1 hop9 HWo HD
          go_enter Try.func43, Try.ntmps43
          go_upto_region 12 with fail
          refine abs_world (Q := fun W => Code.wp _ _ _ _ W) (F := fun W => WkP W B pb s hv mv p (rowX w.heap.size i :: X) ∧ Below B w W ∧ B ≤ W.heap.size) _ ⟨HW1.out, HAl.out, hB1⟩ ?_
          clear HW1 HAl HLess c0 c1 c2 c3 x0 x1 x2 x3 x4 x5 x6 hpl
          rintro w1 ⟨hw1, hb1, hBs⟩
          have HW1 := Lib.hid hw1
          have HB1 := Lib.hid hb1
          have HH := rheld_ready HK.out hw1 i.bed i.at_
          have hh6 := HK.out.held i.bed i.at_
          obtain ⟨old, hold⟩ : ∃ old, old = heldAt s.hooks i.bed i.at_ := ⟨_, rfl⟩
          rw [← hold] at HH hh6 HE
          clear hold hw1 hb1
          have hb0' : Below w1.heap.size w1 w1.drew := (Below.refl _ _).drew
          have HSb : Hid (∀ W', Below w1.heap.size w1 W' → W'.cell? ⟨pb, 0, none⟩ = some (.int .i64 s.rack) ∧ W'.cell? ⟨pb, 1, none⟩ = some (.slice p.ah s.hooks.length p.ch) ∧ W'.cell? ⟨pb, 2, none⟩ = some (.slice p.af s.feeds.length p.cf) ∧ W'.cell? ⟨pb, 3, none⟩ = some (.slice p.am s.made.length p.cm) ∧ W'.cell? ⟨w.heap.size, 2, none⟩ = some (.int .u8 i.bed) ∧ W'.cell? ⟨w.heap.size, 3, none⟩ = some (.int .i64 i.at_) ∧ Below w1.heap.size w1 W') := fun W' hb => by
            have h := WkP.at4 (HW1.out.same hb)
            obtain ⟨-, -, z2, z3, -⟩ := rowX_at (B := B) ((HW1.out.same hb).rx List.mem_cons_self)
            exact ⟨h.c0, h.c1, h.c2, h.c3, z2, z3, hb⟩
          go_cut [5] (fun s5 wr => ∃ v5, v5 = s5 ∧ Hid ((rowI v5 old).lies wr w1.heap.size) ∧ Hid (Below w1.heap.size w1 wr))
          case first =>
            go_region_held3 (fun W' => W'.cell? ⟨pb, 0, none⟩ = some (.int .i64 s.rack) ∧ W'.cell? ⟨pb, 1, none⟩ = some (.slice p.ah s.hooks.length p.ch) ∧ W'.cell? ⟨pb, 2, none⟩ = some (.slice p.af s.feeds.length p.cf) ∧ W'.cell? ⟨pb, 3, none⟩ = some (.slice p.am s.made.length p.cm) ∧ W'.cell? ⟨w.heap.size, 2, none⟩ = some (.int .u8 i.bed) ∧ W'.cell? ⟨w.heap.size, 3, none⟩ = some (.int .i64 i.at_) ∧ Below w1.heap.size w1 W')
              (first | (with_reducible exact HSb.out _ (by assumption)) | fail)
              (first | (go_at_call 32; have hp := limb6 (by assumption); refine (HH.out _ hp).mono ?_; rintro e wd ⟨A5, c5, rfl, hrow, hbd⟩; have hrw := World.ownsRow.mono hrow hp.size; have hbw := hp.trans (hbd.mono hp.size); clear hp hrow))
            go_wp2_with fail
            go_meet
            exact ⟨_, rfl, hrw, by assumption⟩
          case rest =>
            obtain ⟨v5, rfl, HR5, HB5⟩ := hcut
            obtain ⟨w5, rfl⟩ : ∃ x : World, x = wc := ⟨_, rfl⟩
            clear HSb hb0' HH
            obtain ⟨A5, c5, rfl, -, -⟩ := rowI_form HR5.out
            have hw5 := HW1.out.add HB5.out HR5.out
            have HB6 := Lib.hid (HB1.out.trans (HB5.out.mono hBs))
            have hB5 : B ≤ w5.heap.size := by have := HB5.out.size; omega
            have HMv := Lib.hid (rmoves_any B pb s i (rowX w.heap.size i :: X) (.slice A5 old.length c5) old HK.out hh6 HN.out.1 HN.out.2.1 HN.out.2.2 w5 hB5 ⟨_, _, _, _, _, hw5⟩)
            obtain ⟨y0, y1, y2, y3, y4, y5, y6⟩ := rowX_at (B := B) (bx := w.heap.size) (i := i) (hw5.rx (by simp))
            unfold Ins.val at HMv
            clear HW1 HB1 HR5 HB5 hw5
            go_wp2_with fail
            refine HMv.out.mono ?_
            intro e w2 h2
            unfold movOut at h2
            cases ha : acrossS s i old with
            | none =>
              rw [ha] at h2
              obtain ⟨rfl, hb2⟩ := h2
              have HO := Lib.hid (codOut.stop (pb := pb) (X := X) (w := w) (HE.out.1 ha) (by decide) (HB6.out.trans hb2))
              clear HE HMv y0 y1 y2 y3 y4 y5 y6 ha hb2
              go_wp2
              go_ret
              exact HO.out
            | some u =>
              rw [ha] at h2
              obtain ⟨rfl, hwu, hb2⟩ := h2
              have HY := Lib.hid (HE.out.2 u ha)
              have hku := HK.out.across HN.out.1 HN.out.2.2 ha
              obtain ⟨hv', mv', p', hwu⟩ := hwu.open
              have hbW := HB6.out.trans hb2
              have hBW : B ≤ w2.heap.size := Nat.le_trans hB5 hb2.size
              clear HE HMv y0 y1 y2 y3 y4 y5 y6 ha hb2
              go_upto_region 15 with fail
              have hbw2 : Below w2.heap.size w2 w2.drew := Below.drew (Below.refl _ _)
              have hWa : WkP w2.drew B pb u hv' mv' p' (rowI (.slice none 0 0) [] :: rowI (.slice A5 old.length c5) old :: rowX w.heap.size i :: X) := hwu.addNil.to hbw2
              have HPu := Lib.hid (rput_ready (b := i.bed) (n := i.at_) (l := []) (A := none) (c := 0) hku (by exact hBW) hWa)
              have hnx : w.heap.size ≠ pb := rowX_ne (i := i) hwu (by simp)
              obtain ⟨c0, c1, c2, c3⟩ := hwu.at4
              obtain ⟨y0, y1, y2, y3, y4, y5, y6⟩ := rowX_at (B := B) (bx := w.heap.size) (i := i) (hwu.rx (by simp))
              have HSx : Hid (∀ V, Below w2.heap.size w2 V → (V.cell? ⟨w.heap.size, 2, none⟩ = some (.int .u8 i.bed) ∧ V.cell? ⟨w.heap.size, 3, none⟩ = some (.int .i64 i.at_)) ∧ ∀ a b c d, (stW V pb a b c d).cell? ⟨w.heap.size, 2, none⟩ = some (.int .u8 i.bed) ∧ (stW V pb a b c d).cell? ⟨w.heap.size, 3, none⟩ = some (.int .i64 i.at_)) := fun V hV =>
                ⟨⟨(bcell hV (lt_of_cell y2) _).trans y2, (bcell hV (lt_of_cell y3) _).trans y3⟩, fun a b c d => ⟨(st_far hnx 2).trans ((bcell hV (lt_of_cell y2) _).trans y2), (st_far hnx 3).trans ((bcell hV (lt_of_cell y3) _).trans y3)⟩⟩
              have HBc := Lib.hid hbW
              clear hwu hWa hnx hbW
              have hld : ∀ (t : TypeId) (x : Operand), ldOp t x = Op.load t x := fun _ _ => rfl
              rw [show Op.load 26 (Operand.tmp 50) = ldOp 26 (Operand.tmp 50) from rfl]
              go_cut [56] (fun s90 wr => ∃ v90, v90 = s90 ∧ Hid (codOut B pb (doI s i) X w (.returned (.int .i64 0)) wr))
              case first =>
                go_region_held3 (fun V => V.cell? ⟨w.heap.size, 2, none⟩ = some (.int .u8 i.bed) ∧ V.cell? ⟨w.heap.size, 3, none⟩ = some (.int .i64 i.at_))
                  (first | (with_reducible exact (HSx.out _ (by assumption)).1) | (with_reducible exact (HSx.out _ (by assumption)).2 _ _ _ _) | fail)
                  (first | (go_at_call 64; refine HPu.out.mono ?_; rintro e w7 ⟨A7, m7, c7, rfl, hb7, ⟨d0, d1, d2, d3, df⟩, HS7, HB7⟩; have hbw7 := hbw2.trans (hb7.mono hbw2.size)) | fail)
                all_goals
                  go_wp2_with fail
                  go_meet
                  exact ⟨_, rfl, codOut.go HY.out (WorkX.less (WorkX.less HS7.out)) (HBc.out.trans ((hbw2.mono hBW).trans HB7.out))⟩
              case rest =>
                obtain ⟨v90, rfl, HO⟩ := hcut
                clear HPu HSx HBc c0 c1 c2 c3 y0 y1 y2 y3 y4 y5 y6 hld
                go_wp2
                go_ret
                exact HO.out
        · have b7 : (i.op == 7) = false := beq_eq_false_iff_ne.2 h7
          have HWo1 := Lib.hid (HWo.out (by omega))
          have HE := Lib.hid (HD.out.2.2.2.2 (by omega))
          clear h12 h8 h9 h7 hop1 hop9 HWo HD HW1 c0 c1 c2 c3
          go_enter Try.func43, Try.ntmps43
          go_wp2_with fail
          refine HWo1.out.mono ?_
          intro e w1 h1
          have hO := HLess.out HE.out h1
          obtain ⟨rfl, -, -⟩ := h1
          have HO := Lib.hid hO
          clear hO
          go_wp2
          go_ret
          exact HO.out
end Go.Proofs.Ytjoglkamhjcmhaa
