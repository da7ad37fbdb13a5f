/- The reference: done does a valid instruction on the state behind the pointer. The reference's Do and Run. The reference's Run. -/
import Derived.Test.YthedmiilkeclaaaGreatKRl
import Derived.Test.YthedmiilkeclaaaGreatKPp
import Derived.Test.YthedmiilkeclaaaGreatKPq
import Derived.Test.YthedmiilkeclaaaGreatKRun
namespace Go.Proofs.YthedmiilkeclaaaGreat
open Go.RowKit Go.Shelf Go.Sort
set_option maxRecDepth 100000

theorem good_parts {i : Ins} (hw : i.wf) (hi : i.good) : (0 ≤ i.bed ∧ i.bed ≤ 1) ∧ needleP i.at_ ∧ needleP i.to_ ∧ 1 ≤ i.op ∧ i.op ≤ 9 := by
  unfold Ins.good carP needleP at hi
  unfold Ins.wf at hw
  unfold needleP
  refine ⟨?_, ?_, ?_, ?_⟩ <;> omega
set_option maxHeartbeats 16000000 in
theorem rdone_any (B pb : Nat) (s : BedS) (i : Ins) (X : List Own) (hk : StOk s) (hf : FdOk s) (hwi : i.wf) (hi : i.good) (w : World) (hBw : B ≤ w.heap.size) (hw : WorkX 48 w B pb s X) :
    Calls Tryz.prog 96 #[.pointer (some ⟨pb, 0, none⟩), i.val] w fun e w' => codOut B pb (doI s i) X w e w' := by
  obtain ⟨hbd, ha, ht, hop1, hop9⟩ := good_parts hwi hi
  have hw1 : WorkX 48 (w.alloc (insBox i)) B pb s (rowX w.heap.size i :: X) := hw.add ((Below.refl _ w).alloc (Nat.le_refl _) (insBox i)) (rowX_new w i)
  have hal := (Below.refl B w).alloc hBw (insBox i)
  have hB1 : B ≤ (w.alloc (insBox i)).heap.size := by simp; omega
  have HD := Lib.hid (do_ref (i := i) hk)
  have HK := Lib.hid hk
  have HAl := Lib.hid hal
  have HFe := Lib.hid (fun hop => rfeeds_any B pb s i (rowX w.heap.size i :: X) hf hop (w.alloc (insBox i)) hB1 hw1)
  have HWo := Lib.hid (fun hop => rworks_any B pb s i (rowX w.heap.size i :: X) hk hf hop hbd ha ht (w.alloc (insBox i)) hB1 hw1)
  have HLess : Hid (∀ {r : BedS × Int} {e : Ending} {w' : World}, doI s i = r → codOut B pb r (rowX w.heap.size i :: X) (w.alloc (insBox i)) e w' → codOut B pb (doI s i) X w e w') := fun {r e w'} hr h => by
    subst hr
    exact ⟨h.1, fun hz => (h.2.1 hz).less, HAl.out.trans h.2.2⟩
  have HN := Lib.hid (show _ ∧ _ ∧ _ from ⟨hbd, ha, ht⟩)
  obtain ⟨x0, x1, x2, x3, x4, x5, x6⟩ := rowX_at (B := B) (hw1.row List.mem_cons_self)
  obtain ⟨hv, mv, p, hwa⟩ := hw1.open
  have HW1 := Lib.hid hwa
  obtain ⟨c0, c1, c2, c3⟩ := hwa.at4
  have hpl := hwa.base
  unfold Ins.val at HFe HWo ⊢
  clear hw hw1 hk hf ha ht hal hbd hwi hi hwa
  by_cases h12 : i.op = 1 ∨ i.op = 2
  · have hE := HD.out.1 h12
    have HFe1 := Lib.hid (HFe.out h12)
    have b : (i.op == 1) = true ∨ ((i.op == 1) = false ∧ (i.op == 2) = true) := by
      rcases h12 with h | h
      · exact Or.inl (by simp [h])
      · exact Or.inr ⟨beq_eq_false_iff_ne.2 (by omega), by simp [h]⟩
    have HE := Lib.hid hE
    clear h12 hE hop1 hop9 HWo HFe HW1 c0 c1 c2 c3
    rcases b with b1 | ⟨b1, b2⟩
    · go_enter Tryz.func96, Tryz.ntmps96
      go_wp2_with fail
      refine HFe1.out.mono ?_
      intro e w1 h1
      have hO := HLess.out HE.out h1
      obtain ⟨rfl, -, -⟩ := h1
      have HO := Lib.hid hO
      clear hO
      go_wp2
      go_ret
      exact HO.out
    · go_enter Tryz.func96, Tryz.ntmps96
      go_wp2_with fail
      refine HFe1.out.mono ?_
      intro e w1 h1
      have hO := HLess.out HE.out h1
      obtain ⟨rfl, -, -⟩ := h1
      have HO := Lib.hid hO
      clear hO
      go_wp2
      go_ret
      exact HO.out
  · have b1 : (i.op == 1) = false := beq_eq_false_iff_ne.2 (by omega)
    have b2 : (i.op == 2) = false := beq_eq_false_iff_ne.2 (by omega)
    clear HFe
    by_cases h8 : i.op = 8
    · have b8 : (i.op == 8) = true := by simp [h8]
      have hz := HW1.out.cells.2.2.2.2 0
      have HO := Lib.hid (codOut.go (B := B) (pb := pb) (X := X) (w := w) (HD.out.2.1 h8) (WorkX.less ⟨_, _, _, _, _, HW1.out.setRack i.rack⟩) (HAl.out.setCell (p := ⟨pb, 0, none⟩) hpl.1 _))
      clear h12 h8 hop1 hop9 HWo HW1 HD
      go_enter Tryz.func96, Tryz.ntmps96
      go_wp2
      go_ret
      exact HO.out
    · have b8 : (i.op == 8) = false := beq_eq_false_iff_ne.2 h8
      by_cases h9 : i.op = 9
      · have b9 : (i.op == 9) = true := by simp [h9]
        have HE := Lib.hid (HD.out.2.2.1 h9)
        clear h12 h8 h9 hop1 hop9 HWo HD
        go_enter Tryz.func96, Tryz.ntmps96
        go_upto_region 9 with fail
        refine abs_world (Q := fun W => Code.wp _ _ _ _ W) (F := fun W => WkP W B pb s hv mv p (rowX w.heap.size i :: X) ∧ Below B w W ∧ B ≤ W.heap.size) _ ⟨HW1.out, HAl.out, hB1⟩ ?_
        clear HW1 HAl HLess c0 c1 c2 c3 x0 x1 x2 x3 x4 x5 x6 hpl
        rintro W6 ⟨hwu, hbW, hBW⟩
        have hku := HK.out
        have hbW6 : Below W6.heap.size W6 W6.drew := Below.drew (Below.refl _ _)
        have hWa : WkP W6.drew B pb s hv mv p (rowI (.slice none 0 0) [] :: rowX w.heap.size i :: X) := hwu.addNil.to hbW6
        have HPu := Lib.hid (rput_ready (b := i.bed) (n := i.at_) (l := []) (A := none) (c := 0) hku (by exact hBW) hWa)
        have hnx : w.heap.size ≠ pb := rowX_ne (i := i) hwu (by simp)
        obtain ⟨c0, c1, c2, c3⟩ := hwu.at4
        obtain ⟨y0, y1, y2, y3, y4, y5, y6⟩ := rowX_at (B := B) (bx := w.heap.size) (i := i) (hwu.rx (by simp))
        have HSx : Hid (∀ V, Below W6.heap.size W6 V → (V.cell? ⟨w.heap.size, 2, none⟩ = some (.int .u8 i.bed) ∧ V.cell? ⟨w.heap.size, 3, none⟩ = some (.int .i64 i.at_)) ∧ ∀ a b c d, (stW V pb a b c d).cell? ⟨w.heap.size, 2, none⟩ = some (.int .u8 i.bed) ∧ (stW V pb a b c d).cell? ⟨w.heap.size, 3, none⟩ = some (.int .i64 i.at_)) := fun V hV =>
          ⟨⟨(bcell hV (lt_of_cell y2) _).trans y2, (bcell hV (lt_of_cell y3) _).trans y3⟩, fun a b c d => ⟨(st_far hnx 2).trans ((bcell hV (lt_of_cell y2) _).trans y2), (st_far hnx 3).trans ((bcell hV (lt_of_cell y3) _).trans y3)⟩⟩
        have HBc := Lib.hid hbW
        clear hwu hWa hnx hbW
        have hld : ∀ (t : TypeId) (x : Operand), ldOp t x = Op.load t x := fun _ _ => rfl
        rw [show Op.load 48 (Operand.tmp 25) = ldOp 48 (Operand.tmp 25) from rfl]
        go_cut [31] (fun s90 wr => ∃ v90, v90 = s90 ∧ Hid (codOut B pb (doI s i) X w (.returned (.int .i64 0)) wr))
        case first =>
          go_region_held3 (fun V => V.cell? ⟨w.heap.size, 2, none⟩ = some (.int .u8 i.bed) ∧ V.cell? ⟨w.heap.size, 3, none⟩ = some (.int .i64 i.at_))
            (first | (with_reducible exact (HSx.out _ (by assumption)).1) | (with_reducible exact (HSx.out _ (by assumption)).2 _ _ _ _) | fail)
            (first | (go_at_call 115; refine HPu.out.mono ?_; rintro e w7 ⟨A7, m7, c7, rfl, hb7, ⟨d0, d1, d2, d3, df⟩, HS7, HB7⟩; have hbw7 := hbW6.trans (hb7.mono hbW6.size)) | fail)
          all_goals
            go_wp2_with fail
            go_meet
            exact ⟨_, rfl, codOut.go HE.out (WorkX.less HS7.out) (HBc.out.trans ((hbW6.mono hBW).trans HB7.out))⟩
        case rest =>
          obtain ⟨v90, rfl, HO⟩ := hcut
          clear HPu HSx HBc c0 c1 c2 c3 y0 y1 y2 y3 y4 y5 y6 hld
          go_wp2
          go_ret
          exact HO.out
      · have b9 : (i.op == 9) = false := beq_eq_false_iff_ne.2 h9
        by_cases h7 : i.op = 7
        · have b7 : (i.op == 7) = true := by simp [h7]
          have HE := Lib.hid (HD.out.2.2.2.1 h7)
          clear h12 h8 h9 h7 hop1 hop9 HWo HD
          go_enter Tryz.func96, Tryz.ntmps96
          go_upto_region 12 with fail
          refine abs_world (Q := fun W => Code.wp _ _ _ _ W) (F := fun W => WkP W B pb s hv mv p (rowX w.heap.size i :: X) ∧ Below B w W ∧ B ≤ W.heap.size) _ ⟨HW1.out, HAl.out, hB1⟩ ?_
          clear HW1 HAl HLess c0 c1 c2 c3 x0 x1 x2 x3 x4 x5 x6 hpl
          rintro w1 ⟨hw1, hb1, hBs⟩
          have HW1 := Lib.hid hw1
          have HB1 := Lib.hid hb1
          have HH := rheld_ready HK.out hw1 i.bed i.at_
          have hh6 := HK.out.held i.bed i.at_
          obtain ⟨old, hold⟩ : ∃ old, old = heldAt s.hooks i.bed i.at_ := ⟨_, rfl⟩
          rw [← hold] at HH hh6 HE
          clear hold hw1 hb1
          have hb0' : Below w1.heap.size w1 w1.drew := (Below.refl _ _).drew
          have HSb : Hid (∀ W', Below w1.heap.size w1 W' → W'.cell? ⟨pb, 0, none⟩ = some (.int .i64 s.rack) ∧ W'.cell? ⟨pb, 1, none⟩ = some (.slice p.ah s.hooks.length p.ch) ∧ W'.cell? ⟨pb, 2, none⟩ = some (.slice p.af s.feeds.length p.cf) ∧ W'.cell? ⟨pb, 3, none⟩ = some (.slice p.am s.made.length p.cm) ∧ W'.cell? ⟨w.heap.size, 2, none⟩ = some (.int .u8 i.bed) ∧ W'.cell? ⟨w.heap.size, 3, none⟩ = some (.int .i64 i.at_) ∧ Below w1.heap.size w1 W') := fun W' hb => by
            have h := WkP.at4 (HW1.out.same hb)
            obtain ⟨-, -, z2, z3, -⟩ := rowX_at (B := B) ((HW1.out.same hb).rx List.mem_cons_self)
            exact ⟨h.c0, h.c1, h.c2, h.c3, z2, z3, hb⟩
          go_cut [5] (fun s5 wr => ∃ v5, v5 = s5 ∧ Hid ((rowI v5 old).lies wr w1.heap.size) ∧ Hid (Below w1.heap.size w1 wr))
          case first =>
            go_region_held3 (fun W' => W'.cell? ⟨pb, 0, none⟩ = some (.int .i64 s.rack) ∧ W'.cell? ⟨pb, 1, none⟩ = some (.slice p.ah s.hooks.length p.ch) ∧ W'.cell? ⟨pb, 2, none⟩ = some (.slice p.af s.feeds.length p.cf) ∧ W'.cell? ⟨pb, 3, none⟩ = some (.slice p.am s.made.length p.cm) ∧ W'.cell? ⟨w.heap.size, 2, none⟩ = some (.int .u8 i.bed) ∧ W'.cell? ⟨w.heap.size, 3, none⟩ = some (.int .i64 i.at_) ∧ Below w1.heap.size w1 W')
              (first | (with_reducible exact HSb.out _ (by assumption)) | fail)
              (first | (go_at_call 116; have hp := limb6 (by assumption); refine (HH.out _ hp).mono ?_; rintro e wd ⟨A5, c5, rfl, hrow, hbd⟩; have hrw := World.ownsRow.mono hrow hp.size; have hbw := hp.trans (hbd.mono hp.size); clear hp hrow))
            go_wp2_with fail
            go_meet
            exact ⟨_, rfl, hrw, by assumption⟩
          case rest =>
            obtain ⟨v5, rfl, HR5, HB5⟩ := hcut
            obtain ⟨w5, rfl⟩ : ∃ x : World, x = wc := ⟨_, rfl⟩
            clear HSb hb0' HH
            obtain ⟨A5, c5, rfl, -, -⟩ := rowI_form HR5.out
            have hw5 := HW1.out.add HB5.out HR5.out
            have HB6 := Lib.hid (HB1.out.trans (HB5.out.mono hBs))
            have hB5 : B ≤ w5.heap.size := by have := HB5.out.size; omega
            have HMv := Lib.hid (rmoves_any B pb s i (rowX w.heap.size i :: X) (.slice A5 old.length c5) old HK.out hh6 HN.out.1 HN.out.2.1 HN.out.2.2 w5 hB5 ⟨_, _, _, _, _, hw5⟩)
            obtain ⟨y0, y1, y2, y3, y4, y5, y6⟩ := rowX_at (B := B) (bx := w.heap.size) (i := i) (hw5.rx (by simp))
            unfold Ins.val at HMv
            clear HW1 HB1 HR5 HB5 hw5
            go_wp2_with fail
            refine HMv.out.mono ?_
            intro e w2 h2
            unfold movOut at h2
            cases ha : acrossS s i old with
            | none =>
              rw [ha] at h2
              obtain ⟨rfl, hb2⟩ := h2
              have HO := Lib.hid (codOut.stop (pb := pb) (X := X) (w := w) (HE.out.1 ha) (by decide) (HB6.out.trans hb2))
              clear HE HMv y0 y1 y2 y3 y4 y5 y6 ha hb2
              go_wp2
              go_ret
              exact HO.out
            | some u =>
              rw [ha] at h2
              obtain ⟨rfl, hwu, hb2⟩ := h2
              have HY := Lib.hid (HE.out.2 u ha)
              have hku := HK.out.across HN.out.1 HN.out.2.2 ha
              obtain ⟨hv', mv', p', hwu⟩ := hwu.open
              have hbW := HB6.out.trans hb2
              have hBW : B ≤ w2.heap.size := Nat.le_trans hB5 hb2.size
              clear HE HMv y0 y1 y2 y3 y4 y5 y6 ha hb2
              go_upto_region 15 with fail
              have hbw2 : Below w2.heap.size w2 w2.drew := Below.drew (Below.refl _ _)
              have hWa : WkP w2.drew B pb u hv' mv' p' (rowI (.slice none 0 0) [] :: rowI (.slice A5 old.length c5) old :: rowX w.heap.size i :: X) := hwu.addNil.to hbw2
              have HPu := Lib.hid (rput_ready (b := i.bed) (n := i.at_) (l := []) (A := none) (c := 0) hku (by exact hBW) hWa)
              have hnx : w.heap.size ≠ pb := rowX_ne (i := i) hwu (by simp)
              obtain ⟨c0, c1, c2, c3⟩ := hwu.at4
              obtain ⟨y0, y1, y2, y3, y4, y5, y6⟩ := rowX_at (B := B) (bx := w.heap.size) (i := i) (hwu.rx (by simp))
              have HSx : Hid (∀ V, Below w2.heap.size w2 V → (V.cell? ⟨w.heap.size, 2, none⟩ = some (.int .u8 i.bed) ∧ V.cell? ⟨w.heap.size, 3, none⟩ = some (.int .i64 i.at_)) ∧ ∀ a b c d, (stW V pb a b c d).cell? ⟨w.heap.size, 2, none⟩ = some (.int .u8 i.bed) ∧ (stW V pb a b c d).cell? ⟨w.heap.size, 3, none⟩ = some (.int .i64 i.at_)) := fun V hV =>
                ⟨⟨(bcell hV (lt_of_cell y2) _).trans y2, (bcell hV (lt_of_cell y3) _).trans y3⟩, fun a b c d => ⟨(st_far hnx 2).trans ((bcell hV (lt_of_cell y2) _).trans y2), (st_far hnx 3).trans ((bcell hV (lt_of_cell y3) _).trans y3)⟩⟩
              have HBc := Lib.hid hbW
              clear hwu hWa hnx hbW
              have hld : ∀ (t : TypeId) (x : Operand), ldOp t x = Op.load t x := fun _ _ => rfl
              rw [show Op.load 48 (Operand.tmp 50) = ldOp 48 (Operand.tmp 50) from rfl]
              go_cut [56] (fun s90 wr => ∃ v90, v90 = s90 ∧ Hid (codOut B pb (doI s i) X w (.returned (.int .i64 0)) wr))
              case first =>
                go_region_held3 (fun V => V.cell? ⟨w.heap.size, 2, none⟩ = some (.int .u8 i.bed) ∧ V.cell? ⟨w.heap.size, 3, none⟩ = some (.int .i64 i.at_))
                  (first | (with_reducible exact (HSx.out _ (by assumption)).1) | (with_reducible exact (HSx.out _ (by assumption)).2 _ _ _ _) | fail)
                  (first | (go_at_call 115; refine HPu.out.mono ?_; rintro e w7 ⟨A7, m7, c7, rfl, hb7, ⟨d0, d1, d2, d3, df⟩, HS7, HB7⟩; have hbw7 := hbw2.trans (hb7.mono hbw2.size)) | fail)
                all_goals
                  go_wp2_with fail
                  go_meet
                  exact ⟨_, rfl, codOut.go HY.out (WorkX.less (WorkX.less HS7.out)) (HBc.out.trans ((hbw2.mono hBW).trans HB7.out))⟩
              case rest =>
                obtain ⟨v90, rfl, HO⟩ := hcut
                clear HPu HSx HBc c0 c1 c2 c3 y0 y1 y2 y3 y4 y5 y6 hld
                go_wp2
                go_ret
                exact HO.out
        · have b7 : (i.op == 7) = false := beq_eq_false_iff_ne.2 h7
          have HWo1 := Lib.hid (HWo.out (by omega))
          have HE := Lib.hid (HD.out.2.2.2.2 (by omega))
          clear h12 h8 h9 h7 hop1 hop9 HWo HD HW1 c0 c1 c2 c3
          go_enter Tryz.func96, Tryz.ntmps96
          go_wp2_with fail
          refine HWo1.out.mono ?_
          intro e w1 h1
          have hO := HLess.out HE.out h1
          obtain ⟨rfl, -, -⟩ := h1
          have HO := Lib.hid hO
          clear hO
          go_wp2
          go_ret
          exact HO.out
end Go.Proofs.YthedmiilkeclaaaGreat
namespace Go.Proofs.YthedmiilkeclaaaGreat
open Go.RowKit Go.Shelf Go.Sort
set_option maxRecDepth 100000

theorem rrun_close {W : World} {tmps : Array Value} {s : BedS} {p : BedP} {x y : Int} {b : Nat} {R : Ending → World → Prop} (hF : BdIn W b s p) (h4 : tmps[4]?.getD undef = .pointer (some ⟨b, 0, none⟩)) (h5 : tmps[5]?.getD undef = .int .i64 x) (h6 : tmps[6]?.getD undef = .int .i64 y) (hR : R (.returned (.tuple #[s.val p, .int .i64 x, .int .i64 y])) W) :
    bodyPost Tryz.prog Tryz.f72 R .ret { tmps := tmps, defers := [] } W := by
  obtain ⟨c0, c1, c2, c3⟩ := hF
  refine bodyPost_ret (v := .tuple #[s.val p, .int .i64 x, .int .i64 y]) ?_ rfl hR
  simp [results, Tryz.results72, go_sem, h4, h5, h6, c0, c1, c2, c3, BedS.val]
/-- What Twin hands back, stored in a box of its own. -/
theorem twin_work {s : BedS} {w w' : World} {e : Ending} (h : twinOut s w e w') : ∃ q : BedP, e = .returned (s.val q) ∧ Below w.heap.size w w' ∧ WorkX 48 (w'.alloc (bedBox s q)) w.heap.size w'.heap.size s [] := by
  obtain ⟨hv, mv, vh, vf, vm, rfl, e1, e2, ho, hb⟩ := h
  have h3 := ho.add ((Below.refl _ w').alloc (Nat.le_refl _) (.cells #[.int .i64 s.rack, vh, vf, vm] 48)) hb.size (o := rowP 48 w'.heap.size s.rack vh vf vm) (World.ownsRow_lit (e := 48) w' #[.int .i64 s.rack, vh, vf, vm] 1 (base := w'.heap.size) (size := 4) (Nat.le_refl _) (by decide) rfl)
  have hw : WorkAt 48 (w'.alloc (.cells #[.int .i64 s.rack, vh, vf, vm] 48)) w.heap.size w'.heap.size s hv mv vh vf vm [] := ⟨e1, e2, h3⟩
  obtain ⟨p, rfl, rfl, rfl, -⟩ := hw.bed
  exact ⟨p, rfl, hb, ⟨_, _, _, _, _, hw⟩⟩
theorem rdo_state {w W : World} {b B pb : Nat} {st : BedS} {q : BedP} {x : Int} {hv : List (Hk × Value)} {mv : List (Mk × Value)} {X : List Own}
    (h : WkP W B pb st hv mv q X) (hb : b < B) (hB : w.heap.size ≤ b) (hbl : Below w.heap.size w W) : bedOut (st, x) w (.returned (.tuple #[st.val q, .int .i64 x])) (BdIn.set W b st q) :=
  ⟨q, rfl, ((WorkAt.fresh h).sets hb).more (by omega), BdIn.kept hbl hB _ _⟩
theorem rrun_state {w W : World} {b B pb : Nat} {st : BedS} {q : BedP} {x y : Int} {hv : List (Hk × Value)} {mv : List (Mk × Value)} {X : List Own}
    (h : WkP W B pb st hv mv q X) (hb : b < B) (hB : w.heap.size ≤ b) (hbl : Below w.heap.size w W) : runOut (st, x, y) w (.returned (.tuple #[st.val q, .int .i64 x, .int .i64 y])) (BdIn.set W b st q) :=
  ⟨q, rfl, ((WorkAt.fresh h).sets hb).more (by omega), BdIn.kept hbl hB _ _⟩
end Go.Proofs.YthedmiilkeclaaaGreat
namespace Go.Proofs.YthedmiilkeclaaaGreat
open Go.RowKit Go.Shelf Go.Sort
set_option maxRecDepth 100000

set_option maxHeartbeats 16000000 in
theorem rrun_any (s : BedS) (p : BedP) (hwf : s.wf) (hn : s.hooks.length ≤ 9000 ∧ s.feeds.length ≤ 9000 ∧ s.made.length ≤ 9000) (l : List Ins) (hl : l.length ≤ 9000) (hcap : bedE s = 0 → l.length ≤ 2000 → s.made.length + l.length ≤ 3999) (hwl : ∀ i ∈ l, i.wf) (A : Option Addr) (c : Nat) (w : World) (hs : BedAt w w.heap.size p s) (hx : SlX w w.heap.size A l) :
    Calls Tryz.prog 72 #[s.val p, .slice A l.length c] w fun e w' => runOut (runS s l) w e w' := by
  have HC := Lib.hid (fun (w1 : World) (hb : Below w.heap.size w w1) => rbcheck_any s p hwf ⟨by omega, by omega, by omega⟩ w1 ((hs.below hb).more hb.size))
  have HFa := Lib.hid (run_facts w s p)
  have HBl := Lib.hid (run_below w s p)
  unfold RetB8 at HC
  by_cases he : bedE s = 0
  case neg =>
    have HF : Hid (runS s l = (bed0, 0, bedE s)) := by unfold Hid runS; rw [if_pos he]
    have e2 : (bedE s != 0) = true := by simp [he]
    unfold BedS.val at HC ⊢
    generalize bedE s = x at HC HF e2
    generalize runS s l = r at HF ⊢
    clear hs he hcap hx hwl
    go_enter Tryz.func72, Tryz.ntmps72
    go_wp2_with fail
    refine (HC.out _ HBl.out).mono ?_
    rintro e w1 ⟨rfl, hb1⟩
    have HB1 := Lib.hid (hb1.mono (by simp) : Below (w.heap.size + 2) _ w1)
    obtain ⟨⟨c0, c1, c2, c3⟩, -, -⟩ := HFa.out w1 HB1.out
    clear hb1
    go_wp2_with fail
    refine (HC.out _ (HBl.out.trans (HB1.out.mono (by omega)))).mono ?_
    rintro e w2 ⟨rfl, hb2⟩
    have hb12 := HB1.out.trans (hb2.mono (by have := HB1.out.size; simp at this; omega))
    obtain ⟨-, hz, hfr⟩ := HFa.out w2 hb12
    have HZ := Lib.hid (hz.stored bed0 bedP0)
    have HR := Lib.hid (runOut.zero (r := r) (b := w.heap.size + 1) HF.out (HBl.out.trans (hb12.mono (by omega))) (by omega))
    obtain ⟨z0, z1, z2, z3⟩ := hz
    clear hb2 hb12 c0 c1 c2 c3
    go_wp2
    exact rrun_close HZ.out rfl rfl rfl HR.out
  case pos =>
    rw [he] at HC
    by_cases hll : l.length ≤ 2000
    case neg =>
      have HF : Hid (runS s l = (bed0, 0, 4)) := by unfold Hid runS; rw [if_neg (by simpa using he), if_pos (by omega)]
      unfold BedS.val at HC ⊢
      generalize runS s l = r at HF ⊢
      have e3 : decide (2000 < l.length) = true := by simpa using hll
      have e3' : decide ((2000 : Int) < (l.length : Int)) = true := decide_eq_true (by omega)
      clear hs he hcap hx hwl
      go_enter Tryz.func72, Tryz.ntmps72
      go_wp2_with fail
      refine (HC.out _ HBl.out).mono ?_
      rintro e w1 ⟨rfl, hb1⟩
      obtain ⟨-, hz, hfr⟩ := HFa.out w1 (hb1.mono (by simp))
      have HZ := Lib.hid (hz.stored bed0 bedP0)
      have HR := Lib.hid (runOut.zero (r := r) (b := w.heap.size + 1) HF.out (HBl.out.trans (hb1.mono (by simp; omega))) (by omega))
      obtain ⟨z0, z1, z2, z3⟩ := hz
      clear hb1
      go_wp2
      exact rrun_close HZ.out rfl rfl rfl HR.out
    case pos =>
      have HF : Hid (runS s l = runI s 0 l) := by unfold Hid runS; rw [if_neg (by simpa using he), if_neg (by omega)]
      have HCo := Lib.hid (fun (w1 : World) (hb : Below w.heap.size w w1) => rtwin_any s p hn (fun h hh => by have := (bed_loops he h hh).2; omega) (fun m hm => by have := bed_parents he m hm; omega) w1 ((hs.below hb).more hb.size))
      have HOk : Hid (RunOk s l.length 0 s) := ⟨Good.of he hwf, by omega, hcap he hll⟩
      have HX := Lib.hid hx
      have HWl := Lib.hid hwl
      rw [HF.out]
      unfold BedS.val at HC HCo ⊢
      have e3 : decide (2000 < l.length) = false := decide_eq_false (by omega)
      have e3' : decide ((2000 : Int) < (l.length : Int)) = false := decide_eq_false (by omega)
      clear hs he hcap hx hwl HF hn hwf
      go_enter Tryz.func72, Tryz.ntmps72
      go_wp2_with fail
      refine (HC.out _ HBl.out).mono ?_
      rintro e w1 ⟨rfl, hb1⟩
      have HB1 := Lib.hid (hb1.mono (by simp) : Below (w.heap.size + 2) _ w1)
      obtain ⟨⟨c0, c1, c2, c3⟩, -, -⟩ := HFa.out w1 HB1.out
      clear hb1
      go_wp2_with fail
      refine (HCo.out _ (HBl.out.trans (HB1.out.mono (by omega)))).mono ?_
      intro e w2 h2
      obtain ⟨q, rfl, hb2, hw2⟩ := twin_work h2
      obtain ⟨B, hBe⟩ : ∃ B, B = w1.heap.size := ⟨_, rfl⟩
      have HBs : Hid (w.heap.size + 2 ≤ B) := by show _ ≤ _; rw [hBe]; have := HB1.out.size; simp at this; exact this
      rw [← hBe] at hw2 hb2
      have HB2' : Hid (B ≤ (w2.alloc (bedBox s q)).heap.size) := by show _ ≤ _; have := hb2.size; rw [← hBe] at this; simp; omega
      have HW2 := Lib.hid hw2
      have HB2 := Lib.hid ((HB1.out.trans (hb2.mono HBs.out)).alloc (by have := HBs.out; have := hb2.size; omega) (bedBox s q))
      obtain ⟨pb, hpb⟩ : ∃ pb, pb = w2.heap.size := ⟨_, rfl⟩
      rw [← hpb] at HW2
      clear hb2 hw2 h2 c0 c1 c2 c3 hBe HC HCo e3 e3'
      unfold BedS.val
      go_wp2
      rw [← hpb]
      clear hpb
      go_loopw [8] (fun s8 wr => ∃ (k : Nat) (st : BedS), k ≤ l.length ∧ s8 = .int .i64 k ∧ Hid (runI s 0 l = runI st k (l.drop k)) ∧ Hid (RunOk s l.length k st) ∧ Hid (B ≤ wr.heap.size) ∧ Hid (WorkX 48 wr B pb st []) ∧ Hid (Below (w.heap.size + 2) (runBW w s p) wr)) (fun s8 _ => l.length - (intOf s8).toNat)
      case atStart => exact ⟨0, s, Nat.zero_le _, rfl, rfl, HOk.out, HB2'.out, HW2.out, HB2.out⟩
      case round =>
        obtain ⟨k, st, hk, rfl, HE, HG, HS, HW, HB⟩ := hrel
        clear HW2 HB2 HB2' HOk HB1
        by_cases hlt : k < l.length
        case neg =>
          have e0 : l.drop k = [] := List.drop_eq_nil_of_le (by omega)
          have HE2 : Hid (runI s 0 l = (st, (l.length : Int), 0)) := by
            unfold Hid
            rw [HE.out, e0, show k = l.length by omega]
            rfl
          obtain ⟨hv, mv, q, hwa⟩ := HW.out.open
          have HAt := Lib.hid hwa
          have hpb := hwa.base.2
          obtain ⟨y0, y1, y2, y3⟩ := hwa.at4
          obtain ⟨-, hz, hfr⟩ := HFa.out wr HB.out
          have HZ := Lib.hid (hz.stored st q)
          obtain ⟨z0, z1, z2, z3⟩ := hz
          clear hwa e0
          go_wp2
          exact rrun_close HZ.out rfl rfl rfl (runOut.of HE2.out (rrun_state HAt.out (by have := HBs.out; omega) (by omega) (HBl.out.trans (HB.out.mono (by omega)))))
        case pos =>
          obtain ⟨b, off, i, hA, hB0, hz, hc⟩ := HX.out.at_ hlt
          have hbw : Below w.heap.size w wr := HBl.out.trans (HB.out.mono (by omega))
          have HIn : Hid (∀ W, Below w.heap.size w W → InsAt W b (off + k * 7) i) := fun W hb => hc.below hb hB0
          obtain ⟨i0, i1, i2, i3, i4, i5, i6⟩ := HIn.out wr hbw
          have HBw := Lib.hid hbw
          have HStep := Lib.hid (HE.out.trans (runI_step hz))
          have hwi : i.wf := HWl.out i (List.mem_of_getElem? hz)
          have HWi := Lib.hid hwi
          subst hA
          have HI := Lib.hid (fun w => rinstr_any i w)
          clear hbw hwi hz hc hB0 HE HX
          by_cases hi : i.err = 0
          case neg =>
            rw [if_pos hi] at HStep
            have e1 : (i.err == 0) = false := by simp [hi]
            have e2 : (i.err != 0) = true := by simp [hi]
            unfold Ins.val at HI
            generalize i.err = x at HI e1 e2 HStep
            clear hi HWl HG HW
            go_wp2_with fail
            refine (HI.out _).mono ?_
            rintro e w3 ⟨rfl, hb3⟩
            have hB3 := HB.out.trans (hb3.mono (by have := HBs.out; have := HS.out; omega))
            obtain ⟨-, hz, hfr⟩ := HFa.out w3 hB3
            have HZ := Lib.hid (hz.stored bed0 bedP0)
            have HR := Lib.hid (runOut.zero (r := (bed0, (k : Int), x)) (b := w.heap.size + 1) rfl (HBl.out.trans (hB3.mono (by omega))) (by omega))
            obtain ⟨z0, z1, z2, z3⟩ := hz
            clear hb3 hB3
            go_wp2
            exact rrun_close HZ.out rfl rfl rfl (runOut.of HStep.out HR.out)
          case pos =>
            rw [if_neg (by simpa using hi)] at HStep
            rw [hi] at HI
            have HDo := Lib.hid (fun (w1 : World) (hBw : B ≤ w1.heap.size) (h : WorkX 48 w1 B pb st []) => rdone_any B pb st i [] HG.out.good.st HG.out.good.fd HWi.out (Ins.good_err hi) w1 hBw h)
            have HNx := Lib.hid (fun hz => HG.out.next HWi.out hi hz)
            unfold Ins.val at HI HDo
            generalize doI st i = r at HDo HNx HStep
            clear hi HWl HG
            go_wp2_with fail
            refine (HI.out _).mono ?_
            rintro e w3 ⟨rfl, hb3⟩
            have hs3 : B ≤ w3.heap.size := by have := HS.out; have := hb3.size; omega
            have HW3 := Lib.hid (HW.out.to hb3)
            have HB3 := Lib.hid (HB.out.trans (hb3.mono (by have := HBs.out; have := HS.out; omega)))
            have HBw3 := HBw.out.trans (hb3.mono HBw.out.size)
            have HS3 := Lib.hid hs3
            clear i0 i1 i2 i3 i4 i5 i6
            obtain ⟨i0, i1, i2, i3, i4, i5, i6⟩ := HIn.out w3 HBw3
            clear hb3 hs3 HW HBw3 HBw
            go_wp2_with fail
            refine (HDo.out _ HS3.out HW3.out).mono ?_
            rintro e w4 ⟨rfl, hw4, hb4⟩
            have hB4 := HB3.out.trans (hb4.mono HBs.out)
            obtain ⟨-, hz, hfr⟩ := HFa.out w4 hB4
            by_cases hr : r.2 = 0
            case neg =>
              rw [if_pos hr] at HStep
              have e2 : (r.2 != 0) = true := by simp [hr]
              have HZ := Lib.hid (hz.stored bed0 bedP0)
              have HR := Lib.hid (runOut.zero (r := (bed0, (k : Int), r.2)) (b := w.heap.size + 1) rfl (HBl.out.trans (hB4.mono (by omega))) (by omega))
              obtain ⟨z0, z1, z2, z3⟩ := hz
              clear hb4 hB4 hw4 hr i0 i1 i2 i3 i4 i5 i6
              go_wp2
              exact rrun_close HZ.out rfl rfl rfl (runOut.of HStep.out HR.out)
            case pos =>
              rw [if_neg (by simpa using hr)] at HStep
              have e2 : (r.2 != 0) = false := by simp [hr]
              have HW4 := Lib.hid (hw4 hr)
              have HB4 := Lib.hid hB4
              have HN4 := Lib.hid (HNx.out hr)
              have HS4 : Hid (B ≤ w4.heap.size) := Nat.le_trans HS3.out hb4.size
              clear hb4 hB4 hw4 hr i0 i1 i2 i3 i4 i5 i6 hz hfr
              go_wp2
              go_roundw
              case rel => exact ⟨k + 1, r.1, by omega, by go_num, HStep.out, HN4.out, HS4.out, HW4.out, HB4.out⟩
              case measure => simp [intOf]; omega
end Go.Proofs.YthedmiilkeclaaaGreat
