/- The reference: works does OpKnit, OpTuck, OpMiss and OpSplit. The reference: feeds brings a carrier in, or takes it out. -/
import Derived.Test.YthedmiilkeclaaaGreatKQe
import Derived.Test.YthedmiilkeclaaaGreatKQc
import Derived.Test.YthedmiilkeclaaaGreatKQd
import Derived.BigQuiet
namespace Go.Proofs.YthedmiilkeclaaaGreat
open Go.RowKit Go.Shelf Go.Sort
set_option maxRecDepth 100000

set_option maxHeartbeats 16000000 in
theorem rworks_any (B pb : Nat) (s : BedS) (i : Ins) (X : List Own) (hk : StOk s) (hf : FdOk s) (hop : i.op = 3 ∨ i.op = 4 ∨ i.op = 5 ∨ i.op = 6) (hbd : 0 ≤ i.bed ∧ i.bed ≤ 1) (ha : needleP i.at_) (ht : needleP i.to_) (w : World) (hBw : B ≤ w.heap.size) (hw : WorkX 48 w B pb s X) :
    Calls Tryz.prog 118 #[.pointer (some ⟨pb, 0, none⟩), i.val] w fun e w' => codOut B pb (yarnS s i) X w e w' := by
  have hw1 : WorkX 48 (w.alloc (insBox i)) B pb s (rowX w.heap.size i :: X) := hw.add ((Below.refl _ w).alloc (Nat.le_refl _) (insBox i)) (rowX_new w i)
  have hal := (Below.refl B w).alloc hBw (insBox i)
  have HPa := Lib.hid (rpass_any B pb s i (rowX w.heap.size i :: X) hk hf hbd ha (w.alloc (insBox i)) (by simp; omega) hw1)
  have HK := Lib.hid hk
  have HAl := Lib.hid hal
  have HN := Lib.hid (show _ ∧ _ ∧ _ from ⟨hbd, ha, ht⟩)
  obtain ⟨x0, x1, x2, x3, x4, x5, x6⟩ := rowX_at (B := B) (hw1.row List.mem_cons_self)
  unfold Ins.val at HPa ⊢
  clear hw hw1 hk hf ha ht hal hbd
  go_enter Tryz.func118, Tryz.ntmps118
  go_wp2_with fail
  refine HPa.out.mono ?_
  intro e w1 h1
  unfold movOut at h1
  cases hp : passS s i with
  | none =>
    rw [hp] at h1
    obtain ⟨rfl, hb1⟩ := h1
    have HO := Lib.hid (codOut.stop (pb := pb) (X := X) (w := w) (r := yarnS s i) (c := 36) (by unfold yarnS; rw [hp]) (by decide) (HAl.out.trans hb1))
    clear hb1 hp
    go_wp2
    go_ret
    exact HO.out
  | some t =>
    rw [hp] at h1
    obtain ⟨rfl, hwt, hb1⟩ := h1
    have hkt : StOk t := HK.out.pass hp
    have HY := Lib.hid (yarn_ref hkt hp)
    have HKt := Lib.hid hkt
    have HB1 := Lib.hid (HAl.out.trans hb1)
    obtain ⟨hv, mv, p, hwt⟩ := hwt.open
    have HW1 := Lib.hid hwt
    obtain ⟨y0, y1, y2, y3, y4, y5, y6⟩ := rowX_at (B := B) (hwt.rx List.mem_cons_self)
    obtain ⟨c0, c1, c2, c3⟩ := hwt.at4
    have hBs : B ≤ w1.heap.size := by have := HB1.out.size; omega
    clear hb1 hwt HPa HK HAl x0 x1 x2 x3 x4 x5 x6 hp hkt
    by_cases h5 : i.op = 5
    · have b5 : (i.op == 5) = true := by simp [h5]
      have HO := Lib.hid (codOut.go (B := B) (w := w) (X := X) (HY.out.1 h5) (WorkX.less ⟨_, _, _, _, _, HW1.out⟩) HB1.out)
      clear h5 hop HW1 HY HKt
      go_wp2
      go_ret
      exact HO.out
    · have b5 : (i.op == 5) = false := beq_eq_false_iff_ne.2 h5
      have HH := rheld_ready HKt.out HW1.out i.bed i.at_
      have hh6 := HKt.out.held i.bed i.at_
      obtain ⟨old, hold⟩ : ∃ old, old = heldAt t.hooks i.bed i.at_ := ⟨_, rfl⟩
      rw [← hold] at HH hh6 HY
      clear hold
      go_upto_region 5 with fail
      have hb0' : Below w1.heap.size w1 w1.drew := (Below.refl _ _).drew
      have HSb : Hid (∀ W', Below w1.heap.size w1 W' → W'.cell? ⟨pb, 0, none⟩ = some (.int .i64 t.rack) ∧ W'.cell? ⟨pb, 1, none⟩ = some (.slice p.ah t.hooks.length p.ch) ∧ W'.cell? ⟨pb, 2, none⟩ = some (.slice p.af t.feeds.length p.cf) ∧ W'.cell? ⟨pb, 3, none⟩ = some (.slice p.am t.made.length p.cm) ∧ W'.cell? ⟨w.heap.size, 2, none⟩ = some (.int .u8 i.bed) ∧ W'.cell? ⟨w.heap.size, 3, none⟩ = some (.int .i64 i.at_) ∧ Below w1.heap.size w1 W') := fun W' hb => by
        have h := WkP.at4 (HW1.out.same hb)
        obtain ⟨-, -, z2, z3, -⟩ := rowX_at (B := B) ((HW1.out.same hb).rx List.mem_cons_self)
        exact ⟨h.c0, h.c1, h.c2, h.c3, z2, z3, hb⟩
      go_cut [5] (fun s5 wr => ∃ v5, v5 = s5 ∧ Hid ((rowI v5 old).lies wr w1.heap.size) ∧ Hid (Below w1.heap.size w1 wr))
      case first =>
        go_region_held3 (fun W' => W'.cell? ⟨pb, 0, none⟩ = some (.int .i64 t.rack) ∧ W'.cell? ⟨pb, 1, none⟩ = some (.slice p.ah t.hooks.length p.ch) ∧ W'.cell? ⟨pb, 2, none⟩ = some (.slice p.af t.feeds.length p.cf) ∧ W'.cell? ⟨pb, 3, none⟩ = some (.slice p.am t.made.length p.cm) ∧ W'.cell? ⟨w.heap.size, 2, none⟩ = some (.int .u8 i.bed) ∧ W'.cell? ⟨w.heap.size, 3, none⟩ = some (.int .i64 i.at_) ∧ Below w1.heap.size w1 W')
          (first | (with_reducible exact HSb.out _ (by assumption)) | fail)
          (first | (go_at_call 116; have hp := limb6 (by assumption); refine (HH.out _ hp).mono ?_; rintro e wd ⟨A5, c5, rfl, hrow, hbd⟩; have hrw := World.ownsRow.mono hrow hp.size; have hbw := hp.trans (hbd.mono hp.size); clear hp hrow))
        go_wp2_with fail
        go_meet
        exact ⟨_, rfl, hrw, by assumption⟩
      case rest =>
        obtain ⟨v5, rfl, HR5, HB5⟩ := hcut
        obtain ⟨w5, rfl⟩ : ∃ x : World, x = wc := ⟨_, rfl⟩
        clear HSb hb0' HH y0 y1 y2 y3 y4 y5 y6 c0 c1 c2 c3
        obtain ⟨A5, c5, rfl, -, -⟩ := rowI_form HR5.out
        have hw5 := HW1.out.add HB5.out HR5.out
        have HW5 := Lib.hid hw5
        have HB6 := Lib.hid (HB1.out.trans (HB5.out.mono hBs))
        have hB5 : B ≤ w5.heap.size := by have := HB5.out.size; omega
        obtain ⟨y0, y1, y2, y3, y4, y5, y6⟩ := rowX_at (B := B) (bx := w.heap.size) (i := i) (hw5.rx (by simp))
        clear HW1 HB1 HR5 HB5 hw5 hBs
        go_upto_region 7 with fail
        have hK0 : (rowK w5.heap.size (.slice none 0 0) ⟨[], i.bed, i.at_, i.car⟩).lies (w5.alloc (.cells #[.slice none 0 0, .int .u8 i.bed, .int .i64 i.at_, .int .i64 i.car] 52)) w5.heap.size := World.ownsRow_lit (e := 52) w5 #[.slice none 0 0, .int .u8 i.bed, .int .i64 i.at_, .int .i64 i.car] 1 (base := w5.heap.size) (size := 4) (Nat.le_refl _) (by decide) rfl
        have hal5 := (Below.refl w5.heap.size w5).alloc (Nat.le_refl _) (.cells #[.slice none 0 0, .int .u8 i.bed, .int .i64 i.at_, .int .i64 i.car] 52)
        refine abs_world (Q := fun W => Code.wp _ _ _ _ W) (F := fun W => WkP W B pb t hv mv p (rowI (.slice A5 old.length c5) old :: rowK w5.heap.size (.slice none 0 0) ⟨[], i.bed, i.at_, i.car⟩ :: rowX w.heap.size i :: X) ∧ Below B w W ∧ B ≤ W.heap.size) _ ⟨(HW5.out.add hal5 hK0).swap2, HB6.out.trans (hal5.mono hB5), by simp; omega⟩ ?_
        obtain ⟨hb, hhb⟩ : ∃ hb, hb = w5.heap.size := ⟨_, rfl⟩
        rw [← hhb]
        clear hhb hK0 hal5 HW5 HB6 hB5 y0 y1 y2 y3 y4 y5 y6
        obtain ⟨bx, hbx⟩ : ∃ bx, bx = w.heap.size := ⟨_, rfl⟩
        rintro W6 ⟨hW6, hB6, hBs⟩
        have HW6 := Lib.hid hW6
        have HB6 := Lib.hid hB6
        obtain ⟨y0, y1, y2, y3, y4, y5, y6⟩ := rowX_at (B := B) (bx := w.heap.size) (i := i) (hW6.rx (by simp))
        have hm9 : t.made.length ≤ 9000 := HKt.out.made
        by_cases h4 : i.op = 4
        · have b4 : (i.op == 4) = true := by simp [h4]
          have b6 : (i.op == 6) = false := beq_eq_false_iff_ne.2 (by omega)
          have HYt : Hid (yarnS s i = if old.length = 6 then (bed0, 36) else if t.made.length = 4000 then (bed0, 4) else ({ t with hooks := putAt t.hooks i.bed i.at_ (old ++ [(t.made.length : Int)]), made := t.made ++ [⟨[], i.bed, i.at_, i.car⟩] }, 0)) := HY.out.2.1 h4
          clear hop hW6 hB6 HY
          by_cases h6 : old.length = 6
          · have e6 : ((old.length : Int) == 6) = true := by rw [h6]; rfl
            have HO := Lib.hid (codOut.stop (pb := pb) (X := X) (w := w) (HYt.out.trans (by rw [if_pos h6])) (by decide) HB6.out)
            clear HYt h6 HW6 h4 hh6
            go_wp2
            go_ret
            exact HO.out
          · have e6 : ((old.length : Int) == 6) = false := beq_eq_false_iff_ne.2 (by omega)
            have HYt2 : Hid (yarnS s i = if t.made.length = 4000 then (bed0, 4) else ({ t with hooks := putAt t.hooks i.bed i.at_ (old ++ [(t.made.length : Int)]), made := t.made ++ [⟨[], i.bed, i.at_, i.car⟩] }, 0)) := by show _ = _; rw [HYt.out, if_neg h6]
            obtain ⟨c0, c1, c2, c3⟩ := HW6.out.at4
            by_cases h40 : t.made.length = 4000
            · have e40 : ((t.made.length : Int) == 4000) = true := by rw [h40]; rfl
              have HO := Lib.hid (codOut.stop (pb := pb) (X := X) (w := w) (HYt2.out.trans (by rw [if_pos h40])) (by decide) HB6.out)
              clear HYt HYt2 h6 HW6 h4 h40 hh6
              go_wp2
              go_ret
              exact HO.out
            · have e40 : ((t.made.length : Int) == 4000) = false := beq_eq_false_iff_ne.2 (by omega)
              have HYu : Hid (yarnS s i = ({ t with hooks := putAt t.hooks i.bed i.at_ (old ++ [(t.made.length : Int)]), made := t.made ++ [⟨[], i.bed, i.at_, i.car⟩] }, 0)) := by show _ = _; rw [HYt2.out, if_neg h40]
              clear HYt HYt2 h6 h4 h40
              have hKt0 : StOk t := HKt.out
              go_upto_region 12 with fail
              have hbWa : Below W6.heap.size W6 (W6.alloc (.cells #[.int .i64 (t.made.length : Int)] 3)).drew := ((Below.refl _ _).alloc (Nat.le_refl _) _).drew
              have hWa : WkP (W6.alloc (.cells #[.int .i64 (t.made.length : Int)] 3)).drew B pb t hv mv p (rowI (.slice A5 old.length c5) old :: rowK hb (.slice none 0 0) ⟨[], i.bed, i.at_, i.car⟩ :: rowX w.heap.size i :: X) := HW6.out.to hbWa
              obtain ⟨A6, c6, w6, hr6, hW6, hB6⟩ := tuck_app hWa (t.made.length : Int) W6.heap.size (by intro j u hu; exact newsT W6 #[.int .i64 (t.made.length : Int)] 3 _ rfl j u hu) (by have := hbWa.size; omega) (by omega)
              have hB6s : B ≤ w6.heap.size := by have := hB6.size; have := hbWa.size; omega
              have hPu := rput_ready (b := i.bed) (n := i.at_) (l := old ++ [(t.made.length : Int)]) (A := A6) (c := c6) hKt0 hB6s hW6
              rw [show (old ++ [(t.made.length : Int)]).length = old.length + 1 by simp] at hPu
              have HPu := Lib.hid hPu
              clear hPu
              have hnx : w.heap.size ≠ pb := rowX_ne (i := i) HW6.out (by simp)
              have e6 := hW6.at4
              obtain ⟨g0, g1, g2, g3⟩ := e6
              obtain ⟨-, -, z2, z3, -⟩ := rowX_at (B := B) (bx := w.heap.size) (i := i) (hW6.rx (by simp))
              have HSx : Hid (∀ V, (Below W6.heap.size W6 V ∨ Below w6.heap.size w6 V) → (V.cell? ⟨w.heap.size, 2, none⟩ = some (.int .u8 i.bed) ∧ V.cell? ⟨w.heap.size, 3, none⟩ = some (.int .i64 i.at_)) ∧ ∀ a b c d, (stW V pb a b c d).cell? ⟨w.heap.size, 2, none⟩ = some (.int .u8 i.bed) ∧ (stW V pb a b c d).cell? ⟨w.heap.size, 3, none⟩ = some (.int .i64 i.at_)) := fun V hV => by
                have h23 : V.cell? ⟨w.heap.size, 2, none⟩ = some (.int .u8 i.bed) ∧ V.cell? ⟨w.heap.size, 3, none⟩ = some (.int .i64 i.at_) := by
                  rcases hV with hV | hV
                  · exact ⟨(bcell hV (lt_of_cell y2) _).trans y2, (bcell hV (lt_of_cell y3) _).trans y3⟩
                  · exact ⟨(bcell hV (lt_of_cell z2) _).trans z2, (bcell hV (lt_of_cell z3) _).trans z3⟩
                exact ⟨h23, fun a b c d => ⟨(st_far hnx 2).trans h23.1, (st_far hnx 3).trans h23.2⟩⟩
              have HBc := Lib.hid (show _ ∧ _ from ⟨HB6.out.trans ((hbWa.mono hBs).trans hB6), hB6s⟩)
              have hbD : Below W6.heap.size W6 W6.drew ∨ Below w6.heap.size w6 W6.drew := Or.inl (Below.drew (Below.refl _ _))
              have hbA : Below W6.heap.size W6 (W6.alloc (.cells #[.int .i64 (t.made.length : Int)] 3)).drew ∨ Below w6.heap.size w6 (W6.alloc (.cells #[.int .i64 (t.made.length : Int)] 3)).drew := Or.inl hbWa
              have hb66 : Below W6.heap.size W6 w6 ∨ Below w6.heap.size w6 w6 := Or.inr (Below.refl _ _)
              have c0a := fun o => cell_al c0 o
              have c1a := fun o => cell_al c1 o
              have c2a := fun o => cell_al c2 o
              have c3a := fun o => cell_al c3 o
              clear hWa hW6 hB6 hnx hB6s z2 z3
              have hld : ∀ (t : TypeId) (x : Operand), ldOp t x = Op.load t x := fun _ _ => rfl
              rw [show Op.load 48 (Operand.tmp 60) = ldOp 48 (Operand.tmp 60) from rfl, show Op.load 46 (Operand.tmp 69) = ldOp 46 (Operand.tmp 69) from rfl]
              go_cut [74] (fun s74 wr => ∃ v74, v74 = s74 ∧ Hid (WorkX 48 wr B pb { t with hooks := putAt t.hooks i.bed i.at_ (old ++ [(t.made.length : Int)]) } (rowK hb (.slice none 0 0) ⟨[], i.bed, i.at_, i.car⟩ :: rowX w.heap.size i :: X)) ∧ Hid (Below B w wr))
              case first =>
                go_region_held3 (fun V => V.cell? ⟨w.heap.size, 2, none⟩ = some (.int .u8 i.bed) ∧ V.cell? ⟨w.heap.size, 3, none⟩ = some (.int .i64 i.at_))
                  (first | (with_reducible exact (HSx.out _ (by assumption)).1) | (with_reducible exact (HSx.out _ (by assumption)).2 _ _ _ _) | fail)
                  (first | ((with_reducible refine at_world ((W6.alloc (.cells #[.int .i64 (t.made.length : Int)] 3)).drew) ?_); refine step_append_run (by rfl) _ _ _ _ (by rfl) _ _ (by rfl) (by rfl) hr6 ?_) | (go_at_call 115; refine HPu.out.mono ?_; rintro e w7 ⟨A7, m7, c7, rfl, hb7, ⟨d0, d1, d2, d3, df⟩, HS7, HB7⟩; have hbw7 : Below W6.heap.size W6 w7 ∨ Below w6.heap.size w6 w7 := Or.inr hb7) | fail)
                all_goals
                  go_wp2_with fail
                  go_meet
                  exact ⟨_, rfl, HS7.out, HBc.out.1.trans HB7.out⟩
              case rest =>
                obtain ⟨v74, rfl, HW8, HB8⟩ := hcut
                obtain ⟨hv2, mv2, p2, hw8⟩ := HW8.out.open
                have HW9 := Lib.hid hw8
                have hB8 : B ≤ wc.heap.size := by have := HB8.out.size; omega
                clear hw8 HW8 HPu HSx c0 c1 c2 c3 c0a c1a c2a c3a y0 y1 y2 y3 y4 y5 y6 hbWa hbD hbA hb66 hld hr6 g0 g1 g2 g3
                go_upto_region 15 with fail
                refine abs_world (Q := fun W => Code.wp _ _ _ _ W) (F := fun W => WkP W B pb { t with hooks := putAt t.hooks i.bed i.at_ (old ++ [(t.made.length : Int)]) } hv2 mv2 p2 (rowI (.slice none 0 0) [] :: rowK hb (.slice none 0 0) ⟨[], i.bed, i.at_, i.car⟩ :: rowX w.heap.size i :: X) ∧ Below B w W ∧ B ≤ W.heap.size) _ ⟨HW9.out.addNil, HB8.out, hB8⟩ ?_
                clear HW9 HB8 HBc
                rintro W15 ⟨hw15, hb15, hB15⟩
                have hn15 : ({ t with hooks := putAt t.hooks i.bed i.at_ (old ++ [(t.made.length : Int)]) } : BedS).made.length ≤ 9000 := hm9
                obtain ⟨A9, c9, w9, hr9, ⟨q3, q9, qf⟩, HSm, HWm, HBm⟩ := made_all (hb := hb) (⟨[], i.bed, i.at_, i.car⟩ : Mk) hB15 hn15 hw15
                have HO := Lib.hid (codOut.go (pb := pb) (X := X) (w := w) HYu.out (WorkX.less HWm.out) (hb15.trans HBm.out))
                have hs0 := Lib.hid (HSm.out _ (Or.inl rfl))
                have hs1 := Lib.hid (HSm.out _ (Or.inr (Or.inl rfl)))
                have hs2 := Lib.hid (HSm.out _ (Or.inr (Or.inr (Or.inl rfl))))
                have hs3 := Lib.hid (HSm.out _ (Or.inr (Or.inr (Or.inr rfl))))
                have q3a := fun o => cell_al q3 o
                clear HSm HWm HBm hw15 hb15 HYu
                have hld : ∀ (t : TypeId) (x : Operand), ldOp t x = Op.load t x := fun _ _ => rfl
                rw [show Op.load 46 (Operand.tmp 97) = ldOp 46 (Operand.tmp 97) from rfl]
                go_region_held3 (fun V => V.cell? ⟨hb, 0, none⟩ = some (.slice none 0 0) ∧ V.cell? ⟨hb, 1, none⟩ = some (.int .u8 i.bed) ∧ V.cell? ⟨hb, 2, none⟩ = some (.int .i64 i.at_) ∧ V.cell? ⟨hb, 3, none⟩ = some (.int .i64 i.car))
                  (first | (with_reducible exact hs0.out) | (with_reducible exact hs1.out) | (with_reducible exact hs2.out) | (with_reducible exact hs3.out) | fail)
                  (first | ((with_reducible refine at_world ((W15.alloc (.cells #[.slice none 0 0, .int .u8 i.bed, .int .i64 i.at_, .int .i64 i.car] 52)).drew) ?_); refine step_append_run (by rfl) _ _ _ _ (by rfl) _ _ (by rfl) (by rfl) hr9 ?_) | fail)
                all_goals
                  clear hld hs0 hs1 hs2 hs3 q3 q9 qf q3a hr9
                  go_wp2
                  go_ret
                  exact HO.out
        · have b4 : (i.op == 4) = false := beq_eq_false_iff_ne.2 h4
          have HMv := Lib.hid (rmoves_any B pb t i (rowK hb (.slice none 0 0) ⟨[], i.bed, i.at_, i.car⟩ :: rowX w.heap.size i :: X) (.slice A5 old.length c5) old HKt.out hh6 HN.out.1 HN.out.2.1 HN.out.2.2 W6 hBs ⟨_, _, _, _, _, hW6⟩)
          unfold Ins.val at HMv
          go_cut [48] (fun s48 wr => ∃ q48 : Bool, s48 = .bool q48 ∧ Hid ((q48 = true ∧ yarnS s i = (bed0, 36) ∧ Below B w wr) ∨ (q48 = false ∧ ∃ u hv mv p, WkP wr B pb u hv mv p (rowI (.slice A5 old.length c5) old :: rowK hb (.slice none 0 0) ⟨[], i.bed, i.at_, i.car⟩ :: rowX w.heap.size i :: X) ∧ Below B w wr ∧ B ≤ wr.heap.size ∧ StOk u ∧ yarnS s i = if u.made.length = 4000 then (bed0, 4) else ({ u with hooks := putAt u.hooks i.bed i.at_ [(u.made.length : Int)], made := u.made ++ [⟨old, i.bed, i.at_, i.car⟩] }, 0))))
          case first =>
            by_cases h6 : i.op = 6
            · have b6 : (i.op == 6) = true := by simp [h6]
              have HYs := Lib.hid (HY.out.2.2.1 h6)
              clear hop HY hW6 hB6 h4 h5 h6
              go_wp2_with fail
              refine HMv.out.mono ?_
              intro e w2 h2
              unfold movOut at h2
              cases ha : acrossS t i old with
              | none =>
                rw [ha] at h2
                obtain ⟨rfl, hb2⟩ := h2
                have hY := HYs.out.1 ha
                clear HYs HMv
                go_wp2_with fail
                go_meet
                exact ⟨_, rfl, Or.inl ⟨rfl, hY, HB6.out.trans hb2⟩⟩
              | some u =>
                rw [ha] at h2
                obtain ⟨rfl, hwu, hb2⟩ := h2
                have hY := HYs.out.2 u ha
                have hku := HKt.out.across HN.out.1 HN.out.2.2 ha
                obtain ⟨hv', mv', p', hwu⟩ := hwu.open
                clear HYs HMv
                go_wp2_with fail
                go_meet
                exact ⟨_, rfl, Or.inr ⟨rfl, u, hv', mv', p', hwu, HB6.out.trans hb2, Nat.le_trans hBs hb2.size, hku, hY⟩⟩
            · have b6 : (i.op == 6) = false := beq_eq_false_iff_ne.2 h6
              have hY := HY.out.2.2.2 (by omega)
              clear hop HY hW6 hB6 h4 h5 h6 HMv
              go_wp2_with fail
              go_meet
              exact ⟨_, rfl, Or.inr ⟨rfl, t, hv, mv, p, HW6.out, HB6.out, hBs, HKt.out, hY⟩⟩
          case rest =>
            obtain ⟨q48, rfl, HQ⟩ := hcut
            clear HMv HY HW6 HB6 hW6 hB6 hop y0 y1 y2 y3 y4 y5 y6
            rcases HQ.out with ⟨rfl, hY, hb⟩ | ⟨rfl, u, hv', mv', p', hwu, hb7, hBc, hku, hY⟩
            · have HO := Lib.hid (codOut.stop (pb := pb) (X := X) (w := w) hY (by decide) hb)
              clear HQ hY hb
              go_wp2
              go_ret
              exact HO.out
            · have hm9' : u.made.length ≤ 9000 := hku.made
              obtain ⟨c0, c1, c2, c3⟩ := hwu.at4
              obtain ⟨y0, y1, y2, y3, y4, y5, y6⟩ := rowX_at (B := B) (bx := w.heap.size) (i := i) (hwu.rx (by simp))
              clear HQ
              by_cases h40 : u.made.length = 4000
              · have e40 : ((u.made.length : Int) == 4000) = true := by rw [h40]; rfl
                have HO := Lib.hid (codOut.stop (pb := pb) (X := X) (w := w) (hY.trans (by rw [if_pos h40])) (by decide) hb7)
                clear hY h40 hwu hb7
                go_wp2
                go_ret
                exact HO.out
              · have e40 : ((u.made.length : Int) == 4000) = false := beq_eq_false_iff_ne.2 (by omega)
                have HYu : Hid (yarnS s i = ({ u with hooks := putAt u.hooks i.bed i.at_ [(u.made.length : Int)], made := u.made ++ [⟨old, i.bed, i.at_, i.car⟩] }, 0)) := by show _ = _; rw [hY, if_neg h40]
                have hbWa : Below wc.heap.size wc (wc.alloc (.cells #[.int .i64 (u.made.length : Int)] 3)).drew := ((Below.refl _ _).alloc (Nat.le_refl _) _).drew
                have hWa : WkP (wc.alloc (.cells #[.int .i64 (u.made.length : Int)] 3)).drew B pb u hv' mv' p' (rowI (.slice (some ⟨wc.heap.size, 0, none⟩) 1 1) [(u.made.length : Int)] :: rowI (.slice A5 old.length c5) old :: rowK hb (.slice none 0 0) ⟨[], i.bed, i.at_, i.car⟩ :: rowX w.heap.size i :: X) :=
                  (hwu.add ((Below.refl _ wc).alloc (Nat.le_refl _) _) (o := rowI (.slice (some ⟨wc.heap.size, 0, none⟩) 1 1) [(u.made.length : Int)]) (World.ownsRow_lit (e := 3) wc #[.int .i64 (u.made.length : Int)] 1 (base := wc.heap.size) (size := 1) (Nat.le_refl _) (by decide) rfl)).to (Below.drew (Below.refl _ _))
                have HPu := Lib.hid (rput_ready (b := i.bed) (n := i.at_) (l := [(u.made.length : Int)]) hku (by have := hbWa.size; omega) hWa)
                have hnx : w.heap.size ≠ pb := rowX_ne (i := i) hwu (by simp)
                have HSx : Hid (∀ V, Below wc.heap.size wc V → (V.cell? ⟨w.heap.size, 2, none⟩ = some (.int .u8 i.bed) ∧ V.cell? ⟨w.heap.size, 3, none⟩ = some (.int .i64 i.at_)) ∧ ∀ a b c d, (stW V pb a b c d).cell? ⟨w.heap.size, 2, none⟩ = some (.int .u8 i.bed) ∧ (stW V pb a b c d).cell? ⟨w.heap.size, 3, none⟩ = some (.int .i64 i.at_)) := fun V hV =>
                  ⟨⟨(bcell hV (lt_of_cell y2) _).trans y2, (bcell hV (lt_of_cell y3) _).trans y3⟩, fun a b c d => ⟨(st_far hnx 2).trans ((bcell hV (lt_of_cell y2) _).trans y2), (st_far hnx 3).trans ((bcell hV (lt_of_cell y3) _).trans y3)⟩⟩
                have HBc := Lib.hid (show _ ∧ _ from ⟨hb7, hBc⟩)
                have hbD : Below wc.heap.size wc wc.drew := Below.drew (Below.refl _ _)
                have c0a := fun o => cell_al c0 o
                have c1a := fun o => cell_al c1 o
                have c2a := fun o => cell_al c2 o
                have c3a := fun o => cell_al c3 o
                clear hY h40 hwu hWa hb7 hnx
                go_upto_region 13 with fail
                have hld : ∀ (t : TypeId) (x : Operand), ldOp t x = Op.load t x := fun _ _ => rfl
                rw [show Op.load 48 (Operand.tmp 78) = ldOp 48 (Operand.tmp 78) from rfl, show Op.load 46 (Operand.tmp 86) = ldOp 46 (Operand.tmp 86) from rfl]
                go_cut [90] (fun s90 wr => ∃ v90, v90 = s90 ∧ Hid (WorkX 48 wr B pb { u with hooks := putAt u.hooks i.bed i.at_ [(u.made.length : Int)] } (rowI (.slice A5 old.length c5) old :: rowK hb (.slice none 0 0) ⟨[], i.bed, i.at_, i.car⟩ :: rowX w.heap.size i :: X)) ∧ Hid (Below B w wr))
                case first =>
                  go_region_held3 (fun V => V.cell? ⟨w.heap.size, 2, none⟩ = some (.int .u8 i.bed) ∧ V.cell? ⟨w.heap.size, 3, none⟩ = some (.int .i64 i.at_))
                    (first | (with_reducible exact (HSx.out _ (by assumption)).1) | (with_reducible exact (HSx.out _ (by assumption)).2 _ _ _ _) | fail)
                    (first | (go_at_call 115; refine HPu.out.mono ?_; rintro e w7 ⟨A7, m7, c7, rfl, hb7, ⟨d0, d1, d2, d3, df⟩, HS7, HB7⟩; have hbw7 := hbWa.trans (hb7.mono hbWa.size)) | fail)
                  all_goals
                    go_wp2_with fail
                    go_meet
                    exact ⟨_, rfl, HS7.out, HBc.out.1.trans ((hbWa.mono HBc.out.2).trans HB7.out)⟩
                case rest =>
                  obtain ⟨v90, rfl, HW8, HB8⟩ := hcut
                  obtain ⟨hv2, mv2, p2, hw8⟩ := HW8.out.open
                  have k8 := rowK_at (B := B) (b := hb) (v := .slice none 0 0) (m := ⟨[], i.bed, i.at_, i.car⟩) (hw8.rx (by simp))
                  obtain ⟨k0, -, -, -, kf⟩ := k8
                  have HW9 := Lib.hid hw8
                  clear hw8 HW8 HPu HSx c0 c1 c2 c3 c0a c1a c2a c3a y0 y1 y2 y3 y4 y5 y6 hbWa hbD hld
                  go_upto_region 15 with fail
                  refine abs_world (Q := fun W => Code.wp _ _ _ _ W) (F := fun W => WkP W B pb { u with hooks := putAt u.hooks i.bed i.at_ [(u.made.length : Int)] } hv2 mv2 p2 (rowI (.slice A5 old.length c5) old :: rowK hb (.slice A5 old.length c5) ⟨old, i.bed, i.at_, i.car⟩ :: rowX w.heap.size i :: X) ∧ Below B w W ∧ B ≤ W.heap.size) _ ⟨((HW9.out.swap2).setK (.slice A5 old.length c5)).swap2, HB8.out.setCell (p := ⟨hb, 0, none⟩) (World.ownsRow.lt (HW9.out.rx (o := rowK hb (.slice none 0 0) ⟨[], i.bed, i.at_, i.car⟩) (by simp)) hb rfl).1 _, by have := HB8.out.size; have := HBc.out.2; simp; omega⟩ ?_
                  clear k0 kf HW9 HB8 HBc
                  rintro W15 ⟨hw15, hb15, hB15⟩
                  have hn15 : ({ u with hooks := putAt u.hooks i.bed i.at_ [(u.made.length : Int)] } : BedS).made.length ≤ 9000 := hm9'
                  obtain ⟨A9, c9, w9, hr9, ⟨q3, q9, qf⟩, HSm, HWm, HBm⟩ := made_all (hb := hb) (⟨old, i.bed, i.at_, i.car⟩ : Mk) hB15 hn15 hw15
                  have HO := Lib.hid (codOut.go (pb := pb) (X := X) (w := w) HYu.out (WorkX.less HWm.out) (hb15.trans HBm.out))
                  have hs0 := Lib.hid (HSm.out _ (Or.inl rfl))
                  have hs1 := Lib.hid (HSm.out _ (Or.inr (Or.inl rfl)))
                  have hs2 := Lib.hid (HSm.out _ (Or.inr (Or.inr (Or.inl rfl))))
                  have hs3 := Lib.hid (HSm.out _ (Or.inr (Or.inr (Or.inr rfl))))
                  have q3a := fun o => cell_al q3 o
                  clear HSm HWm HBm hw15 hb15 HYu
                  have hld : ∀ (t : TypeId) (x : Operand), ldOp t x = Op.load t x := fun _ _ => rfl
                  rw [show Op.load 46 (Operand.tmp 97) = ldOp 46 (Operand.tmp 97) from rfl]
                  go_region_held3 (fun V => V.cell? ⟨hb, 0, none⟩ = some (.slice A5 old.length c5) ∧ V.cell? ⟨hb, 1, none⟩ = some (.int .u8 i.bed) ∧ V.cell? ⟨hb, 2, none⟩ = some (.int .i64 i.at_) ∧ V.cell? ⟨hb, 3, none⟩ = some (.int .i64 i.car))
                    (first | (with_reducible exact hs0.out) | (with_reducible exact hs1.out) | (with_reducible exact hs2.out) | (with_reducible exact hs3.out) | fail)
                    (first | ((with_reducible refine at_world ((W15.alloc (.cells #[.slice A5 old.length c5, .int .u8 i.bed, .int .i64 i.at_, .int .i64 i.car] 52)).drew) ?_); refine step_append_run (by rfl) _ _ _ _ (by rfl) _ _ (by rfl) (by rfl) hr9 ?_) | fail)
                  all_goals
                    clear hld hs0 hs1 hs2 hs3 q3 q9 qf q3a hr9
                    go_wp2
                    go_ret
                    exact HO.out
end Go.Proofs.YthedmiilkeclaaaGreat
namespace Go.Proofs.YthedmiilkeclaaaGreat
open Go.RowKit Go.Shelf Go.Sort
set_option maxRecDepth 100000

/-- The carriers are set anew, behind the pointer. -/
theorem WorkAt.newFeeds {T : TypeId} {w w' : World} {B pb : Nat} {s : BedS} {hv : List (Hk × Value)} {mv : List (Mk × Value)} {vh vf vm v : Value} {X : List Own} {l : List Fd} {b : Nat} (h : WorkAt T w B pb s hv mv vh vf vm X) (hg : Below w.heap.size w w') (hb : w.heap.size ≤ b) (ho : w'.ownsRow b 94 3 v l.length (l.map Fd.cells).flatten) :
    WorkAt T (w'.setCell ⟨pb, 2, none⟩ v) B pb { s with feeds := l } hv mv vh v vm X :=
  h.setFeeds (grown_below hg) (World.ownsRow.mono ho (by have := h.base; omega)) (fun k hk => Or.inr (Nat.le_trans hb (World.ownsRow.lt ho k hk).1))
theorem feed_split {l : List Fd} (hr : risB ltF l = true) {k : Nat} {f : Fd} (hk : l[k]? = some f) : loF (keyF f.car) l = l.take k ∧ hiF (keyF f.car) l = l.drop (k + 1) := by
  obtain ⟨hkl, rfl⟩ := List.getElem?_eq_some_iff.1 hk
  have hp := List.pairwise_iff_getElem.1 (ris_pair ltF_tr hr)
  have e : l = l.take k ++ l[k] :: l.drop (k + 1) := by
    rw [← List.drop_eq_getElem_cons hkl, List.take_append_drop]
  have hlo : ∀ y ∈ l.take k, keyF l[k].car y < 0 := fun y hy => by
    obtain ⟨j, hj, hy⟩ := mem_take_at hy
    obtain ⟨hjl, rfl⟩ := List.getElem?_eq_some_iff.1 hy
    have := of_decide_eq_true (hp j k hjl hkl hj)
    unfold keyF
    omega
  have hhi : ∀ y ∈ l.drop (k + 1), 0 < keyF l[k].car y := fun y hy => by
    obtain ⟨j, hj, hy⟩ := mem_drop_at hy
    obtain ⟨hjl, rfl⟩ := List.getElem?_eq_some_iff.1 hy
    have := of_decide_eq_true (hp k j hkl hjl (by omega))
    unfold keyF
    omega
  generalize hz : l[k] = f at e hlo hhi
  have hz0 : keyF f.car f = 0 := by unfold keyF; omega
  constructor
  · conv => lhs; rw [e]
    rw [loF_app, loF_all hlo, loF_none (fun y hy => by
      rcases List.mem_cons.1 hy with rfl | hy
      · omega
      · have := hhi y hy; omega), List.append_nil]
  · conv => lhs; rw [e]
    have e3 : hiF (keyF f.car) (f :: l.drop (k + 1)) = hiF (keyF f.car) (l.drop (k + 1)) := by unfold hiF; rw [List.filter_cons, if_neg (by simp; omega)]
    rw [hiF_app, hiF_none (fun y hy => by have := hlo y hy; omega), List.nil_append, e3, hiF_all hhi]
theorem own_snocF {W : World} {B : Nat} {v : Value} {l L : List Fd} {f : Fd} (h : W.ownsRow B 94 3 v (l.length + 1) ((l.map Fd.cells).flatten ++ f.cells)) (e : L = l ++ [f]) : W.ownsRow B 94 3 v L.length (L.map Fd.cells).flatten := by
  subst e
  rw [flat_snocF, List.length_append]
  exact h
theorem below_drewN {B : Nat} {w W : World} (h : Below B w W) (n : Nat) : Below B w (W.drewN n) := by
  obtain ⟨a, b, c, d, e⟩ := h
  exact ⟨a, b, c, d, e⟩
theorem own_drew {W : World} {B : Nat} {v : Value} {n : Nat} {xs : List Value} (h : W.ownsRow B 94 3 v n xs) : W.drew.ownsRow B 94 3 v n xs := h
theorem wrap_small (x : Int) (h : 0 ≤ x ∧ x ≤ 1000000) : IntKind.i64.wrap x = x := by
  have e : x % (2 ^ 64 : Int) = x := Int.emod_eq_of_lt h.1 (by omega)
  unfold IntKind.wrap
  simp only [IntKind.bits, IntKind.signed, Bool.true_and, e]
  rw [if_neg (by simp; omega)]
/-- A carrier is left out: the worlds on the way. -/
theorem feeds_out {W : World} {B pb : Nat} {s : BedS} {hv : List (Hk × Value)} {mv : List (Mk × Value)} {vh vm : Value} {X : List Own} {g cf k : Nat} (h : WorkAt 48 W B pb s hv mv vh (.slice (some ⟨g, 0, none⟩) s.feeds.length cf) vm X) (hB : B ≤ W.heap.size) (hk : k < s.feeds.length) (hn : s.feeds.length ≤ 9000) (A3 : Addr) (c3 : Nat) (hA3 : SlF W W.heap.size (some A3) (s.feeds.drop (k + 1))) :
    ∃ A1 c1 w2 A2 c2 w5, (Builtin.append_ #[45, 45] 45 #[.slice (some ⟨W.heap.size, 0, none⟩) 0 0, .slice (some ⟨g, 0, none⟩) k cf]).run Tryz.prog (W.alloc (.cells #[] 94)).drew = .ok (.slice A1 k c1) w2 ∧
      (Builtin.append_ #[45, 45] 45 #[.slice A1 k c1, .slice (some A3) (s.feeds.length - (k + 1)) c3]).run Tryz.prog w2 = .ok (.slice A2 (k + (s.feeds.length - (k + 1))) c2) w5 ∧
      w2.cell? ⟨pb, 2, none⟩ = some (.slice (some ⟨g, 0, none⟩) s.feeds.length cf) ∧ w5.cell? ⟨pb, 2, none⟩ = some (.slice (some ⟨g, 0, none⟩) s.feeds.length cf) ∧ (∀ j, w5.frozen? ⟨pb, j, none⟩ = false) ∧
      Hid (WorkX 48 (w5.setCell ⟨pb, 2, none⟩ (.slice A2 (k + (s.feeds.length - (k + 1))) c2)) B pb { s with feeds := s.feeds.take k ++ s.feeds.drop (k + 1) } X) ∧ Hid (Below B W (w5.setCell ⟨pb, 2, none⟩ (.slice A2 (k + (s.feeds.length - (k + 1))) c2))) := by
  obtain ⟨i0, hi, hz0, hz1, hz2⟩ := info_parts info_feed
  have hba : Below W.heap.size W (W.alloc (.cells #[] 94)).drew := ((Below.refl _ W).alloc (Nat.le_refl _) _).drew
  have ho0 : (W.alloc (.cells #[] 94)).drew.ownsRow W.heap.size 94 3 (.slice (some ⟨W.heap.size, 0, none⟩) 0 0) 0 [] :=
    (Owns.to (L := [rowF (.slice (some ⟨W.heap.size, 0, none⟩) 0 0) []]) (Owns.nil.add ((Below.refl _ W).alloc (Nat.le_refl _) _) (Nat.le_refl _) (World.ownsRow_lit (e := 94) W #[] 0 (base := W.heap.size) (size := 3) (Nat.le_refl _) (by decide) rfl)) (Below.drew (Below.refl _ _))).head
  obtain ⟨A0, c0, e0, -, hsl⟩ := h.slf
  cases e0
  have hT : SlF W W.heap.size (some ⟨g, 0, none⟩) (s.feeds.take k) := by
    unfold SlF
    rw [List.map_take]
    exact SlS.take hsl k
  have n1 := hT.news hba
  have lt : (s.feeds.take k).length = k := by rw [List.length_take]; omega
  have ld : (s.feeds.drop (k + 1)).length = s.feeds.length - (k + 1) := by rw [List.length_drop]
  obtain ⟨A1, c1, w2, hr1, ho1, hg1, -⟩ := run_app_any Tryz.underlying45 hi hz0 hz1 hz2 rfl (by decide) ho0 (some ⟨g, 0, none⟩) k cf ((s.feeds.take k).map Fd.cells).flatten (by rw [flat_len (cells3f _), List.length_map, lt]) (fun e => by cases e) n1.2 (one3f _) (by unfold maxLen; omega) (by omega) hba.size
  rw [Nat.zero_add] at ho1 hr1
  rw [List.nil_append] at ho1
  have hb2 : Below W.heap.size W w2 := hba.grown hg1 hba.size (fun g e => (World.ownsRow.lt ho0 g e).1)
  have n2 := hA3.news hb2
  obtain ⟨A2, c2, w5, hr2, ho2, hg2, -⟩ := run_app_any Tryz.underlying45 hi hz0 hz1 hz2 rfl (by decide) ho1 (some A3) (s.feeds.length - (k + 1)) c3 ((s.feeds.drop (k + 1)).map Fd.cells).flatten (by rw [flat_len (cells3f _), List.length_map, ld]) (fun e => by cases e) n2.2 (one3f _) (by unfold maxLen; omega) (by omega) hb2.size
  have hb5 : Below W.heap.size W w5 := hb2.grown hg2 hb2.size (fun g e => (World.ownsRow.lt ho1 g e).1)
  have hpl := h.base
  obtain ⟨-, -, q2, -, qf⟩ := h.cells
  have h5 := h.newFeeds (l := s.feeds.take k ++ s.feeds.drop (k + 1)) hb5 (Nat.le_refl _) (v := .slice A2 (k + (s.feeds.length - (k + 1))) c2) (by rw [List.length_append, lt, ld, List.map_append, List.flatten_append]; exact ho2)
  exact ⟨A1, c1, w2, A2, c2, w5, hr1, hr2, (bcell hb2 hpl.2 _).trans q2, (bcell hb5 hpl.2 _).trans q2, fun j => (Below.frozen hb5 (p := ⟨pb, j, none⟩) hpl.2).trans (qf j), ⟨_, _, _, _, _, h5⟩, (hb5.mono hB).setCell (p := ⟨pb, 2, none⟩) hpl.1 _⟩
set_option maxHeartbeats 16000000 in
theorem rfeeds_any (B pb : Nat) (s : BedS) (i : Ins) (X : List Own) (hf : FdOk s) (hop : i.op = 1 ∨ i.op = 2) (w : World) (hBw : B ≤ w.heap.size) (hw : WorkX 48 w B pb s X) :
    Calls Tryz.prog 114 #[.pointer (some ⟨pb, 0, none⟩), i.val] w fun e w' => codOut B pb (changeS s i) X w e w' := by
  obtain ⟨i0, hi, hz0, hz1, hz2⟩ := info_parts info_feed
  obtain ⟨hv, mv, vh, vf, vm, hw⟩ := hw
  obtain ⟨p, rfl, rfl, rfl, hba⟩ := hw.bed
  have HW := Lib.hid hw
  have HFd := Lib.hid hf
  have HI := Lib.hid (fun W hb => rin_any s p i.car (by have := hf.len; omega) W (hw.bedAt (W := W) hb))
  have HM0 : Hid (MvS B w.heap.size pb s p i (w.alloc (insBox i)) (w.alloc (insBox i))) := by
    have hb := (Below.refl w.heap.size w).alloc (Nat.le_refl _) (insBox i)
    have hc := hw.cells
    exact ⟨BdIn.below ⟨hc.1, hc.2.1, hc.2.2.1, hc.2.2.2.1⟩ hb hw.base.2, InsIn.new w i, Below.refl _ _⟩
  have HAl := Lib.hid ((Below.refl w.heap.size w).alloc (Nat.le_refl _) (insBox i))
  obtain ⟨z, hz⟩ : ∃ z, idxE (fun f : Fd => decide (f.car = i.car)) s.feeds = z := ⟨_, rfl⟩
  have HZ := Lib.hid hz
  rw [hz] at HI
  unfold BedS.val at HI
  unfold Ins.val
  clear hw hba hf hz
  go_enter Tryz.func114, Tryz.ntmps114
  go_upto_region 1 with fail
  refine abs_world (Q := fun W => Code.wp _ _ _ _ W) (F := MvS B w.heap.size pb s p i (w.alloc (insBox i))) _ HM0.out ?_
  clear HM0
  intro W hM
  have HM := Lib.hid hM
  clear hM
  have hb0' : Below W.heap.size W W.drew := (Below.refl _ _).drew
  have HSb : Hid (∀ W', Below W.heap.size W W' → W'.cell? ⟨pb, 0, none⟩ = some (.int .i64 s.rack) ∧ W'.cell? ⟨pb, 1, none⟩ = some (.slice p.ah s.hooks.length p.ch) ∧ W'.cell? ⟨pb, 2, none⟩ = some (.slice p.af s.feeds.length p.cf) ∧ W'.cell? ⟨pb, 3, none⟩ = some (.slice p.am s.made.length p.cm) ∧ W'.cell? ⟨w.heap.size, 5, none⟩ = some (.int .i64 i.car) ∧ Below W.heap.size W W') := fun W' hb => by
    have h := HM.out.to hb
    exact ⟨h.st.1, h.st.2.1, h.st.2.2.1, h.st.2.2.2, h.ins.2.2.2.2.2.1, hb⟩
  have HI2 : Hid (∀ W', Below W.heap.size W W' → Below w.heap.size w W') := fun W' hb => (HAl.out.trans (HM.out.lo.mono (by simp))).trans (hb.mono (by have h1 := HM.out.lo.size; have h2 := HAl.out.size; omega))
  go_cut [5] (fun s5 wr => s5 = .int .i64 z ∧ Hid (MvS B w.heap.size pb s p i (w.alloc (insBox i)) wr))
  case first =>
    go_region_held3 (fun W' => W'.cell? ⟨pb, 0, none⟩ = some (.int .i64 s.rack) ∧ W'.cell? ⟨pb, 1, none⟩ = some (.slice p.ah s.hooks.length p.ch) ∧ W'.cell? ⟨pb, 2, none⟩ = some (.slice p.af s.feeds.length p.cf) ∧ W'.cell? ⟨pb, 3, none⟩ = some (.slice p.am s.made.length p.cm) ∧ W'.cell? ⟨w.heap.size, 5, none⟩ = some (.int .i64 i.car) ∧ Below W.heap.size W W')
      (first | (with_reducible exact HSb.out _ (by assumption)) | fail)
      (first | (go_at_call 124; have hp := limb5 (by assumption); refine (HI.out _ (HI2.out _ hp)).mono ?_; rintro e wd ⟨rfl, hbd⟩; have hbw := hp.trans (hbd.mono hp.size); clear hp))
    go_wp2_with fail
    go_meet
    exact ⟨rfl, HM.out.to (by assumption)⟩
  case rest =>
    obtain ⟨rfl, HM2⟩ := hcut
    obtain ⟨w4, rfl⟩ : ∃ x : World, x = wc := ⟨_, rfl⟩
    clear HM HSb hb0' HI HI2
    have HBw : Hid (Below w.heap.size w w4) := HAl.out.trans (HM2.out.lo.mono (by simp))
    have HWc := Lib.hid (HW.out.to HBw.out)
    have hlen := HFd.out.len
    obtain ⟨x0, -, -, -, -, x5, -⟩ := HM2.out.ins
    obtain ⟨c0, c1, c2, c3⟩ := HM2.out.st
    clear HW
    rcases idx_feed HFd.out.ris i.car with ⟨e1, e2⟩ | ⟨k, f, e1, hfk, hfa, hfc, hset⟩
    · obtain rfl : z = -1 := by rw [← HZ.out, e1]
      clear e1 HZ
      rcases hop with hop | hop
      · have b1 : (i.op == 1) = true := by simp [hop]
        have b2 : (i.op == 2) = false := beq_eq_false_iff_ne.2 (by omega)
        have HF : Hid (changeS s i = ({ s with feeds := setF (keyF i.car) [⟨i.car, true, 0⟩] s.feeds }, 0)) := by
          unfold Hid changeS; rw [if_pos hop, e2]; rfl
        have HNe := Lib.hid (feed_none e2)
        have HRis := Lib.hid HFd.out.ris
        have hB4 : B ≤ w4.heap.size := by have := HBw.out.size; omega
        have HSl : Hid (SlF w4 w4.heap.size p.af s.feeds) := by
          obtain ⟨A, c, e, hc, hsl⟩ := HWc.out.slf
          cases e
          exact hsl
        obtain ⟨x, hx⟩ : ∃ x : Fd, x = ⟨i.car, true, 0⟩ := ⟨_, rfl⟩
        have hxc : x.car = i.car := by rw [hx]
        have HXs : Hid (x.cells = [.int .i64 i.car, .bool true, .int .i64 0]) := by show x.cells = _; rw [hx]; rfl
        have HF : Hid (changeS s i = ({ s with feeds := setF (keyF x.car) [x] s.feeds }, 0)) := by show _ = _; rw [hx]; exact HF.out
        have HLen : Hid (∀ k, (insF x (s.feeds.take k)).length ≤ 20000) := fun k => by
          have h1 := insF_len x (s.feeds.take k)
          have h2 : (s.feeds.take k).length ≤ s.feeds.length := by rw [List.length_take]; omega
          omega
        have HKp : Hid (∀ W, Below w4.heap.size w4 W → W.cell? ⟨pb, 2, none⟩ = some (.slice p.af s.feeds.length p.cf) ∧ W.cell? ⟨w.heap.size, 5, none⟩ = some (.int .i64 i.car)) := fun W hb => ⟨(HM2.out.to hb).st.2.2.1, (HM2.out.to hb).ins.2.2.2.2.2.1⟩
        clear hop e2 hx
        go_wp2
        go_loopw [6, 7, 8] (fun s6 s7 s8 wr => ∃ (k : Nat) (v6 : Value), k ≤ s.feeds.length ∧ s8 = .int .i64 (k : Int) ∧ s7 = .bool (anyF x.car (s.feeds.take k)) ∧ v6 = s6 ∧ Hid (wr.ownsRow w4.heap.size 94 3 v6 (insF x (s.feeds.take k)).length ((insF x (s.feeds.take k)).map Fd.cells).flatten) ∧ Hid (Below w4.heap.size w4 wr)) (fun _ _ s8 _ => s.feeds.length - (intOf s8).toNat)
        case atStart => exact ⟨0, _, Nat.zero_le _, rfl, rfl, rfl, World.ownsRow_nil .., Below.refl _ _⟩
        case round =>
          obtain ⟨k, v6, hk, rfl, rfl, rfl, HO, HB⟩ := hrel
          clear c0 c1 c2 c3 x0 x5
          obtain ⟨c2, x5⟩ := HKp.out _ HB.out
          have HLn := Lib.hid (HLen.out k)
          have HSz := Lib.hid HB.out.size
          by_cases hlt : k < s.feeds.length
          case pos =>
            obtain ⟨bb, off, f, hA, hBb, hr, q0, q1, q2⟩ := HSl.out.at_ hlt
            have HKd : Hid (∀ W, Below w4.heap.size w4 W → W.cell? ⟨bb, off + k * 3, none⟩ = some (.int .i64 f.car) ∧ W.cell? ⟨bb, off + k * 3 + 1, none⟩ = some (.bool f.fresh) ∧ W.cell? ⟨bb, off + k * 3 + 2, none⟩ = some (.int .i64 f.place)) := fun W hb => ⟨(bcell hb hBb _).trans q0, (bcell hb hBb _).trans q1, (bcell hb hBb _).trans q2⟩
            obtain ⟨d0, d1, d2⟩ := HKd.out _ HB.out
            rw [hA] at c2 HKp
            have HR := Lib.hid hr
            have hne : f.car ≠ i.car := HNe.out f (List.mem_of_getElem? hr)
            clear q0 q1 q2 hA hBb hr
            cases hdn : anyF x.car (s.feeds.take k) with
            | true =>
              have HF2 := Lib.hid (insF_a HRis.out HR.out hdn)
              clear hdn
              go_upto_region 12 with fail
              go_quiet (fail)
              go_upto_region 15 with fail
              refine abs_world (Q := fun W => Code.wp _ _ _ _ W) (F := fun W => W.ownsRow w4.heap.size 94 3 v6 (insF x (s.feeds.take k)).length ((insF x (s.feeds.take k)).map Fd.cells).flatten ∧ Below w4.heap.size w4 W) _ (by first | exact ⟨HO.out, HB.out⟩ | exact ⟨own_drew HO.out, HB.out.drew⟩ | exact ⟨HO.out, below_drewN HB.out _⟩) ?_
              clear HO HB HSz c2 x5 d0 d1 d2
              rintro W5 ⟨ho, hb⟩
              have HO := Lib.hid ho
              have HB := Lib.hid hb
              have HSz := Lib.hid hb.size
              obtain ⟨c2, x5⟩ := HKp.out _ hb
              obtain ⟨d0, d1, d2⟩ := HKd.out _ hb
              clear ho hb
              go_wp2_with (at_builtin; refine wpList_append_own _ rfl _ _ 45 rfl w4.heap.size 94 i0 (.agg #[.int .i64 0, .bool false, .int .i64 0]) 3 24 Tryz.underlying45 hi hz0 hz1 hz2 rfl (by decide) _ _ _ rfl (HO.out.alloc _) ⟨W5.heap.size, 0, none⟩ 1 1 [.int .i64 f.car, .bool f.fresh, .int .i64 f.place] rfl rfl (newsT _ _ _ _ (by simp)) (one3F _ _ _) (by have := HLn.out; unfold maxLen; omega) (by have := HLn.out; omega) (by have := HSz.out; simp; omega) ?_; intro v5 w5 ho5 hg5 _)
              have hb5 : Below w4.heap.size W5 w5 := ((Below.refl _ W5).alloc HSz.out _).grown hg5 (by have := HSz.out; simp; omega) (fun g e => (HO.out.lt g e).1)
              have HO5 := Lib.hid (own_snocF (f := f) (l := insF x (s.feeds.take k)) ho5 HF2.out.1)
              have HB5 := Lib.hid (HB.out.trans hb5)
              clear ho5 hb5 hg5
              go_wp2
              go_roundw
              case rel => exact ⟨k + 1, v5, by omega, by go_num, by rw [HF2.out.2], rfl, HO5.out, HB5.out⟩
              case measure => simp [intOf]; omega
            | false =>
              by_cases hgt : i.car < f.car
              · have HF2 := Lib.hid (insF_b (x := x) (fun y hy => by rw [hxc]; exact HNe.out y hy) HR.out hdn (by rw [hxc]; exact hgt))
                have t1 : decide (i.car < f.car) = true := decide_eq_true hgt
                clear hdn hgt
                go_upto_region 12 with fail
                go_quiet (fail)
                go_upto_region 13 with fail
                refine abs_world (Q := fun W => Code.wp _ _ _ _ W) (F := fun W => W.ownsRow w4.heap.size 94 3 v6 (insF x (s.feeds.take k)).length ((insF x (s.feeds.take k)).map Fd.cells).flatten ∧ Below w4.heap.size w4 W) _ (by first | exact ⟨HO.out, HB.out⟩ | exact ⟨own_drew HO.out, HB.out.drew⟩ | exact ⟨HO.out, below_drewN HB.out _⟩) ?_
                clear HO HB HSz c2 x5 d0 d1 d2
                rintro W5 ⟨ho, hb⟩
                have HO := Lib.hid ho
                have HB := Lib.hid hb
                have HSz := Lib.hid hb.size
                obtain ⟨c2, x5⟩ := HKp.out _ hb
                obtain ⟨d0, d1, d2⟩ := HKd.out _ hb
                clear ho hb
                go_upto_region 15 with (at_builtin; refine wpList_append_own _ rfl _ _ 45 rfl w4.heap.size 94 i0 (.agg #[.int .i64 0, .bool false, .int .i64 0]) 3 24 Tryz.underlying45 hi hz0 hz1 hz2 rfl (by decide) _ _ _ rfl (HO.out.alloc _) ⟨W5.heap.size, 0, none⟩ 1 1 [.int .i64 i.car, .bool true, .int .i64 0] rfl rfl (newsT _ _ _ _ (by simp)) (one3F _ _ _) (by have := HLn.out; unfold maxLen; omega) (by have := HLn.out; omega) (by have := HSz.out; simp; omega) ?_; intro v5 w5 ho5 hg5 _)
                have hb5 : Below w4.heap.size W5 w5 := ((Below.refl _ W5).alloc HSz.out _).grown hg5 (by have := HSz.out; simp; omega) (fun g e => (HO.out.lt g e).1)
                have ho6 := own_snocF (f := x) (l := insF x (s.feeds.take k)) (by rw [HXs.out]; exact ho5) rfl
                have hb6 := HB.out.trans hb5
                clear HO HB HSz c2 x5 d0 d1 d2 ho5 hb5 hg5
                have HO := Lib.hid ho6
                have HB := Lib.hid hb6
                have HSz := Lib.hid hb6.size
                obtain ⟨c2, x5⟩ := HKp.out _ hb6
                obtain ⟨d0, d1, d2⟩ := HKd.out _ hb6
                have HLn : Hid ((insF x (s.feeds.take k) ++ [x]).length ≤ 20001) := by show (insF x (s.feeds.take k) ++ [x]).length ≤ 20001; rw [List.length_append, List.length_singleton]; have := HLn.out; omega
                clear ho6 hb6
                go_wp2_with (at_builtin; refine wpList_append_own _ rfl _ _ 45 rfl w4.heap.size 94 i0 (.agg #[.int .i64 0, .bool false, .int .i64 0]) 3 24 Tryz.underlying45 hi hz0 hz1 hz2 rfl (by decide) _ _ _ rfl (HO.out.alloc _) ⟨w5.heap.size, 0, none⟩ 1 1 [.int .i64 f.car, .bool f.fresh, .int .i64 f.place] rfl rfl (newsT _ _ _ _ (by simp)) (one3F _ _ _) (by have := HLn.out; unfold maxLen; omega) (by have := HLn.out; omega) (by have := HSz.out; simp; omega) ?_; intro v7 w7 ho5 hg5 _)
                have hb5 : Below w4.heap.size w5 w7 := ((Below.refl _ w5).alloc HSz.out _).grown hg5 (by have := HSz.out; simp; omega) (fun g e => (HO.out.lt g e).1)
                have HO5 := Lib.hid (own_snocF (f := f) (l := insF x (s.feeds.take k) ++ [x]) ho5 HF2.out.1)
                have HB5 := Lib.hid (HB.out.trans hb5)
                clear ho5 hb5 hg5
                go_wp2
                go_roundw
                case rel => exact ⟨k + 1, v7, by omega, by go_num, by rw [HF2.out.2], rfl, HO5.out, HB5.out⟩
                case measure => simp [intOf]; omega
              · have HF2 := Lib.hid (insF_c (x := x) HR.out hdn (by rw [hxc]; omega))
                have t1 : decide (i.car < f.car) = false := decide_eq_false hgt
                clear hdn hgt
                go_upto_region 12 with fail
                go_quiet (fail)
                go_upto_region 15 with fail
                refine abs_world (Q := fun W => Code.wp _ _ _ _ W) (F := fun W => W.ownsRow w4.heap.size 94 3 v6 (insF x (s.feeds.take k)).length ((insF x (s.feeds.take k)).map Fd.cells).flatten ∧ Below w4.heap.size w4 W) _ (by first | exact ⟨HO.out, HB.out⟩ | exact ⟨own_drew HO.out, HB.out.drew⟩ | exact ⟨HO.out, below_drewN HB.out _⟩) ?_
                clear HO HB HSz c2 x5 d0 d1 d2
                rintro W5 ⟨ho, hb⟩
                have HO := Lib.hid ho
                have HB := Lib.hid hb
                have HSz := Lib.hid hb.size
                obtain ⟨c2, x5⟩ := HKp.out _ hb
                obtain ⟨d0, d1, d2⟩ := HKd.out _ hb
                clear ho hb
                go_wp2_with (at_builtin; refine wpList_append_own _ rfl _ _ 45 rfl w4.heap.size 94 i0 (.agg #[.int .i64 0, .bool false, .int .i64 0]) 3 24 Tryz.underlying45 hi hz0 hz1 hz2 rfl (by decide) _ _ _ rfl (HO.out.alloc _) ⟨W5.heap.size, 0, none⟩ 1 1 [.int .i64 f.car, .bool f.fresh, .int .i64 f.place] rfl rfl (newsT _ _ _ _ (by simp)) (one3F _ _ _) (by have := HLn.out; unfold maxLen; omega) (by have := HLn.out; omega) (by have := HSz.out; simp; omega) ?_; intro v5 w5 ho5 hg5 _)
                have hb5 : Below w4.heap.size W5 w5 := ((Below.refl _ W5).alloc HSz.out _).grown hg5 (by have := HSz.out; simp; omega) (fun g e => (HO.out.lt g e).1)
                have HO5 := Lib.hid (own_snocF (f := f) (l := insF x (s.feeds.take k)) ho5 HF2.out.1)
                have HB5 := Lib.hid (HB.out.trans hb5)
                clear ho5 hb5 hg5
                go_wp2
                go_roundw
                case rel => exact ⟨k + 1, v5, by omega, by go_num, by rw [HF2.out.2], rfl, HO5.out, HB5.out⟩
                case measure => simp [intOf]; omega
          case neg =>
            have hke : s.feeds.take k = s.feeds := List.take_of_length_le (by omega)
            rw [hke] at HO HLn ⊢
            have HE := Lib.hid (insF_end (x := x) (l := s.feeds) (fun y hy => by rw [hxc]; exact HNe.out y hy))
            have HWn : Hid (∀ W v L, Below w4.heap.size w4 W → W.ownsRow w4.heap.size 94 3 v L.length (L.map Fd.cells).flatten → L = setF (keyF x.car) [x] s.feeds → codOut B pb (changeS s i) X w (.returned (.int .i64 0)) (W.setCell ⟨pb, 2, none⟩ v)) := fun W v L hb ho hL => by
              subst hL
              exact codOut.go HF.out ⟨_, _, _, _, _, HWc.out.newFeeds hb (Nat.le_refl _) ho⟩ (((HBw.out.mono hBw).trans (hb.mono hB4)).setCell (p := ⟨pb, 2, none⟩) HWc.out.base.1 _)
            have hfz : ∀ W, Below w4.heap.size w4 W → ∀ j, W.frozen? ⟨pb, j, none⟩ = false := fun W hb j => (Below.frozen hb (p := ⟨pb, j, none⟩) HWc.out.base.2).trans (HWc.out.cells.2.2.2.2 j)
            have HFz := Lib.hid hfz
            clear hke hfz
            cases hdn : anyF x.car s.feeds with
            | true =>
              obtain ⟨A6, c6, rfl, -⟩ := own_slice HO.out
              have hO := HWn.out _ _ _ HB.out HO.out (HE.out.1 hdn)
              have HOut := Lib.hid hO
              have fz := HFz.out _ HB.out
              clear HWn HE hO HO HB HF HWc HFz
              go_wp2
              go_ret
              exact HOut.out
            | false =>
              go_upto_region 18 with (at_builtin; refine wpList_append_own _ rfl _ _ 45 rfl w4.heap.size 94 i0 (.agg #[.int .i64 0, .bool false, .int .i64 0]) 3 24 Tryz.underlying45 hi hz0 hz1 hz2 rfl (by decide) _ _ _ rfl (HO.out.alloc _) ⟨wr.heap.size, 0, none⟩ 1 1 [.int .i64 i.car, .bool true, .int .i64 0] rfl rfl (newsT _ _ _ _ (by simp)) (one3F _ _ _) (by have := HLn.out; unfold maxLen; omega) (by have := HLn.out; omega) (by have := HSz.out; simp; omega) ?_; intro v5 w5 ho5 hg5 _)
              have hb5 : Below w4.heap.size wr w5 := ((Below.refl _ wr).alloc HSz.out _).grown hg5 (by have := HSz.out; simp; omega) (fun g e => (HO.out.lt g e).1)
              have ho6 := own_snocF (f := x) (l := insF x s.feeds) (by rw [HXs.out]; exact ho5) rfl
              have hb6 := HB.out.trans hb5
              obtain ⟨A6, c6, rfl, -⟩ := own_slice ho5
              have hO := HWn.out _ _ _ hb6 ho6 (HE.out.2 hdn)
              have HOut := Lib.hid hO
              have fz := HFz.out _ hb6
              clear c2 x5
              obtain ⟨c2, x5⟩ := HKp.out _ hb6
              clear HWn HE hO HO HB HF HWc HFz ho6 hb6 hb5 ho5 hg5 hdn
              go_wp2
              go_ret
              exact HOut.out
      · have b1 : (i.op == 1) = false := beq_eq_false_iff_ne.2 (by omega)
        have HF : Hid (changeS s i = (bed0, 36)) := by unfold Hid changeS; rw [if_neg (by omega), e2]; rfl
        have HO := Lib.hid (codOut.stop (pb := pb) (X := X) (w := w) HF.out (by decide) (HBw.out.mono hBw))
        clear HM2 HF hop HWc HBw e2
        go_wp2
        go_ret
        exact HO.out
    · obtain rfl : z = (k : Int) := by rw [← HZ.out, e1]
      have hkl : k < s.feeds.length := (List.getElem?_eq_some_iff.1 hfk).1
      have e6 : decide ((k : Int) < 0) = false := decide_eq_false (by omega)
      rcases hop with hop | hop
      · have b1 : (i.op == 1) = true := by simp [hop]
        have HF : Hid (changeS s i = (bed0, 36)) := by unfold Hid changeS; rw [if_pos hop, hfa]; rfl
        have HO := Lib.hid (codOut.stop (pb := pb) (X := X) (w := w) HF.out (by decide) (HBw.out.mono hBw))
        clear HM2 HF hop HWc HBw hfa hfc hset hfk e1
        go_wp2
        go_ret
        exact HO.out
      · have b1 : (i.op == 1) = false := beq_eq_false_iff_ne.2 (by omega)
        have b2 : (i.op == 2) = true := by simp [hop]
        have HF : Hid (changeS s i = ({ s with feeds := s.feeds.take k ++ s.feeds.drop (k + 1) }, 0)) := by
          have h2 := feed_split HFd.out.ris hfk
          rw [hfc] at h2
          unfold Hid changeS
          rw [if_neg (by omega), hfa]
          unfold setF
          rw [h2.1, h2.2]
          rfl
        obtain ⟨g, hgf⟩ : ∃ g, p.af = some ⟨g, 0, none⟩ := by
          have hrf : w4.ownsRow B 94 3 (.slice p.af s.feeds.length p.cf) s.feeds.length (s.feeds.map Fd.cells).flatten := HWc.out.rf
          obtain ⟨g, cap, e, _⟩ := World.ownsRow.form hrf (by omega)
          exact ⟨g, (Value.slice.inj e).1⟩
        rw [hgf] at c2
        have hcf : s.feeds.length ≤ p.cf := by
          obtain ⟨A, c, e, hc, -⟩ := HWc.out.slf
          cases e
          exact hc
        have hk9 : k < 9000 := by omega
        have hwr : IntKind.i64.wrap ((k : Int) + 1) = (k : Int) + 1 := wrap_small _ ⟨by omega, by omega⟩
        have htn : ((k : Int) + 1).toNat = k + 1 := by omega
        have hkk : (k : Int) ≤ (k : Int) + 1 := by omega
        have hk0 : (0 : Int) ≤ (k : Int) := by omega
        have hkc : (k : Int) ≤ (p.cf : Int) := by omega
        have hk1 : (0 : Int) ≤ (k : Int) + 1 := by omega
        have hk2 : (k : Int) + 1 ≤ (s.feeds.length : Int) := by omega
        have hk3 : (s.feeds.length : Int) ≤ (p.cf : Int) := by omega
        have c2a := fun o => cell_al c2 o
        have hB4 : B ≤ w4.heap.size := by have := HBw.out.size; omega
        have hW4 := HWc.out
        rw [hgf] at hW4
        have HW4 := Lib.hid hW4
        have hsl : SlF w4 w4.heap.size (some ⟨g, 0, none⟩) s.feeds := by
          obtain ⟨A, c, e, hc, hsl⟩ := hW4.slf
          cases e
          exact hsl
        have HSl := Lib.hid hsl
        clear hop e1 hfa hfc hset hfk hW4 hsl HWc HM2
        go_upto_region 5 with fail
        by_cases hcc : p.cf = k + 1
        · have hc0 : p.cf - (k + 1) = 0 := by omega
          obtain ⟨A1, c1', w2, A2, c2', w5, hr1, hr2, q2, q5, qf, HWn, HBn⟩ := feeds_out HW4.out hB4 hkl hlen ⟨g, 0, none⟩ 0 (fun hn => absurd (by rw [List.drop_eq_nil_of_le (by omega)]; rfl) hn)
          rw [hcc] at hr1
          have HO := Lib.hid (codOut.go (w := w) (pb := pb) (X := X) HF.out HWn.out ((HBw.out.mono hBw).trans HBn.out))
          clear HWn HBn HF
          go_region_law (first | ((with_reducible refine at_world ((w4.alloc (.cells #[] 94)).drew) ?_); refine step_append_run (by rfl) _ _ _ _ (by rfl) _ _ (by rfl) (by rfl) hr1 ?_) | ((with_reducible refine at_world w2 ?_); refine step_append_run (by rfl) _ _ _ _ (by rfl) _ _ (by rfl) (by rfl) hr2 ?_) | fail)
          all_goals
            go_wp2
            go_ret
            exact HO.out
        · obtain ⟨A1, c1', w2, A2, c2', w5, hr1, hr2, q2, q5, qf, HWn, HBn⟩ := feeds_out HW4.out hB4 hkl hlen ⟨g, (k + 1) * 3, none⟩ (p.cf - (k + 1)) (by
            have h0 := SlS.drop HSl.out (k + 1)
            rw [Nat.zero_add] at h0
            unfold SlF
            rw [List.map_drop]
            exact h0)
          have HO := Lib.hid (codOut.go (w := w) (pb := pb) (X := X) HF.out HWn.out ((HBw.out.mono hBw).trans HBn.out))
          clear HWn HBn HF
          go_region_law (first | ((with_reducible refine at_world ((w4.alloc (.cells #[] 94)).drew) ?_); refine step_append_run (by rfl) _ _ _ _ (by rfl) _ _ (by rfl) (by rfl) hr1 ?_) | ((with_reducible refine at_world w2 ?_); refine step_append_run (by rfl) _ _ _ _ (by rfl) _ _ (by rfl) (by rfl) hr2 ?_) | fail)
          all_goals
            go_wp2
            go_ret
            exact HO.out
end Go.Proofs.YthedmiilkeclaaaGreat
