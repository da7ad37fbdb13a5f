/- The reference: works does OpKnit, OpTuck, OpMiss and OpSplit. -/
import Derived.Test.YtjoglkamhjcmhaaKQe
namespace Go.Proofs.Ytjoglkamhjcmhaa
open Go.RowKit Go.Shelf Go.Sort
set_option maxRecDepth 100000

set_option maxHeartbeats 16000000 in
theorem rworks_any (B pb : Nat) (s : BedS) (i : Ins) (X : List Own) (hk : StOk s) (hf : FdOk s) (hop : i.op = 3 ∨ i.op = 4 ∨ i.op = 5 ∨ i.op = 6) (hbd : 0 ≤ i.bed ∧ i.bed ≤ 1) (ha : needleP i.at_) (ht : needleP i.to_) (w : World) (hBw : B ≤ w.heap.size) (hw : WorkX 26 w B pb s X) :
    Calls Try.prog 66 #[.pointer (some ⟨pb, 0, none⟩), i.val] w fun e w' => codOut B pb (yarnS s i) X w e w' := by
  have hw1 : WorkX 26 (w.alloc (insBox i)) B pb s (rowX w.heap.size i :: X) := hw.add ((Below.refl _ w).alloc (Nat.le_refl _) (insBox i)) (rowX_new w i)
  have hal := (Below.refl B w).alloc hBw (insBox i)
  have HPa := Lib.hid (rpass_any B pb s i (rowX w.heap.size i :: X) hk hf hbd ha (w.alloc (insBox i)) (by simp; omega) hw1)
  have HK := Lib.hid hk
  have HAl := Lib.hid hal
  have HN := Lib.hid (show _ ∧ _ ∧ _ from ⟨hbd, ha, ht⟩)
  obtain ⟨x0, x1, x2, x3, x4, x5, x6⟩ := rowX_at (B := B) (hw1.row List.mem_cons_self)
  unfold Ins.val at HPa ⊢
  clear hw hw1 hk hf ha ht hal hbd
  go_enter Try.func66, Try.ntmps66
  go_wp2_with fail
  refine HPa.out.mono ?_
  intro e w1 h1
  unfold movOut at h1
  cases hp : passS s i with
  | none =>
    rw [hp] at h1
    obtain ⟨rfl, hb1⟩ := h1
    have HO := Lib.hid (codOut.stop (pb := pb) (X := X) (w := w) (r := yarnS s i) (c := 36) (by unfold yarnS; rw [hp]) (by decide) (HAl.out.trans hb1))
    clear hb1 hp
    go_wp2
    go_ret
    exact HO.out
  | some t =>
    rw [hp] at h1
    obtain ⟨rfl, hwt, hb1⟩ := h1
    have hkt : StOk t := HK.out.pass hp
    have HY := Lib.hid (yarn_ref hkt hp)
    have HKt := Lib.hid hkt
    have HB1 := Lib.hid (HAl.out.trans hb1)
    obtain ⟨hv, mv, p, hwt⟩ := hwt.open
    have HW1 := Lib.hid hwt
    obtain ⟨y0, y1, y2, y3, y4, y5, y6⟩ := rowX_at (B := B) (hwt.rx List.mem_cons_self)
    obtain ⟨c0, c1, c2, c3⟩ := hwt.at4
    have hBs : B ≤ w1.heap.size := by have := HB1.out.size; omega
    clear hb1 hwt HPa HK HAl x0 x1 x2 x3 x4 x5 x6 hp hkt
    by_cases h5 : i.op = 5
    · have b5 : (i.op == 5) = true := by simp [h5]
      have HO := Lib.hid (codOut.go (B := B) (w := w) (X := X) (HY.out.1 h5) (WorkX.less ⟨_, _, _, _, _, HW1.out⟩) HB1.out)
      clear h5 hop HW1 HY HKt
      go_wp2
      go_ret
      exact HO.out
    · have b5 : (i.op == 5) = false := beq_eq_false_iff_ne.2 h5
      have HH := rheld_ready HKt.out HW1.out i.bed i.at_
      have hh6 := HKt.out.held i.bed i.at_
      obtain ⟨old, hold⟩ : ∃ old, old = heldAt t.hooks i.bed i.at_ := ⟨_, rfl⟩
      rw [← hold] at HH hh6 HY
      clear hold
      go_upto_region 5 with fail
      have hb0' : Below w1.heap.size w1 w1.drew := (Below.refl _ _).drew
      have HSb : Hid (∀ W', Below w1.heap.size w1 W' → W'.cell? ⟨pb, 0, none⟩ = some (.int .i64 t.rack) ∧ W'.cell? ⟨pb, 1, none⟩ = some (.slice p.ah t.hooks.length p.ch) ∧ W'.cell? ⟨pb, 2, none⟩ = some (.slice p.af t.feeds.length p.cf) ∧ W'.cell? ⟨pb, 3, none⟩ = some (.slice p.am t.made.length p.cm) ∧ W'.cell? ⟨w.heap.size, 2, none⟩ = some (.int .u8 i.bed) ∧ W'.cell? ⟨w.heap.size, 3, none⟩ = some (.int .i64 i.at_) ∧ Below w1.heap.size w1 W') := fun W' hb => by
        have h := WkP.at4 (HW1.out.same hb)
        obtain ⟨-, -, z2, z3, -⟩ := rowX_at (B := B) ((HW1.out.same hb).rx List.mem_cons_self)
        exact ⟨h.c0, h.c1, h.c2, h.c3, z2, z3, hb⟩
      go_cut [5] (fun s5 wr => ∃ v5, v5 = s5 ∧ Hid ((rowI v5 old).lies wr w1.heap.size) ∧ Hid (Below w1.heap.size w1 wr))
      case first =>
        go_region_held3 (fun W' => W'.cell? ⟨pb, 0, none⟩ = some (.int .i64 t.rack) ∧ W'.cell? ⟨pb, 1, none⟩ = some (.slice p.ah t.hooks.length p.ch) ∧ W'.cell? ⟨pb, 2, none⟩ = some (.slice p.af t.feeds.length p.cf) ∧ W'.cell? ⟨pb, 3, none⟩ = some (.slice p.am t.made.length p.cm) ∧ W'.cell? ⟨w.heap.size, 2, none⟩ = some (.int .u8 i.bed) ∧ W'.cell? ⟨w.heap.size, 3, none⟩ = some (.int .i64 i.at_) ∧ Below w1.heap.size w1 W')
          (first | (with_reducible exact HSb.out _ (by assumption)) | fail)
          (first | (go_at_call 32; have hp := limb6 (by assumption); refine (HH.out _ hp).mono ?_; rintro e wd ⟨A5, c5, rfl, hrow, hbd⟩; have hrw := World.ownsRow.mono hrow hp.size; have hbw := hp.trans (hbd.mono hp.size); clear hp hrow))
        go_wp2_with fail
        go_meet
        exact ⟨_, rfl, hrw, by assumption⟩
      case rest =>
        obtain ⟨v5, rfl, HR5, HB5⟩ := hcut
        obtain ⟨w5, rfl⟩ : ∃ x : World, x = wc := ⟨_, rfl⟩
        clear HSb hb0' HH y0 y1 y2 y3 y4 y5 y6 c0 c1 c2 c3
        obtain ⟨A5, c5, rfl, -, -⟩ := rowI_form HR5.out
        have hw5 := HW1.out.add HB5.out HR5.out
        have HW5 := Lib.hid hw5
        have HB6 := Lib.hid (HB1.out.trans (HB5.out.mono hBs))
        have hB5 : B ≤ w5.heap.size := by have := HB5.out.size; omega
        obtain ⟨y0, y1, y2, y3, y4, y5, y6⟩ := rowX_at (B := B) (bx := w.heap.size) (i := i) (hw5.rx (by simp))
        clear HW1 HB1 HR5 HB5 hw5 hBs
        go_upto_region 7 with fail
        have hK0 : (rowK w5.heap.size (.slice none 0 0) ⟨[], i.bed, i.at_, i.car⟩).lies (w5.alloc (.cells #[.slice none 0 0, .int .u8 i.bed, .int .i64 i.at_, .int .i64 i.car] 65)) w5.heap.size := World.ownsRow_lit (e := 65) w5 #[.slice none 0 0, .int .u8 i.bed, .int .i64 i.at_, .int .i64 i.car] 1 (base := w5.heap.size) (size := 4) (Nat.le_refl _) (by decide) rfl
        have hal5 := (Below.refl w5.heap.size w5).alloc (Nat.le_refl _) (.cells #[.slice none 0 0, .int .u8 i.bed, .int .i64 i.at_, .int .i64 i.car] 65)
        refine abs_world (Q := fun W => Code.wp _ _ _ _ W) (F := fun W => WkP W B pb t hv mv p (rowI (.slice A5 old.length c5) old :: rowK w5.heap.size (.slice none 0 0) ⟨[], i.bed, i.at_, i.car⟩ :: rowX w.heap.size i :: X) ∧ Below B w W ∧ B ≤ W.heap.size) _ ⟨(HW5.out.add hal5 hK0).swap2, HB6.out.trans (hal5.mono hB5), by simp; omega⟩ ?_
        obtain ⟨hb, hhb⟩ : ∃ hb, hb = w5.heap.size := ⟨_, rfl⟩
        rw [← hhb]
        clear hhb hK0 hal5 HW5 HB6 hB5 y0 y1 y2 y3 y4 y5 y6
        obtain ⟨bx, hbx⟩ : ∃ bx, bx = w.heap.size := ⟨_, rfl⟩
        rintro W6 ⟨hW6, hB6, hBs⟩
        have HW6 := Lib.hid hW6
        have HB6 := Lib.hid hB6
        obtain ⟨y0, y1, y2, y3, y4, y5, y6⟩ := rowX_at (B := B) (bx := w.heap.size) (i := i) (hW6.rx (by simp))
        have hm9 : t.made.length ≤ 9000 := HKt.out.made
        by_cases h4 : i.op = 4
        · have b4 : (i.op == 4) = true := by simp [h4]
          have b6 : (i.op == 6) = false := beq_eq_false_iff_ne.2 (by omega)
          have HYt : Hid (yarnS s i = if old.length = 6 then (bed0, 36) else if t.made.length = 4000 then (bed0, 4) else ({ t with hooks := putAt t.hooks i.bed i.at_ (old ++ [(t.made.length : Int)]), made := t.made ++ [⟨[], i.bed, i.at_, i.car⟩] }, 0)) := HY.out.2.1 h4
          clear hop hW6 hB6 HY
          by_cases h6 : old.length = 6
          · have e6 : ((old.length : Int) == 6) = true := by rw [h6]; rfl
            have HO := Lib.hid (codOut.stop (pb := pb) (X := X) (w := w) (HYt.out.trans (by rw [if_pos h6])) (by decide) HB6.out)
            clear HYt h6 HW6 h4 hh6
            go_wp2
            go_ret
            exact HO.out
          · have e6 : ((old.length : Int) == 6) = false := beq_eq_false_iff_ne.2 (by omega)
            have HYt2 : Hid (yarnS s i = if t.made.length = 4000 then (bed0, 4) else ({ t with hooks := putAt t.hooks i.bed i.at_ (old ++ [(t.made.length : Int)]), made := t.made ++ [⟨[], i.bed, i.at_, i.car⟩] }, 0)) := by show _ = _; rw [HYt.out, if_neg h6]
            obtain ⟨c0, c1, c2, c3⟩ := HW6.out.at4
            by_cases h40 : t.made.length = 4000
            · have e40 : ((t.made.length : Int) == 4000) = true := by rw [h40]; rfl
              have HO := Lib.hid (codOut.stop (pb := pb) (X := X) (w := w) (HYt2.out.trans (by rw [if_pos h40])) (by decide) HB6.out)
              clear HYt HYt2 h6 HW6 h4 h40 hh6
              go_wp2
              go_ret
              exact HO.out
            · have e40 : ((t.made.length : Int) == 4000) = false := beq_eq_false_iff_ne.2 (by omega)
              have HYu : Hid (yarnS s i = ({ t with hooks := putAt t.hooks i.bed i.at_ (old ++ [(t.made.length : Int)]), made := t.made ++ [⟨[], i.bed, i.at_, i.car⟩] }, 0)) := by show _ = _; rw [HYt2.out, if_neg h40]
              clear HYt HYt2 h6 h4 h40
              have hKt0 : StOk t := HKt.out
              go_upto_region 12 with fail
              have hbWa : Below W6.heap.size W6 (W6.alloc (.cells #[.int .i64 (t.made.length : Int)] 3)).drew := ((Below.refl _ _).alloc (Nat.le_refl _) _).drew
              have hWa : WkP (W6.alloc (.cells #[.int .i64 (t.made.length : Int)] 3)).drew B pb t hv mv p (rowI (.slice A5 old.length c5) old :: rowK hb (.slice none 0 0) ⟨[], i.bed, i.at_, i.car⟩ :: rowX w.heap.size i :: X) := HW6.out.to hbWa
              obtain ⟨A6, c6, w6, hr6, hW6, hB6⟩ := tuck_app hWa (t.made.length : Int) W6.heap.size (by intro j u hu; exact newsT W6 #[.int .i64 (t.made.length : Int)] 3 _ rfl j u hu) (by have := hbWa.size; omega) (by omega)
              have hB6s : B ≤ w6.heap.size := by have := hB6.size; have := hbWa.size; omega
              have hPu := rput_ready (b := i.bed) (n := i.at_) (l := old ++ [(t.made.length : Int)]) (A := A6) (c := c6) hKt0 hB6s hW6
              rw [show (old ++ [(t.made.length : Int)]).length = old.length + 1 by simp] at hPu
              have HPu := Lib.hid hPu
              clear hPu
              have hnx : w.heap.size ≠ pb := rowX_ne (i := i) HW6.out (by simp)
              have e6 := hW6.at4
              obtain ⟨g0, g1, g2, g3⟩ := e6
              obtain ⟨-, -, z2, z3, -⟩ := rowX_at (B := B) (bx := w.heap.size) (i := i) (hW6.rx (by simp))
              have HSx : Hid (∀ V, (Below W6.heap.size W6 V ∨ Below w6.heap.size w6 V) → (V.cell? ⟨w.heap.size, 2, none⟩ = some (.int .u8 i.bed) ∧ V.cell? ⟨w.heap.size, 3, none⟩ = some (.int .i64 i.at_)) ∧ ∀ a b c d, (stW V pb a b c d).cell? ⟨w.heap.size, 2, none⟩ = some (.int .u8 i.bed) ∧ (stW V pb a b c d).cell? ⟨w.heap.size, 3, none⟩ = some (.int .i64 i.at_)) := fun V hV => by
                have h23 : V.cell? ⟨w.heap.size, 2, none⟩ = some (.int .u8 i.bed) ∧ V.cell? ⟨w.heap.size, 3, none⟩ = some (.int .i64 i.at_) := by
                  rcases hV with hV | hV
                  · exact ⟨(bcell hV (lt_of_cell y2) _).trans y2, (bcell hV (lt_of_cell y3) _).trans y3⟩
                  · exact ⟨(bcell hV (lt_of_cell z2) _).trans z2, (bcell hV (lt_of_cell z3) _).trans z3⟩
                exact ⟨h23, fun a b c d => ⟨(st_far hnx 2).trans h23.1, (st_far hnx 3).trans h23.2⟩⟩
              have HBc := Lib.hid (show _ ∧ _ from ⟨HB6.out.trans ((hbWa.mono hBs).trans hB6), hB6s⟩)
              have hbD : Below W6.heap.size W6 W6.drew ∨ Below w6.heap.size w6 W6.drew := Or.inl (Below.drew (Below.refl _ _))
              have hbA : Below W6.heap.size W6 (W6.alloc (.cells #[.int .i64 (t.made.length : Int)] 3)).drew ∨ Below w6.heap.size w6 (W6.alloc (.cells #[.int .i64 (t.made.length : Int)] 3)).drew := Or.inl hbWa
              have hb66 : Below W6.heap.size W6 w6 ∨ Below w6.heap.size w6 w6 := Or.inr (Below.refl _ _)
              have c0a := fun o => cell_al c0 o
              have c1a := fun o => cell_al c1 o
              have c2a := fun o => cell_al c2 o
              have c3a := fun o => cell_al c3 o
              clear hWa hW6 hB6 hnx hB6s z2 z3
              have hld : ∀ (t : TypeId) (x : Operand), ldOp t x = Op.load t x := fun _ _ => rfl
              rw [show Op.load 26 (Operand.tmp 60) = ldOp 26 (Operand.tmp 60) from rfl, show Op.load 24 (Operand.tmp 69) = ldOp 24 (Operand.tmp 69) from rfl]
              go_cut [74] (fun s74 wr => ∃ v74, v74 = s74 ∧ Hid (WorkX 26 wr B pb { t with hooks := putAt t.hooks i.bed i.at_ (old ++ [(t.made.length : Int)]) } (rowK hb (.slice none 0 0) ⟨[], i.bed, i.at_, i.car⟩ :: rowX w.heap.size i :: X)) ∧ Hid (Below B w wr))
              case first =>
                go_region_held3 (fun V => V.cell? ⟨w.heap.size, 2, none⟩ = some (.int .u8 i.bed) ∧ V.cell? ⟨w.heap.size, 3, none⟩ = some (.int .i64 i.at_))
                  (first | (with_reducible exact (HSx.out _ (by assumption)).1) | (with_reducible exact (HSx.out _ (by assumption)).2 _ _ _ _) | fail)
                  (first | ((with_reducible refine at_world ((W6.alloc (.cells #[.int .i64 (t.made.length : Int)] 3)).drew) ?_); refine step_append_run (by rfl) _ _ _ _ (by rfl) _ _ (by rfl) (by rfl) hr6 ?_) | (go_at_call 64; refine HPu.out.mono ?_; rintro e w7 ⟨A7, m7, c7, rfl, hb7, ⟨d0, d1, d2, d3, df⟩, HS7, HB7⟩; have hbw7 : Below W6.heap.size W6 w7 ∨ Below w6.heap.size w6 w7 := Or.inr hb7) | fail)
                all_goals
                  go_wp2_with fail
                  go_meet
                  exact ⟨_, rfl, HS7.out, HBc.out.1.trans HB7.out⟩
              case rest =>
                obtain ⟨v74, rfl, HW8, HB8⟩ := hcut
                obtain ⟨hv2, mv2, p2, hw8⟩ := HW8.out.open
                have HW9 := Lib.hid hw8
                have hB8 : B ≤ wc.heap.size := by have := HB8.out.size; omega
                clear hw8 HW8 HPu HSx c0 c1 c2 c3 c0a c1a c2a c3a y0 y1 y2 y3 y4 y5 y6 hbWa hbD hbA hb66 hld hr6 g0 g1 g2 g3
                go_upto_region 15 with fail
                refine abs_world (Q := fun W => Code.wp _ _ _ _ W) (F := fun W => WkP W B pb { t with hooks := putAt t.hooks i.bed i.at_ (old ++ [(t.made.length : Int)]) } hv2 mv2 p2 (rowI (.slice none 0 0) [] :: rowK hb (.slice none 0 0) ⟨[], i.bed, i.at_, i.car⟩ :: rowX w.heap.size i :: X) ∧ Below B w W ∧ B ≤ W.heap.size) _ ⟨HW9.out.addNil, HB8.out, hB8⟩ ?_
                clear HW9 HB8 HBc
                rintro W15 ⟨hw15, hb15, hB15⟩
                have hn15 : ({ t with hooks := putAt t.hooks i.bed i.at_ (old ++ [(t.made.length : Int)]) } : BedS).made.length ≤ 9000 := hm9
                obtain ⟨A9, c9, w9, hr9, ⟨q3, q9, qf⟩, HSm, HWm, HBm⟩ := made_all (hb := hb) (⟨[], i.bed, i.at_, i.car⟩ : Mk) hB15 hn15 hw15
                have HO := Lib.hid (codOut.go (pb := pb) (X := X) (w := w) HYu.out (WorkX.less HWm.out) (hb15.trans HBm.out))
                have hs0 := Lib.hid (HSm.out _ (Or.inl rfl))
                have hs1 := Lib.hid (HSm.out _ (Or.inr (Or.inl rfl)))
                have hs2 := Lib.hid (HSm.out _ (Or.inr (Or.inr (Or.inl rfl))))
                have hs3 := Lib.hid (HSm.out _ (Or.inr (Or.inr (Or.inr rfl))))
                have q3a := fun o => cell_al q3 o
                clear HSm HWm HBm hw15 hb15 HYu
                have hld : ∀ (t : TypeId) (x : Operand), ldOp t x = Op.load t x := fun _ _ => rfl
                rw [show Op.load 24 (Operand.tmp 97) = ldOp 24 (Operand.tmp 97) from rfl]
                go_region_held3 (fun V => V.cell? ⟨hb, 0, none⟩ = some (.slice none 0 0) ∧ V.cell? ⟨hb, 1, none⟩ = some (.int .u8 i.bed) ∧ V.cell? ⟨hb, 2, none⟩ = some (.int .i64 i.at_) ∧ V.cell? ⟨hb, 3, none⟩ = some (.int .i64 i.car))
                  (first | (with_reducible exact hs0.out) | (with_reducible exact hs1.out) | (with_reducible exact hs2.out) | (with_reducible exact hs3.out) | fail)
                  (first | ((with_reducible refine at_world ((W15.alloc (.cells #[.slice none 0 0, .int .u8 i.bed, .int .i64 i.at_, .int .i64 i.car] 65)).drew) ?_); refine step_append_run (by rfl) _ _ _ _ (by rfl) _ _ (by rfl) (by rfl) hr9 ?_) | fail)
                all_goals
                  clear hld hs0 hs1 hs2 hs3 q3 q9 qf q3a hr9
                  go_wp2
                  go_ret
                  exact HO.out
        · have b4 : (i.op == 4) = false := beq_eq_false_iff_ne.2 h4
          have HMv := Lib.hid (rmoves_any B pb t i (rowK hb (.slice none 0 0) ⟨[], i.bed, i.at_, i.car⟩ :: rowX w.heap.size i :: X) (.slice A5 old.length c5) old HKt.out hh6 HN.out.1 HN.out.2.1 HN.out.2.2 W6 hBs ⟨_, _, _, _, _, hW6⟩)
          unfold Ins.val at HMv
          go_cut [48] (fun s48 wr => ∃ q48 : Bool, s48 = .bool q48 ∧ Hid ((q48 = true ∧ yarnS s i = (bed0, 36) ∧ Below B w wr) ∨ (q48 = false ∧ ∃ u hv mv p, WkP wr B pb u hv mv p (rowI (.slice A5 old.length c5) old :: rowK hb (.slice none 0 0) ⟨[], i.bed, i.at_, i.car⟩ :: rowX w.heap.size i :: X) ∧ Below B w wr ∧ B ≤ wr.heap.size ∧ StOk u ∧ yarnS s i = if u.made.length = 4000 then (bed0, 4) else ({ u with hooks := putAt u.hooks i.bed i.at_ [(u.made.length : Int)], made := u.made ++ [⟨old, i.bed, i.at_, i.car⟩] }, 0))))
          case first =>
            by_cases h6 : i.op = 6
            · have b6 : (i.op == 6) = true := by simp [h6]
              have HYs := Lib.hid (HY.out.2.2.1 h6)
              clear hop HY hW6 hB6 h4 h5 h6
              go_wp2_with fail
              refine HMv.out.mono ?_
              intro e w2 h2
              unfold movOut at h2
              cases ha : acrossS t i old with
              | none =>
                rw [ha] at h2
                obtain ⟨rfl, hb2⟩ := h2
                have hY := HYs.out.1 ha
                clear HYs HMv
                go_wp2_with fail
                go_meet
                exact ⟨_, rfl, Or.inl ⟨rfl, hY, HB6.out.trans hb2⟩⟩
              | some u =>
                rw [ha] at h2
                obtain ⟨rfl, hwu, hb2⟩ := h2
                have hY := HYs.out.2 u ha
                have hku := HKt.out.across HN.out.1 HN.out.2.2 ha
                obtain ⟨hv', mv', p', hwu⟩ := hwu.open
                clear HYs HMv
                go_wp2_with fail
                go_meet
                exact ⟨_, rfl, Or.inr ⟨rfl, u, hv', mv', p', hwu, HB6.out.trans hb2, Nat.le_trans hBs hb2.size, hku, hY⟩⟩
            · have b6 : (i.op == 6) = false := beq_eq_false_iff_ne.2 h6
              have hY := HY.out.2.2.2 (by omega)
              clear hop HY hW6 hB6 h4 h5 h6 HMv
              go_wp2_with fail
              go_meet
              exact ⟨_, rfl, Or.inr ⟨rfl, t, hv, mv, p, HW6.out, HB6.out, hBs, HKt.out, hY⟩⟩
          case rest =>
            obtain ⟨q48, rfl, HQ⟩ := hcut
            clear HMv HY HW6 HB6 hW6 hB6 hop y0 y1 y2 y3 y4 y5 y6
            rcases HQ.out with ⟨rfl, hY, hb⟩ | ⟨rfl, u, hv', mv', p', hwu, hb7, hBc, hku, hY⟩
            · have HO := Lib.hid (codOut.stop (pb := pb) (X := X) (w := w) hY (by decide) hb)
              clear HQ hY hb
              go_wp2
              go_ret
              exact HO.out
            · have hm9' : u.made.length ≤ 9000 := hku.made
              obtain ⟨c0, c1, c2, c3⟩ := hwu.at4
              obtain ⟨y0, y1, y2, y3, y4, y5, y6⟩ := rowX_at (B := B) (bx := w.heap.size) (i := i) (hwu.rx (by simp))
              clear HQ
              by_cases h40 : u.made.length = 4000
              · have e40 : ((u.made.length : Int) == 4000) = true := by rw [h40]; rfl
                have HO := Lib.hid (codOut.stop (pb := pb) (X := X) (w := w) (hY.trans (by rw [if_pos h40])) (by decide) hb7)
                clear hY h40 hwu hb7
                go_wp2
                go_ret
                exact HO.out
              · have e40 : ((u.made.length : Int) == 4000) = false := beq_eq_false_iff_ne.2 (by omega)
                have HYu : Hid (yarnS s i = ({ u with hooks := putAt u.hooks i.bed i.at_ [(u.made.length : Int)], made := u.made ++ [⟨old, i.bed, i.at_, i.car⟩] }, 0)) := by show _ = _; rw [hY, if_neg h40]
                have hbWa : Below wc.heap.size wc (wc.alloc (.cells #[.int .i64 (u.made.length : Int)] 3)).drew := ((Below.refl _ _).alloc (Nat.le_refl _) _).drew
                have hWa : WkP (wc.alloc (.cells #[.int .i64 (u.made.length : Int)] 3)).drew B pb u hv' mv' p' (rowI (.slice (some ⟨wc.heap.size, 0, none⟩) 1 1) [(u.made.length : Int)] :: rowI (.slice A5 old.length c5) old :: rowK hb (.slice none 0 0) ⟨[], i.bed, i.at_, i.car⟩ :: rowX w.heap.size i :: X) :=
                  (hwu.add ((Below.refl _ wc).alloc (Nat.le_refl _) _) (o := rowI (.slice (some ⟨wc.heap.size, 0, none⟩) 1 1) [(u.made.length : Int)]) (World.ownsRow_lit (e := 3) wc #[.int .i64 (u.made.length : Int)] 1 (base := wc.heap.size) (size := 1) (Nat.le_refl _) (by decide) rfl)).to (Below.drew (Below.refl _ _))
                have HPu := Lib.hid (rput_ready (b := i.bed) (n := i.at_) (l := [(u.made.length : Int)]) hku (by have := hbWa.size; omega) hWa)
                have hnx : w.heap.size ≠ pb := rowX_ne (i := i) hwu (by simp)
                have HSx : Hid (∀ V, Below wc.heap.size wc V → (V.cell? ⟨w.heap.size, 2, none⟩ = some (.int .u8 i.bed) ∧ V.cell? ⟨w.heap.size, 3, none⟩ = some (.int .i64 i.at_)) ∧ ∀ a b c d, (stW V pb a b c d).cell? ⟨w.heap.size, 2, none⟩ = some (.int .u8 i.bed) ∧ (stW V pb a b c d).cell? ⟨w.heap.size, 3, none⟩ = some (.int .i64 i.at_)) := fun V hV =>
                  ⟨⟨(bcell hV (lt_of_cell y2) _).trans y2, (bcell hV (lt_of_cell y3) _).trans y3⟩, fun a b c d => ⟨(st_far hnx 2).trans ((bcell hV (lt_of_cell y2) _).trans y2), (st_far hnx 3).trans ((bcell hV (lt_of_cell y3) _).trans y3)⟩⟩
                have HBc := Lib.hid (show _ ∧ _ from ⟨hb7, hBc⟩)
                have hbD : Below wc.heap.size wc wc.drew := Below.drew (Below.refl _ _)
                have c0a := fun o => cell_al c0 o
                have c1a := fun o => cell_al c1 o
                have c2a := fun o => cell_al c2 o
                have c3a := fun o => cell_al c3 o
                clear hY h40 hwu hWa hb7 hnx
                go_upto_region 13 with fail
                have hld : ∀ (t : TypeId) (x : Operand), ldOp t x = Op.load t x := fun _ _ => rfl
                rw [show Op.load 26 (Operand.tmp 78) = ldOp 26 (Operand.tmp 78) from rfl, show Op.load 24 (Operand.tmp 86) = ldOp 24 (Operand.tmp 86) from rfl]
                go_cut [90] (fun s90 wr => ∃ v90, v90 = s90 ∧ Hid (WorkX 26 wr B pb { u with hooks := putAt u.hooks i.bed i.at_ [(u.made.length : Int)] } (rowI (.slice A5 old.length c5) old :: rowK hb (.slice none 0 0) ⟨[], i.bed, i.at_, i.car⟩ :: rowX w.heap.size i :: X)) ∧ Hid (Below B w wr))
                case first =>
                  go_region_held3 (fun V => V.cell? ⟨w.heap.size, 2, none⟩ = some (.int .u8 i.bed) ∧ V.cell? ⟨w.heap.size, 3, none⟩ = some (.int .i64 i.at_))
                    (first | (with_reducible exact (HSx.out _ (by assumption)).1) | (with_reducible exact (HSx.out _ (by assumption)).2 _ _ _ _) | fail)
                    (first | (go_at_call 64; refine HPu.out.mono ?_; rintro e w7 ⟨A7, m7, c7, rfl, hb7, ⟨d0, d1, d2, d3, df⟩, HS7, HB7⟩; have hbw7 := hbWa.trans (hb7.mono hbWa.size)) | fail)
                  all_goals
                    go_wp2_with fail
                    go_meet
                    exact ⟨_, rfl, HS7.out, HBc.out.1.trans ((hbWa.mono HBc.out.2).trans HB7.out)⟩
                case rest =>
                  obtain ⟨v90, rfl, HW8, HB8⟩ := hcut
                  obtain ⟨hv2, mv2, p2, hw8⟩ := HW8.out.open
                  have k8 := rowK_at (B := B) (b := hb) (v := .slice none 0 0) (m := ⟨[], i.bed, i.at_, i.car⟩) (hw8.rx (by simp))
                  obtain ⟨k0, -, -, -, kf⟩ := k8
                  have HW9 := Lib.hid hw8
                  clear hw8 HW8 HPu HSx c0 c1 c2 c3 c0a c1a c2a c3a y0 y1 y2 y3 y4 y5 y6 hbWa hbD hld
                  go_upto_region 15 with fail
                  refine abs_world (Q := fun W => Code.wp _ _ _ _ W) (F := fun W => WkP W B pb { u with hooks := putAt u.hooks i.bed i.at_ [(u.made.length : Int)] } hv2 mv2 p2 (rowI (.slice A5 old.length c5) old :: rowK hb (.slice A5 old.length c5) ⟨old, i.bed, i.at_, i.car⟩ :: rowX w.heap.size i :: X) ∧ Below B w W ∧ B ≤ W.heap.size) _ ⟨((HW9.out.swap2).setK (.slice A5 old.length c5)).swap2, HB8.out.setCell (p := ⟨hb, 0, none⟩) (World.ownsRow.lt (HW9.out.rx (o := rowK hb (.slice none 0 0) ⟨[], i.bed, i.at_, i.car⟩) (by simp)) hb rfl).1 _, by have := HB8.out.size; have := HBc.out.2; simp; omega⟩ ?_
                  clear k0 kf HW9 HB8 HBc
                  rintro W15 ⟨hw15, hb15, hB15⟩
                  have hn15 : ({ u with hooks := putAt u.hooks i.bed i.at_ [(u.made.length : Int)] } : BedS).made.length ≤ 9000 := hm9'
                  obtain ⟨A9, c9, w9, hr9, ⟨q3, q9, qf⟩, HSm, HWm, HBm⟩ := made_all (hb := hb) (⟨old, i.bed, i.at_, i.car⟩ : Mk) hB15 hn15 hw15
                  have HO := Lib.hid (codOut.go (pb := pb) (X := X) (w := w) HYu.out (WorkX.less HWm.out) (hb15.trans HBm.out))
                  have hs0 := Lib.hid (HSm.out _ (Or.inl rfl))
                  have hs1 := Lib.hid (HSm.out _ (Or.inr (Or.inl rfl)))
                  have hs2 := Lib.hid (HSm.out _ (Or.inr (Or.inr (Or.inl rfl))))
                  have hs3 := Lib.hid (HSm.out _ (Or.inr (Or.inr (Or.inr rfl))))
                  have q3a := fun o => cell_al q3 o
                  clear HSm HWm HBm hw15 hb15 HYu
                  have hld : ∀ (t : TypeId) (x : Operand), ldOp t x = Op.load t x := fun _ _ => rfl
                  rw [show Op.load 24 (Operand.tmp 97) = ldOp 24 (Operand.tmp 97) from rfl]
                  go_region_held3 (fun V => V.cell? ⟨hb, 0, none⟩ = some (.slice A5 old.length c5) ∧ V.cell? ⟨hb, 1, none⟩ = some (.int .u8 i.bed) ∧ V.cell? ⟨hb, 2, none⟩ = some (.int .i64 i.at_) ∧ V.cell? ⟨hb, 3, none⟩ = some (.int .i64 i.car))
                    (first | (with_reducible exact hs0.out) | (with_reducible exact hs1.out) | (with_reducible exact hs2.out) | (with_reducible exact hs3.out) | fail)
                    (first | ((with_reducible refine at_world ((W15.alloc (.cells #[.slice A5 old.length c5, .int .u8 i.bed, .int .i64 i.at_, .int .i64 i.car] 65)).drew) ?_); refine step_append_run (by rfl) _ _ _ _ (by rfl) _ _ (by rfl) (by rfl) hr9 ?_) | fail)
                  all_goals
                    clear hld hs0 hs1 hs2 hs3 q3 q9 qf q3a hr9
                    go_wp2
                    go_ret
                    exact HO.out
end Go.Proofs.Ytjoglkamhjcmhaa
