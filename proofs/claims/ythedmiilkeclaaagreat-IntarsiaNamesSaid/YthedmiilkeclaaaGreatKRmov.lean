/- The reference: moves brings the loops of a needle behind those of the opposite one. -/
import Derived.Test.YthedmiilkeclaaaGreatKQb
namespace Go.Proofs.YthedmiilkeclaaaGreat
open Go.RowKit Go.Shelf Go.Sort
set_option maxRecDepth 100000

theorem limb7 {P0 P1 P2 P3 P4 P5 P6 Q : Prop} (h : P0 ∧ P1 ∧ P2 ∧ P3 ∧ P4 ∧ P5 ∧ P6 ∧ Q) : Q := h.2.2.2.2.2.2.2
theorem run_app0 {w : World} {base n : Nat} {v : Value} {xs : List Value} (hown : w.ownsRow base 3 1 v n xs) (A' : Option Addr) (c' : Nat) : (Builtin.append_ #[22, 22] 22 #[v, .slice A' 0 c']).run Tryz.prog w = .ok v w := by
  obtain ⟨i0, hi, hz0, hz1, hz2⟩ := info_parts info_int'
  rcases hown.2 with ⟨rfl, rfl⟩ | ⟨g, cap, cur, rfl, _, _, hnc, _⟩
  · cases A' <;> simp [Builtin.append_, run_underlying Tryz.underlying22, sizeOf, typeInfo, hi, Builtin.lenOf, Builtin.firstCells, loadCells, loadCellsFrom]
  · cases A' <;> simp [Builtin.append_, run_underlying Tryz.underlying22, sizeOf, typeInfo, hi, Builtin.lenOf, Builtin.firstCells, hnc, storeCells, loadCells, loadCellsFrom]
/-- What moves ends in. -/
def movOut (B pb : Nat) (r : Option BedS) (X : List Own) (w : World) (e : Ending) (w' : World) : Prop :=
  match r with
  | none => e = .returned (.bool false) ∧ Below B w w'
  | some t => e = .returned (.bool true) ∧ WorkX 48 w' B pb t X ∧ Below B w w'
/-- The struct behind the pointer, the instruction's box. -/
structure MvS (B w0 pb : Nat) (s : BedS) (p : BedP) (i : Ins) (W0 W : World) : Prop where
  st : BdIn W pb s p
  ins : InsIn W w0 i
  lo : Below W0.heap.size W0 W
theorem MvS.to {B w0 pb : Nat} {s : BedS} {p : BedP} {i : Ins} {W0 W W' : World} (h : MvS B w0 pb s p i W0 W) (hb : Below W.heap.size W W') : MvS B w0 pb s p i W0 W' := ⟨h.st.below hb (lt_of_cell h.st.1), h.ins.below hb (lt_of_cell h.ins.1), h.lo.trans (hb.mono h.lo.size)⟩
set_option maxHeartbeats 16000000 in
theorem rmoves_any (B pb : Nat) (s : BedS) (i : Ins) (X : List Own) (vl : Value) (l : List Int) (hk : StOk s) (hl : l.length ≤ 6) (hbd : 0 ≤ i.bed ∧ i.bed ≤ 1) (ha : needleP i.at_) (ht : needleP i.to_) (w : World) (hBw : B ≤ w.heap.size) (hw : WorkX 48 w B pb s (rowI vl l :: X)) :
    Calls Tryz.prog 117 #[.pointer (some ⟨pb, 0, none⟩), i.val, vl] w fun e w' => movOut B pb (acrossS s i l) (rowI vl l :: X) w e w' := by
  obtain ⟨hv, mv, vh, vf, vm, hw⟩ := hw
  obtain ⟨A', c', rfl, hc', hs'⟩ := rowI_form (v := vl) (l := l) hw.row
  obtain ⟨p, rfl, rfl, rfl, hba⟩ := hw.bed
  have HW := Lib.hid hw
  have HKs := Lib.hid hk
  have HC := Lib.hid (fun b n hb hn W => rcolumn_any s p b n hb hk.rack hn W)
  have HM0 : Hid (MvS B w.heap.size pb s p i (w.alloc (insBox i)) (w.alloc (insBox i))) := by
    have hb := (Below.refl w.heap.size w).alloc (Nat.le_refl _) (insBox i)
    have hc := hw.cells
    exact ⟨BdIn.below ⟨hc.1, hc.2.1, hc.2.2.1, hc.2.2.2.1⟩ hb hw.base.2, InsIn.new w i, Below.refl _ _⟩
  obtain ⟨hb0, hb1⟩ := hbd
  have HN := Lib.hid (show _ ∧ _ from ⟨ha, ht⟩)
  unfold BedS.val at HC
  unfold Ins.val
  clear hw hba hs' hk ha ht
  go_enter Tryz.func117, Tryz.ntmps117
  go_upto_region 2 with fail
  refine abs_world (Q := fun W => Code.wp _ _ _ _ W) (F := MvS B w.heap.size pb s p i (w.alloc (insBox i))) _ HM0.out ?_
  clear HM0
  intro W hM
  have HM := Lib.hid hM
  clear hM
  have hb0' : Below W.heap.size W W.drew := (Below.refl _ _).drew
  have HSb : Hid (∀ W', Below W.heap.size W W' → W'.cell? ⟨pb, 0, none⟩ = some (.int .i64 s.rack) ∧ W'.cell? ⟨pb, 1, none⟩ = some (.slice p.ah s.hooks.length p.ch) ∧ W'.cell? ⟨pb, 2, none⟩ = some (.slice p.af s.feeds.length p.cf) ∧ W'.cell? ⟨pb, 3, none⟩ = some (.slice p.am s.made.length p.cm) ∧ W'.cell? ⟨w.heap.size, 2, none⟩ = some (.int .u8 i.bed) ∧ W'.cell? ⟨w.heap.size, 3, none⟩ = some (.int .i64 i.at_) ∧ W'.cell? ⟨w.heap.size, 4, none⟩ = some (.int .i64 i.to_) ∧ Below W.heap.size W W') := fun W' hb => by
    have h := HM.out.to hb
    exact ⟨h.st.1, h.st.2.1, h.st.2.2.1, h.st.2.2.2, h.ins.2.2.1, h.ins.2.2.2.1, h.ins.2.2.2.2.1, hb⟩
  have HP1 := Lib.hid (show (0 ≤ i.bed ∧ i.bed ≤ 1) ∧ needleP i.at_ from ⟨⟨hb0, hb1⟩, HN.out.1⟩)
  have HP2 := Lib.hid (show (0 ≤ 1 - i.bed ∧ 1 - i.bed ≤ 1) ∧ needleP i.to_ from ⟨by omega, HN.out.2⟩)
  have hcc : ∃ q : Bool, (colI s.rack i.bed i.at_ != colI s.rack (1 - i.bed) i.to_) = q := ⟨_, rfl⟩
  obtain ⟨q, hq⟩ := hcc
  have HQ := Lib.hid hq
  go_cut [27] (fun s27 wr => s27 = .bool q ∧ Hid (MvS B w.heap.size pb s p i (w.alloc (insBox i)) wr))
  case first =>
    go_region_held3 (fun W' => W'.cell? ⟨pb, 0, none⟩ = some (.int .i64 s.rack) ∧ W'.cell? ⟨pb, 1, none⟩ = some (.slice p.ah s.hooks.length p.ch) ∧ W'.cell? ⟨pb, 2, none⟩ = some (.slice p.af s.feeds.length p.cf) ∧ W'.cell? ⟨pb, 3, none⟩ = some (.slice p.am s.made.length p.cm) ∧ W'.cell? ⟨w.heap.size, 2, none⟩ = some (.int .u8 i.bed) ∧ W'.cell? ⟨w.heap.size, 3, none⟩ = some (.int .i64 i.at_) ∧ W'.cell? ⟨w.heap.size, 4, none⟩ = some (.int .i64 i.to_) ∧ Below W.heap.size W W')
      (first | (with_reducible exact HSb.out _ (by assumption)) | fail)
      (first | (go_at_call 125; have hp := limb7 (by assumption); refine (HC.out _ _ (by first | exact HP1.out.1 | exact HP2.out.1) (by first | exact HP1.out.2 | exact HP2.out.2) _).mono ?_; rintro e wd ⟨rfl, hbd⟩; have hbw := hp.trans (hbd.mono hp.size); clear hp))
    go_wp2_with fail
    go_meet
    exact ⟨rfl, HM.out.to (by assumption)⟩
  case rest =>
    obtain ⟨rfl, HM2⟩ := hcut
    obtain ⟨w4, rfl⟩ : ∃ x : World, x = wc := ⟨_, rfl⟩
    have hbw : Below w.heap.size w w4 := ((Below.refl w.heap.size w).alloc (Nat.le_refl _) (insBox i)).trans (HM2.out.lo.mono (by simp))
    have HBw := Lib.hid hbw
    have HWc := Lib.hid (HW.out.to hbw)
    clear hbw HM HSb hb0' HC hq HP1
    cases q with
    | true =>
      have HF : Hid (acrossS s i l = none) := by
        show acrossS s i l = none
        unfold acrossS
        rw [if_pos (by have := HQ.out; simpa using this)]
      clear HWc HM2 HQ
      go_wp2
      go_ret
      rw [HF.out]
      exact ⟨rfl, HBw.out.mono hBw⟩
    | false =>
      have HF : Hid (acrossS s i l = layS s (1 - i.bed) i.to_ l) := by
        show acrossS s i l = _
        unfold acrossS
        rw [if_neg (by have := HQ.out; simpa using this)]
      clear HQ
      obtain ⟨c0, c1, c2, c3⟩ := HM2.out.st
      obtain ⟨x0, x1, x2, x3, x4, x5, x6⟩ := HM2.out.ins
      obtain ⟨i0, hi, hz0, hz1, hz2⟩ := info_parts info_int'
      have HH : Hid (∀ W', Below w4.heap.size w4 W' → Calls Tryz.prog 116 #[.agg #[.int .i64 s.rack, .slice p.ah s.hooks.length p.ch, .slice p.af s.feeds.length p.cf, .slice p.am s.made.length p.cm], .int .u8 (1 - i.bed), .int .i64 i.to_] W' fun e w' => ownOut (heldAt s.hooks (1 - i.bed) i.to_) W' e w') := fun W' hb => by
        obtain ⟨p', e1, e2, e3, hbb⟩ := (HWc.out.to hb).bed
        have hpp : p = p' := by
          cases p; cases p'
          simp only [Value.slice.injEq, true_and] at e1 e2 e3
          simp_all
        rw [← hpp] at hbb
        exact rheldO_any s p (1 - i.bed) i.to_ (by have := HKs.out.seek.1; omega) (fun h hh => by have := HKs.out.loops h hh; omega) W' hbb
      have hheld : (heldAt s.hooks (1 - i.bed) i.to_).length ≤ 6 := HKs.out.held _ _
      go_upto_region 4 with fail
      go_cut [8] (fun s8 wr => ∃ v8, v8 = s8 ∧ Hid ((rowI v8 (heldAt s.hooks (1 - i.bed) i.to_ ++ l)).lies wr w4.heap.size) ∧ Hid (Below w4.heap.size w4 wr))
      case first =>
        by_cases hln : l = []
        · subst hln
          go_region_law (first | (refine step_append_run (by rfl) _ _ _ _ (by rfl) (.slice A5 (heldAt s.hooks (1 - i.bed) i.to_).length c5) (.slice A' 0 c') (by rfl) (by rfl) (run_app0 (show World.ownsRow _ _ _ _ _ _ _ from hrow5) A' c') ?_) | (go_simp; go_at_call 116; refine (HH.out w4.drew (Below.drew (Below.refl _ _))).mono ?_; rintro e w5 ⟨A5, c5, rfl, hrow5, hb5⟩; have hbw5 : Below w4.heap.size w4 w5 := (Below.drew (Below.refl _ _)).trans (hb5.mono (Nat.le_refl _))))
          all_goals
            have hR : Hid ((rowI (.slice A5 (heldAt s.hooks (1 - i.bed) i.to_).length c5) (heldAt s.hooks (1 - i.bed) i.to_ ++ [])).lies w5 w4.heap.size) := by
              show Own.lies _ _ _
              rw [List.append_nil]
              exact hrow5
            have hB2 := Lib.hid hbw5
            clear hbw5 hb5 hrow5
            go_wp2_with fail
            go_meet
            exact ⟨_, rfl, hR.out, hB2.out⟩
        · have hlp : 0 < l.length := List.length_pos_iff.2 hln
          obtain ⟨g', cap', e', -, -⟩ := World.ownsRow.form HWc.out.row hlp
          have e2 : Value.slice A' l.length c' = .slice (some ⟨g', 0, none⟩) l.length cap' := e'
          cases e2
          have HNw : Hid (∀ W', Below w4.heap.size w4 W' → ∀ j u, (intV l)[j]? = some u → W'.cell? ((⟨g', 0, none⟩ : Addr).add j) = some u) := fun W' hb => by
            obtain ⟨A3, c3', e3, -, hs3⟩ := rowI_form (v := .slice (some ⟨g', 0, none⟩) l.length c') (l := l) ((HWc.out.to hb).row)
            have : A3 = some ⟨g', 0, none⟩ := by injection e3 with h _ _; exact h.symm
            subst this
            exact slI_news hs3
          go_region_law (first | (refine step_append_lies _ (by rfl) _ _ _ (by rfl) w4.drew.heap.size 3 i0 _ 1 8 Tryz.underlying22 hi hz0 hz1 hz2 rfl (by omega) _ (heldAt s.hooks (1 - i.bed) i.to_).length (intV (heldAt s.hooks (1 - i.bed) i.to_)) (by rfl) ho5 ⟨g', 0, none⟩ l.length c' (intV l) (by rfl) (by rw [intV_len, Nat.mul_one]) (HNw.out _ hbw5) (intV_one' l) hlp (by unfold maxLen; omega) (by omega) hb5.size _ rfl ?_; intro g cap w2 hown hgrow hat hlt; have HO := Lib.hid hown; have HG := Lib.hid hgrow; have HA := Lib.hid hat; clear hown hgrow hat) | (go_simp; go_at_call 116; refine (HH.out w4.drew (Below.drew (Below.refl _ _))).mono ?_; rintro e w5 ⟨A5, c5, rfl, hrow5, hb5⟩; have ho5 : w5.ownsRow w4.drew.heap.size 3 1 (.slice A5 (heldAt s.hooks (1 - i.bed) i.to_).length c5) (heldAt s.hooks (1 - i.bed) i.to_).length (intV (heldAt s.hooks (1 - i.bed) i.to_)) := hrow5; have hbw5 : Below w4.heap.size w4 w5 := (Below.drew (Below.refl _ _)).trans (hb5.mono (Nat.le_refl _))))
          all_goals
            have hR : Hid ((rowI (.slice (some ⟨g, 0, none⟩) ((heldAt s.hooks (1 - i.bed) i.to_).length + l.length) cap) (heldAt s.hooks (1 - i.bed) i.to_ ++ l)).lies w2 w4.heap.size) := by
              show World.ownsRow _ _ _ _ _ _ _
              unfold rowI
              simp only []
              rw [List.length_append, intV_app]
              exact HO.out
            have hB2 : Hid (Below w4.heap.size w4 w2) := hbw5.trans (Below.of_grown HG.out hb5.size (fun k hk => (World.ownsRow.lt ho5 k hk).1))
            clear HO HG HA ho5 hbw5 hb5 hrow5
            go_wp2_with fail
            go_meet
            exact ⟨_, rfl, hR.out, hB2.out⟩
      case rest =>
        obtain ⟨v8, rfl, HR8, HB8⟩ := hcut
        obtain ⟨ls, hls⟩ : ∃ ls, ls = heldAt s.hooks (1 - i.bed) i.to_ ++ l := ⟨_, rfl⟩
        rw [← hls] at HR8
        have HLs : Hid (acrossS s i l = if 6 < ls.length then none else some { s with hooks := putAt s.hooks (1 - i.bed) i.to_ ls }) := by
          show acrossS s i l = _
          rw [HF.out]; unfold layS; rw [← hls]
        obtain ⟨A8, c8, rfl, -, -⟩ := rowI_form HR8.out
        have HWr := Lib.hid (HWc.out.add HB8.out HR8.out)
        have HM4 := Lib.hid (HM2.out.to HB8.out)
        have HB9 := Lib.hid (HBw.out.trans (HB8.out.mono HBw.out.size))
        clear hls c0 c1 c2 c3 x0 x1 x2 x3 x4 x5 x6 HWc HM2 HB8 HR8 HBw HH
        by_cases h6 : 6 < ls.length
        · have e6 : decide (6 < ls.length) = true := decide_eq_true h6
          have e6' : decide (6 < (ls.length : Int)) = true := decide_eq_true (by omega)
          have HN : Hid (acrossS s i l = none) := by show acrossS s i l = none; rw [HLs.out, if_pos h6]
          clear h6 HLs HWr
          go_wp2
          go_ret
          rw [HN.out]
          exact ⟨rfl, HB9.out.mono hBw⟩
        · have e6 : decide (6 < ls.length) = false := decide_eq_false h6
          have e6' : decide (6 < (ls.length : Int)) = false := decide_eq_false (by omega)
          have HN : Hid (acrossS s i l = some { s with hooks := putAt s.hooks (1 - i.bed) i.to_ ls }) := by show acrossS s i l = _; rw [HLs.out, if_neg h6]
          obtain ⟨c0, c1, c2, c3⟩ := HM4.out.st
          obtain ⟨x0, x1, x2, x3, x4, x5, x6⟩ := HM4.out.ins
          have hfr := HWr.out.cells.2.2.2.2
          have hpl := HWr.out.base.2
          have HPu : Hid (Calls Tryz.prog 115 #[.agg #[.int .i64 s.rack, .slice p.ah s.hooks.length p.ch, .slice p.af s.feeds.length p.cf, .slice p.am s.made.length p.cm], .int .u8 (1 - i.bed), .int .i64 i.to_, .slice A8 ls.length c8] wc.drew fun e w' => putOut s.rack (putV (1 - i.bed) i.to_ ls (.slice A8 ls.length c8) hv) (.slice p.af s.feeds.length p.cf) (.slice p.am s.made.length p.cm) wc.drew e w') := by
            have hlen := HWr.out.hlen
            rw [← hlen]
            have hWd := HWr.out.to (Below.drew (Below.refl _ _))
            refine rput_any s.rack (1 - i.bed) i.to_ ls A8 c8 hv p.ah p.ch _ _ _ _ _ _ (monoV HWr.out.hooks HKs.out.seek.ris _ _) (by have := HKs.out.seek.1; omega) (fun q hq => ?_) _ ?_
            · obtain ⟨A2, c2, e2, -, -⟩ := rowI_form (v := q.2) (l := q.1.loops) (HWr.out.rl hq)
              exact ⟨A2, c2, e2⟩
            · refine SlS.of_own (zs := hv.map hookCells) (e := 92) cells3h (by rw [List.length_map]) (n := hv.length) (c := p.ch) (B := B) ?_
              have := hWd.rh
              unfold rowH Own.lies at this
              rw [← hlen] at this
              exact this
          clear h6 HLs
          go_upto_region 7 with fail
          go_region_law (go_simp; go_at_call 115; refine HPu.out.mono ?_; rintro e w7 ⟨A9, c9, rfl, hrow, hb7⟩; have d0 := (bcell hb7 hpl 0).trans c0; have d1 := (bcell hb7 hpl 1).trans c1; have d2 := (bcell hb7 hpl 2).trans c2; have d3 := (bcell hb7 hpl 3).trans c3; have df : ∀ k, w7.frozen? ⟨pb, k, none⟩ = false := fun k => (Below.frozen hb7 (p := ⟨pb, k, none⟩) hpl).trans (hfr k))
          all_goals
            have HS := Lib.hid (put_store HKs.out.seek.ris (HWr.out.to (Below.drew (Below.refl _ _))) hb7 hrow)
            have HBe := Lib.hid ((((((HB9.out.mono hBw).trans ((Below.drew (Below.refl _ _)).trans (hb7.mono (Nat.le_trans hBw HB9.out.size)))).setCell (p := ⟨pb, 0, none⟩) HWr.out.base.1 (.int .i64 s.rack)).setCell (p := ⟨pb, 1, none⟩) HWr.out.base.1 (.slice A9 (putV (1 - i.bed) i.to_ ls (.slice A8 ls.length c8) hv).length c9)).setCell (p := ⟨pb, 2, none⟩) HWr.out.base.1 (.slice p.af s.feeds.length p.cf)).setCell (p := ⟨pb, 3, none⟩) HWr.out.base.1 (.slice p.am s.made.length p.cm))
            clear d0 d1 d2 d3 df hrow hb7 hfr HPu
            go_wp2
            go_ret
            rw [HN.out]
            exact ⟨rfl, ⟨_, _, _, _, _, HS.out⟩, HBe.out⟩
end Go.Proofs.YthedmiilkeclaaaGreat
