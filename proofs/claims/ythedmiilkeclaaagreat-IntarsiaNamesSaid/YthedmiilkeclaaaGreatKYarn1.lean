/- Layer 30: yarn, where a carrier passes a needle or lays a loop into it. -/
import Derived.Test.YthedmiilkeclaaaGreatKPm
namespace Go.Proofs.YthedmiilkeclaaaGreat
open Go.RowKit Go.Shelf Go.Sort
set_option maxRecDepth 100000

/-- A step, as what an instruction ends in where it cannot be done. -/
theorem step_cases {B pb : Nat} {r : Option BedS} {X : List Own} {w w' : World} {e : Ending} (h : stepOut B pb r X w e w') : (r = none ∧ e = stopE 36 ∧ Owns w' B X ∧ Below B w w') ∨ ∃ t, r = some t ∧ e = .returned (.tuple #[]) ∧ WorkX 82 w' B pb t X ∧ Below B w w' := by
  unfold stepOut at h
  cases r with
  | none => exact Or.inl ⟨rfl, h⟩
  | some t => exact Or.inr ⟨t, rfl, h⟩
theorem loop_cases {B pb : Nat} {s : BedS} {i : Ins} {ps : List Int} {X : List Own} {w w' : World} {e : Ending} (h : loopOut B pb s i ps X w e w') : (s.made.length = 4000 ∧ e = stopE 4 ∧ Owns w' B X ∧ Below B w w') ∨ (s.made.length ≠ 4000 ∧ e = .returned (.int .i64 (s.made.length : Int)) ∧ WorkX 82 w' B pb (loopS s i ps) X ∧ Below B w w') := by
  unfold loopOut at h
  split at h
  · rename_i h1; exact Or.inl ⟨h1, h⟩
  · rename_i h1; exact Or.inr ⟨h1, h⟩
theorem lay_made {s t : BedS} {b n : Int} {l : List Int} (h : layS s b n l = some t) : t.made = s.made := by rw [lay_same h]
set_option maxHeartbeats 4000000 in
theorem yarn1_any (B pb : Nat) (s : BedS) (i : Ins) (X : List Own) (hk : StOk s) (hf : FdOk s) (hop : i.op = 4 ∨ i.op = 5) (hbd : 0 ≤ i.bed ∧ i.bed ≤ 1) (ha : needleP i.at_) (hc : carP i.car) (w : World) (hBw : B ≤ w.heap.size) (hw : WorkX 82 w B pb s X) :
    Calls Tryz.prog 61 #[.pointer (some ⟨pb, 0, none⟩), i.val] w fun e w' => endOut B pb (yarnS s i) X w e w' := by
  have hw1 : WorkX 82 (w.alloc (insBox i)) B pb s (rowX w.heap.size i :: X) := hw.add ((Below.refl _ w).alloc (Nat.le_refl _) (insBox i)) (rowX_new w i)
  have hal := (Below.refl B w).alloc hBw (insBox i)
  have HPa := Lib.hid (pass_any B pb s i (rowX w.heap.size i :: X) hk hf hbd ha hc (w.alloc (insBox i)) (by simp; omega) hw1)
  have HK := Lib.hid hk
  have HAl := Lib.hid hal
  have HN := Lib.hid (show _ ∧ _ from ⟨hbd, ha⟩)
  obtain ⟨x0, x1, x2, x3, x4, x5, x6⟩ := rowX_at (B := B) (hw1.row List.mem_cons_self)
  unfold Ins.val at HPa ⊢
  clear hw hw1 hk hf ha hc hal hbd
  go_enter Tryz.func61, Tryz.ntmps61
  go_wp2_with fail
  refine HPa.out.mono ?_
  intro e w1 h1
  rcases step_cases h1 with ⟨hp, rfl, ho1, hb1⟩ | ⟨t, hp, rfl, hwt, hb1⟩
  · have HE : Hid (yarnS s i = (bed0, 36)) := by unfold Hid yarnS; rw [hp]
    have HR := Lib.hid (endOut.stop (pb := pb) (X := X) HE.out (by decide) ho1.tail (HAl.out.trans hb1))
    unfold stopE stopV at HR ⊢
    clear h1 hp ho1 hb1 HE
    go_wp2
    exact ⟨rfl, HR.out⟩
  · have HB1 := Lib.hid (HAl.out.trans hb1)
    have HW1 := Lib.hid hwt
    have HP := Lib.hid hp
    have HKt := Lib.hid (HK.out.pass hp)
    have hbz := hb1.size
    obtain ⟨y0, y1, y2, y3, y4, y5, y6⟩ := rowX_at (B := B) (hwt.row List.mem_cons_self)
    clear h1 hp hb1 hwt HPa HK x0 x1 x2 x3 x4 x5 x6
    rcases hop with hop | hop
    · have b4 : (i.op == 4) = true := by simp [hop]
      have HY : Hid (yarnS s i = match layS t i.bed i.at_ [(t.made.length : Int)] with | none => (bed0, 36) | some u => if t.made.length = 4000 then (bed0, 4) else (loopS u i [], 0)) := by
        unfold Hid yarnS
        rw [HP.out]
        simp only []
        rw [if_neg (by omega), if_pos hop]
        cases layS t i.bed i.at_ [(t.made.length : Int)] <;> rfl
      have hcs : w1.cell? ⟨pb, 3, none⟩ = w1.cell? ⟨pb, 3, none⟩ := rfl
      obtain ⟨A, c, c3, hpl⟩ : ∃ A c, w1.cell? ⟨pb, 3, none⟩ = some (.slice A t.made.length c) ∧ pb < w1.heap.size := by
        obtain ⟨hv, mv, vh, vf, vm, hwa⟩ := HW1.out
        obtain ⟨A, c, rfl, -, -⟩ := hwa.slm
        exact ⟨A, c, hwa.cells.2.2.2.1, hwa.base.2⟩
      have hbx : w.heap.size < w1.heap.size := lt_of_cell y0
      have hml : t.made.length ≤ 9000 := HKt.out.made
      have HLy : Hid (Calls Tryz.prog 74 #[.pointer (some ⟨pb, 0, none⟩), .int .u8 i.bed, .int .i64 i.at_, .slice (some ⟨w1.heap.size, 0, none⟩) 1 1] (w1.drew.alloc (.cells #[.int .i64 (t.made.length : Int)] 3)) fun e w' => stepOut B pb (layS t i.bed i.at_ [(t.made.length : Int)]) (rowI (.slice (some ⟨w1.heap.size, 0, none⟩) 1 1) [(t.made.length : Int)] :: rowX w.heap.size i :: X) (w1.drew.alloc (.cells #[.int .i64 (t.made.length : Int)] 3)) e w') := by
        refine lay_any B pb t (rowX w.heap.size i :: X) _ _ HKt.out.seek HKt.out.loops (by simp) i.bed i.at_ HN.out.1 HN.out.2 _ (by have := HB1.out.size; show B ≤ (w1.alloc _).heap.size; simp; omega) ?_
        exact HW1.out.add (o := rowI (.slice (some ⟨w1.heap.size, 0, none⟩) 1 1) [(t.made.length : Int)]) ((Below.drew (Below.refl _ w1)).alloc (Nat.le_refl _) _) (World.ownsRow_lit w1.drew #[.int .i64 (t.made.length : Int)] 1 (Nat.le_refl _) (by decide) rfl)
      have hBal : Below B w (w1.drew.alloc (.cells #[.int .i64 (t.made.length : Int)] 3)) := (HB1.out.drew).alloc (by show B ≤ w1.heap.size; have := HB1.out.size; omega) _
      have HD : Hid (∀ e w', stepOut B pb (layS t i.bed i.at_ [(t.made.length : Int)]) (rowI (.slice (some ⟨w1.heap.size, 0, none⟩) 1 1) [(t.made.length : Int)] :: rowX w.heap.size i :: X) (w1.drew.alloc (.cells #[.int .i64 (t.made.length : Int)] 3)) e w' →
          (e = stopE 36 ∧ endOut B pb (yarnS s i) X w e w') ∨ (e = .returned (.tuple #[]) ∧ Hid (∃ u, layS t i.bed i.at_ [(t.made.length : Int)] = some u ∧ WorkX 82 w' B pb u (rowX w.heap.size i :: X)) ∧ Hid (Below B w w'))) := fun e w' h => by
        rcases step_cases h with ⟨hl, rfl, ho, hb⟩ | ⟨u, hl, rfl, hwu, hb⟩
        · refine Or.inl ⟨rfl, endOut.stop ?_ (by decide) ho.tail.tail (hBal.trans hb)⟩
          rw [HY.out, hl]
        · exact Or.inr ⟨rfl, ⟨u, hl, hwu.less⟩, hBal.trans hb⟩
      clear hop hcs HP
      go_upto_region 4 with fail
      go_cut [24] (fun s24 wr => ∃ v24, v24 = s24 ∧ Hid (∃ u, layS t i.bed i.at_ [(t.made.length : Int)] = some u ∧ WorkX 82 wr B pb u (rowX w.heap.size i :: X)) ∧ Hid (Below B w wr))
      case first =>
        have y2d : w1.drew.cell? ⟨w.heap.size, 2, none⟩ = some (.int .u8 i.bed) := y2
        have y3d : w1.drew.cell? ⟨w.heap.size, 3, none⟩ = some (.int .i64 i.at_) := y3
        have c3d : w1.drew.cell? ⟨pb, 3, none⟩ = some (.slice A t.made.length c) := c3
        have y2a := cell_al y2 (.cells #[.int .i64 (t.made.length : Int)] 3)
        have y3a := cell_al y3 (.cells #[.int .i64 (t.made.length : Int)] 3)
        go_region_with (first | (go_at_call 74; refine HLy.out.mono ?_; intro e w2 h2; rcases HD.out e w2 h2 with ⟨rfl, ho⟩ | ⟨rfl, hu, hbu⟩; exact ⟨rfl, ho⟩))
        all_goals
          go_wp2_with fail
          go_meet
          exact ⟨_, rfl, hu, hbu⟩
      case rest =>
        obtain ⟨v24, rfl, HU, HBu⟩ := hcut
        obtain ⟨u, hl, hwu⟩ := HU.out
        obtain ⟨z0, z1, z2, z3, z4, z5, z6⟩ := rowX_at (B := B) (hwu.row List.mem_cons_self)
        have hum := lay_made hl
        have HLo := Lib.hid (loop_any B pb u i (.slice none 0 0) [] (rowX w.heap.size i :: X) (by rw [hum]; exact hml) wc (by have := HBu.out.size; omega) hwu.addNil)
        have HY2 : Hid (yarnS s i = if t.made.length = 4000 then (bed0, 4) else (loopS u i [], 0)) := by rw [Hid, HY.out, hl]
        unfold Ins.val at HLo
        have HM := Lib.hid hum
        clear HU hl hwu HY hum HLy HD y0 y1 y2 y3 y4 y5 y6 c3 hBal
        go_wp2_with fail
        refine HLo.out.mono ?_
        intro e w2 h2
        rcases loop_cases h2 with ⟨hm, rfl, ho2, hb⟩ | ⟨hm, rfl, hw2, hb⟩
        · have HR := Lib.hid (endOut.stop (pb := pb) (X := X) (w := w) (HY2.out.trans (by rw [← HM.out, if_pos hm])) (by decide) ho2.tail (HBu.out.trans hb))
          unfold stopE stopV at HR ⊢
          clear h2 hm ho2 hb
          go_wp2
          exact ⟨rfl, HR.out⟩
        · have HR := Lib.hid (endOut.go (w := w) (HY2.out.trans (by rw [← HM.out, if_neg hm])) hw2.less (HBu.out.trans hb))
          clear h2 hm hb hw2
          go_wp2
          refine bodyPost_end (results_none rfl _ _ _) rfl ?_
          exact HR.out
    · have b4 : (i.op == 4) = false := beq_eq_false_iff_ne.2 (by omega)
      have b3 : (i.op == 3) = false := beq_eq_false_iff_ne.2 (by omega)
      have b6 : (i.op == 6) = false := beq_eq_false_iff_ne.2 (by omega)
      have HY : Hid (yarnS s i = (t, 0)) := by
        unfold Hid yarnS
        rw [HP.out]
        simp only []
        rw [if_pos hop]
      have HR := Lib.hid (endOut.go HY.out HW1.out.less HB1.out)
      clear hop
      go_wp2
      refine bodyPost_end (results_none rfl _ _ _) rfl ?_
      exact HR.out
end Go.Proofs.YthedmiilkeclaaaGreat
