/- Layer 30: column, loop. -/
import Derived.Test.YtflpikickbellaaGreatKQ31
import Derived.BigRegion
namespace Go.Proofs.YtflpikickbellaaGreat
open Go.RowKit Go.Shelf Go.Sort
set_option maxRecDepth 100000

theorem column_any (pb : Nat) (r b n : Int) (hr : -8 ≤ r ∧ r ≤ 8) (hb : 0 ≤ b ∧ b ≤ 1) (hn : needleP n) (w : World) (hc : w.cell? ⟨pb, 0, none⟩ = some (.int .i64 r)) :
    Calls Tryz.prog 142 #[.pointer (some ⟨pb, 0, none⟩), .int .u8 b, .int .i64 n] w fun e w' => e = .returned (.int .i64 (colI r b n)) ∧ w = w' := by
  unfold needleP at hn
  have hb2 : b = 0 ∨ b = 1 := by omega
  unfold colI
  rcases hb2 with rfl | rfl
  · go_enter Tryz.func142, Tryz.ntmps142
    go_wp2
    go_ret
    exact ⟨ret_int (by omega), rfl⟩
  · go_enter Tryz.func142, Tryz.ntmps142
    go_wp2
    go_ret
    exact ⟨ret_int (by omega), rfl⟩
theorem info_made' : (Tryz.prog.info? 66).map (fun i => (i.zero, i.size, i.bytes)) = some (some (.agg #[.slice none 0 0, .int .u8 0, .int .i64 0, .int .i64 0]), 4, 48) := by kernel_rfl
/-- What loop ends in. -/
def loopOut (B pb : Nat) (s : BedS) (i : Ins) (ps : List Int) (X : List Own) (w : World) (e : Ending) (w' : World) : Prop :=
  if s.made.length = 4000 then e = stopE 4 ∧ Owns w' B X ∧ Below B w w' else e = .returned (.int .i64 (s.made.length : Int)) ∧ WorkX 90 w' B pb (loopS s i ps) X ∧ Below B w w'
theorem loopOut.stop {B pb : Nat} {s : BedS} {i : Ins} {ps : List Int} {X : List Own} {w w' : World} (h : s.made.length = 4000) (ho : Owns w' B X) (hb : Below B w w') : loopOut B pb s i ps X w (stopE 4) w' := by
  unfold loopOut; rw [if_pos h]; exact ⟨rfl, ho, hb⟩
theorem loopOut.go {B pb : Nat} {s : BedS} {i : Ins} {ps : List Int} {X : List Own} {w w' : World} (h : ¬ s.made.length = 4000) {x : Int} (hx : x = (s.made.length : Int)) (hw : WorkX 90 w' B pb (loopS s i ps) X) (hb : Below B w w') : loopOut B pb s i ps X w (.returned (.int .i64 x)) w' := by
  unfold loopOut; rw [if_neg h]; exact ⟨by rw [hx], hw, hb⟩
theorem loop_close {B pb : Nat} {s : BedS} {i : Ins} {ps : List Int} {X : List Own} {w w0 w2 : World} {hv : List (Hk × Value)} {mv : List (Mk × Value)} {vh vf : Value} {A A' : Option Addr} {c c' g cap : Nat} {o : Obj}
    (hw : WorkAt 90 w0 B pb s hv mv vh vf (.slice A s.made.length c) (rowI (.slice A' ps.length c') ps :: X))
    (hl : ∀ o, WorkAt 90 (w0.drew.alloc o) B pb s hv mv vh vf (.slice A s.made.length c) (rowI (.slice A' ps.length c') ps :: X))
    (hz : w0.heap.size = w.heap.size + 1) (hal : Below B w w0)
    (ho : w2.ownsRow B 66 4 (.slice (some ⟨g, 0, none⟩) (s.made.length + 1) cap) (s.made.length + 1) ((mv.map makeCells).flatten ++ [.slice A' ps.length c', .int .u8 i.bed, .int .i64 i.at_, .int .i64 i.car]))
    (hg : (w0.drew.alloc o).grownBy w2 (Value.slice A s.made.length c).ownBlock) (ha : (Value.slice A s.made.length c).ownBlock = some g ∨ g = w.heap.size + 2) (hB : B ≤ w.heap.size) :
    WorkX 90 (w2.setCell ⟨pb, 3, none⟩ (.slice (some ⟨g, 0, none⟩) (s.made.length + 1) cap)) B pb (loopS s i ps) X ∧ Below B w (w2.setCell ⟨pb, 3, none⟩ (.slice (some ⟨g, 0, none⟩) (s.made.length + 1) cap)) := by
  have hml := hw.mlen
  have e1 : ((mv ++ [((⟨ps, i.bed, i.at_, i.car⟩ : Mk), Value.slice A' ps.length c')]).map makeCells).flatten = (mv.map makeCells).flatten ++ [.slice A' ps.length c', .int .u8 i.bed, .int .i64 i.at_, .int .i64 i.car] := by simp [makeCells]
  refine ⟨⟨hv, mv ++ [(⟨ps, i.bed, i.at_, i.car⟩, .slice A' ps.length c')], vh, vf, _, (hl o).setMade hg ?_ (fun k hk => ?_) ?_ ?_⟩, ?_⟩
  · unfold rowM Own.lies
    rw [show (mv ++ [((⟨ps, i.bed, i.at_, i.car⟩ : Mk), Value.slice A' ps.length c')]).length = s.made.length + 1 by rw [List.length_append, hml]; rfl, e1]
    exact ho
  · obtain rfl : g = k := Option.some.inj hk
    rcases ha with h | h
    · exact Or.inl h
    · refine Or.inr ?_
      have e : (w0.drew.alloc o).heap.size = w0.heap.size + 1 := by simp
      rw [e]; omega
  · rw [List.map_append, hw.made]; rfl
  · rw [List.map_append, List.append_assoc]
    exact List.Perm.append_left _ (List.Perm.refl _)
  · have b1 : Below B w (w0.drew.alloc o) := (hal.drew).alloc (by show B ≤ w0.heap.size; omega) o
    have b2 := b1.trans (Below.of_grown hg (by simp; omega) (fun k hk => (World.ownsRow.lt (hl o).rm k hk).1))
    exact b2.setCell (p := ⟨pb, 3, none⟩) hw.base.1 _
set_option maxHeartbeats 4000000 in
theorem loop_any (B pb : Nat) (s : BedS) (i : Ins) (v : Value) (ps : List Int) (X : List Own) (hn : s.made.length ≤ 9000) (w : World) (hBw : B ≤ w.heap.size) (hw : WorkX 90 w B pb s (rowI v ps :: X)) :
    Calls Tryz.prog 103 #[.pointer (some ⟨pb, 0, none⟩), i.val, v] w fun e w' => loopOut B pb s i ps X w e w' := by
  obtain ⟨hv, mv, vh, vf, vm, hw⟩ := hw
  obtain ⟨A, c, rfl, hlc, -⟩ := hw.slm
  obtain ⟨A', c', rfl, -, -⟩ := rowI_form hw.row
  unfold Ins.val
  have HAl := Lib.hid ((Below.refl B w).alloc hBw (.cells #[.int .u8 i.op, .bool i.right, .int .u8 i.bed, .int .i64 i.at_, .int .i64 i.to_, .int .i64 i.car, .int .i64 i.rack] 63))
  have HW := Lib.hid (hw.to ((Below.refl _ w).alloc (Nat.le_refl _) (.cells #[.int .u8 i.op, .bool i.right, .int .u8 i.bed, .int .i64 i.at_, .int .i64 i.to_, .int .i64 i.car, .int .i64 i.rack] 63)))
  have HBx : Hid (∀ W, Below (w.heap.size + 1) (w.alloc (.cells #[.int .u8 i.op, .bool i.right, .int .u8 i.bed, .int .i64 i.at_, .int .i64 i.to_, .int .i64 i.car, .int .i64 i.rack] 63)) W → W.cell? ⟨w.heap.size, 2, none⟩ = some (.int .u8 i.bed) ∧ W.cell? ⟨w.heap.size, 3, none⟩ = some (.int .i64 i.at_) ∧ W.cell? ⟨w.heap.size, 5, none⟩ = some (.int .i64 i.car)) := fun W hb =>
    ⟨(bcell hb (by omega) _).trans (cell_new rfl rfl rfl), (bcell hb (by omega) _).trans (cell_new rfl rfl rfl), (bcell hb (by omega) _).trans (cell_new rfl rfl rfl)⟩
  clear hw
  go_enter Tryz.func103, Tryz.ntmps103
  go_upto_region 1 with fail
  obtain ⟨w0, hw0⟩ : ∃ w0, w0 = w.alloc (.cells #[.int .u8 i.op, .bool i.right, .int .u8 i.bed, .int .i64 i.at_, .int .i64 i.to_, .int .i64 i.car, .int .i64 i.rack] 63) := ⟨_, rfl⟩
  have hz0 : w0.heap.size = w.heap.size + 1 := by rw [hw0]; simp
  rw [← hw0] at HAl HW HBx ⊢
  clear hw0
  obtain ⟨-, -, -, c3, c4⟩ := HW.out.cells
  have c4' := c4 3
  clear c4
  by_cases hm : s.made.length = 4000
  · have hmb : ((s.made.length : Int) == 4000) = true := by simp; omega
    have HM := Lib.hid hm
    clear hm
    go_wp2
    exact ⟨rfl, loopOut.stop HM.out (WorkX.owns ⟨hv, mv, vh, vf, _, HW.out.less⟩) HAl.out⟩
  · have hmb : ((s.made.length : Int) == 4000) = false := beq_eq_false_iff_ne.2 (by omega)
    have HM := Lib.hid hm
    obtain ⟨i0, hi, hz0', hz1, hz2⟩ := info_parts info_made'
    obtain ⟨x2, x3, x5⟩ := HBx.out w0 (Below.refl _ _)
    clear hm
    go_upto_region 3 with fail
    go_cut [31] (fun s31 wr => ∃ v31, v31 = s31 ∧ Hid (WorkX 90 wr B pb (loopS s i ps) X) ∧ Hid (Below B w wr))
    case first =>
      have hown : w0.drew.ownsRow B 66 4 (.slice A s.made.length c) s.made.length (mv.map makeCells).flatten := by
        have := HW.out.rm
        unfold rowM Own.lies at this
        rw [HW.out.mlen] at this
        exact this
      have hpl : pb < w0.heap.size := HW.out.base.2
      have HOw := Lib.hid hown
      clear hown
      have x2' : w0.drew.cell? ⟨w.heap.size, 2, none⟩ = some (.int .u8 i.bed) := x2
      have x3' : w0.drew.cell? ⟨w.heap.size, 3, none⟩ = some (.int .i64 i.at_) := x3
      have x5' : w0.drew.cell? ⟨w.heap.size, 5, none⟩ = some (.int .i64 i.car) := x5
      have c3' : w0.drew.cell? ⟨pb, 3, none⟩ = some (.slice A s.made.length c) := c3
      have HWl : Hid (∀ o, WorkAt 90 (w0.drew.alloc o) B pb s hv mv vh vf (.slice A s.made.length c) (rowI (.slice A' ps.length c') ps :: X)) := fun o => HW.out.to ((Below.drew (Below.refl _ _)).alloc (Nat.le_refl _) _)
      have hpM := Lib.hid HW.out.pbM
      have hBz : B ≤ (w0.drew.alloc (.cells #[.slice A' ps.length c', .int .u8 i.bed, .int .i64 i.at_, .int .i64 i.car] 66)).heap.size := by have := HW.out.base; simp; omega
      have HZ : Hid (w.heap.size + 1 = w0.drew.heap.size) := hz0.symm
      have c3a := cell_al c3 (.cells #[.slice A' ps.length c', .int .u8 i.bed, .int .i64 i.at_, .int .i64 i.car] 66)
      go_region_law (refine step_append_lies _ (by rfl) _ _ _ (by rfl) B 66 i0 _ 4 48 Tryz.underlying37 hi hz0' hz1 hz2 rfl (by omega) _ s.made.length (mv.map makeCells).flatten (by rfl) (HOw.out.alloc _) ⟨w.heap.size + 1, 0, none⟩ 1 1 [.slice A' ps.length c', .int .u8 i.bed, .int .i64 i.at_, .int .i64 i.car] (by rfl) rfl (newsT w0.drew _ _ _ HZ.out) (by intro u hu; simp only [List.mem_cons, List.not_mem_nil, or_false] at hu; rcases hu with rfl | rfl | rfl | rfl <;> rfl) (by omega) (by unfold maxLen; omega) (by omega) hBz (w.heap.size + 2) (by simp [hz0]) ?_; intro g cap w2 hown hgrow hat hlt; obtain ⟨-, -, -, d3, d4⟩ := (HWl.out _).struct hgrow hpM.out; have d4' := d4 3; clear d4; have HO := Lib.hid hown; have HG := Lib.hid hgrow; have HA := Lib.hid hat; clear hown hgrow hat)
      all_goals
        have HF : Hid (WorkX 90 (w2.setCell ⟨pb, 3, none⟩ (.slice (some ⟨g, 0, none⟩) (s.made.length + 1) cap)) B pb (loopS s i ps) X ∧ Below B w (w2.setCell ⟨pb, 3, none⟩ (.slice (some ⟨g, 0, none⟩) (s.made.length + 1) cap))) := loop_close HW.out HWl.out hz0 HAl.out HO.out HG.out HA.out hBw
        clear HO HG HA d3 d4'
        go_wp2_with fail
        go_meet
        exact ⟨_, rfl, HF.out.1, HF.out.2⟩
    case rest =>
      obtain ⟨v31, rfl, HW2, HB2⟩ := hcut
      obtain ⟨hv2, mv2, vh2, vf2, vm2, hw2⟩ := HW2.out
      obtain ⟨A3, c3', rfl, -, -⟩ := hw2.slm
      have d3 := hw2.cells.2.2.2.1
      have hlen : (loopS s i ps).made.length = s.made.length + 1 := by unfold loopS; simp
      rw [hlen] at d3
      clear hw2 hlen c3 c4' x2 x3 x5
      go_wp2
      go_ret
      exact loopOut.go HM.out (by omega) HW2.out HB2.out
end Go.Proofs.YtflpikickbellaaGreat
