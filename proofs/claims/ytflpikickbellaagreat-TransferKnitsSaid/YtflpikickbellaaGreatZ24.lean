/- Layer 30. -/
import Derived.Test.YtflpikickbellaaGreatZ23
import Derived.BigRegion
namespace Go.Proofs.YtflpikickbellaaGreat
open Go.RowKit Go.Shelf Go.Sort
set_option maxRecDepth 100000
theorem column_any (pb : Nat) (r b n : Int) (hr : -8 ≤ r ∧ r ≤ 8) (hb : 0 ≤ b ∧ b ≤ 1) (hn : needleP n) (w : World) (hc : w.cell? ⟨pb, 0, none⟩ = some (.int .i64 r)) :
 Calls Tryz.prog 142 #[.pointer (some ⟨pb, 0, none⟩), .int .u8 b, .int .i64 n] w fun e w' => e = .returned (.int .i64 (colI r b n)) ∧ w = w' := by
 unfold needleP at hn
 have hb2 : b = 0 ∨ b = 1 := by omega
 unfold colI
 rcases hb2 with rfl | rfl
 · go_enter Tryz.func142, Tryz.ntmps142
   go_wp2
   go_ret
   exact ⟨ret_int (by omega), rfl⟩
 · go_enter Tryz.func142, Tryz.ntmps142
   go_wp2
   go_ret
   exact ⟨ret_int (by omega), rfl⟩
theorem info_made' : (Tryz.prog.info? 66).map (fun i => (i.zero, i.size, i.bytes)) = some (some (.agg #[.slice none 0 0, .int .u8 0, .int .i64 0, .int .i64 0]), 4, 48) := by kernel_rfl
def loopOut (B pb : Nat) (s : BedS) (i : Ins) (ps : List Int) (X : List Own) (w : World) (e : Ending) (w' : World) : Prop :=
 if s.made.length = 4000 then e = stopE 4 ∧ Owns w' B X ∧ Below B w w' else e = .returned (.int .i64 (s.made.length : Int)) ∧ WorkX 90 w' B pb (loopS s i ps) X ∧ Below B w w'
theorem loopOut.stop {B pb : Nat} {s : BedS} {i : Ins} {ps : List Int} {X : List Own} {w w' : World} (h : s.made.length = 4000) (ho : Owns w' B X) (hb : Below B w w') : loopOut B pb s i ps X w (stopE 4) w' := by
 unfold loopOut; rw [if_pos h]; exact ⟨rfl, ho, hb⟩
theorem loopOut.go {B pb : Nat} {s : BedS} {i : Ins} {ps : List Int} {X : List Own} {w w' : World} (h : ¬ s.made.length = 4000) {x : Int} (hx : x = (s.made.length : Int)) (hw : WorkX 90 w' B pb (loopS s i ps) X) (hb : Below B w w') : loopOut B pb s i ps X w (.returned (.int .i64 x)) w' := by
 unfold loopOut; rw [if_neg h]; exact ⟨by rw [hx], hw, hb⟩
theorem loop_close {B pb : Nat} {s : BedS} {i : Ins} {ps : List Int} {X : List Own} {w w0 w2 : World} {hv : List (Hk × Value)} {mv : List (Mk × Value)} {vh vf : Value} {A A' : Option Addr} {c c' g cap : Nat} {o : Obj}
 (hw : WorkAt 90 w0 B pb s hv mv vh vf (.slice A s.made.length c) (rowI (.slice A' ps.length c') ps :: X))
 (hl : ∀ o, WorkAt 90 (w0.drew.alloc o) B pb s hv mv vh vf (.slice A s.made.length c) (rowI (.slice A' ps.length c') ps :: X))
 (hz : w0.heap.size = w.heap.size + 1) (hal : Below B w w0)
 (ho : w2.ownsRow B 66 4 (.slice (some ⟨g, 0, none⟩) (s.made.length + 1) cap) (s.made.length + 1) ((mv.map makeCells).flatten ++ [.slice A' ps.length c', .int .u8 i.bed, .int .i64 i.at_, .int .i64 i.car]))
 (hg : (w0.drew.alloc o).grownBy w2 (Value.slice A s.made.length c).ownBlock) (ha : (Value.slice A s.made.length c).ownBlock = some g ∨ g = w.heap.size + 2) (hB : B ≤ w.heap.size) :
 WorkX 90 (w2.setCell ⟨pb, 3, none⟩ (.slice (some ⟨g, 0, none⟩) (s.made.length + 1) cap)) B pb (loopS s i ps) X ∧ Below B w (w2.setCell ⟨pb, 3, none⟩ (.slice (some ⟨g, 0, none⟩) (s.made.length + 1) cap)) := by
 have hml := hw.mlen
 have e1 : ((mv ++ [((⟨ps, i.bed, i.at_, i.car⟩ : Mk), Value.slice A' ps.length c')]).map makeCells).flatten = (mv.map makeCells).flatten ++ [.slice A' ps.length c', .int .u8 i.bed, .int .i64 i.at_, .int .i64 i.car] := by simp [makeCells]
 refine ⟨⟨hv, mv ++ [(⟨ps, i.bed, i.at_, i.car⟩, .slice A' ps.length c')], vh, vf, _, (hl o).setMade hg ?_ (fun k hk => ?_) ?_ ?_⟩, ?_⟩
 · unfold rowM Own.lies
   rw [show (mv ++ [((⟨ps, i.bed, i.at_, i.car⟩ : Mk), Value.slice A' ps.length c')]).length = s.made.length + 1 by rw [List.length_append, hml]; rfl, e1]
   exact ho
 · obtain rfl : g = k := Option.some.inj hk
   rcases ha with h | h
   · exact Or.inl h
   · refine Or.inr ?_
     have e : (w0.drew.alloc o).heap.size = w0.heap.size + 1 := by simp
     rw [e]; omega
 · rw [List.map_append, hw.made]; rfl
 · rw [List.map_append, List.append_assoc]
   exact List.Perm.append_left _ (List.Perm.refl _)
 · have b1 : Below B w (w0.drew.alloc o) := (hal.drew).alloc (by show B ≤ w0.heap.size; omega) o
   have b2 := b1.trans (Below.of_grown hg (by simp; omega) (fun k hk => (World.ownsRow.lt (hl o).rm k hk).1))
   exact b2.setCell (p := ⟨pb, 3, none⟩) hw.base.1 _
set_option maxHeartbeats 4000000 in
theorem loop_any (B pb : Nat) (s : BedS) (i : Ins) (v : Value) (ps : List Int) (X : List Own) (hn : s.made.length ≤ 9000) (w : World) (hBw : B ≤ w.heap.size) (hw : WorkX 90 w B pb s (rowI v ps :: X)) :
 Calls Tryz.prog 103 #[.pointer (some ⟨pb, 0, none⟩), i.val, v] w fun e w' => loopOut B pb s i ps X w e w' := by
 obtain ⟨hv, mv, vh, vf, vm, hw⟩ := hw
 obtain ⟨A, c, rfl, hlc, -⟩ := hw.slm
 obtain ⟨A', c', rfl, -, -⟩ := rowI_form hw.row
 unfold Ins.val
 have HAl := Lib.hid ((Below.refl B w).alloc hBw (.cells #[.int .u8 i.op, .bool i.right, .int .u8 i.bed, .int .i64 i.at_, .int .i64 i.to_, .int .i64 i.car, .int .i64 i.rack] 63))
 have HW := Lib.hid (hw.to ((Below.refl _ w).alloc (Nat.le_refl _) (.cells #[.int .u8 i.op, .bool i.right, .int .u8 i.bed, .int .i64 i.at_, .int .i64 i.to_, .int .i64 i.car, .int .i64 i.rack] 63)))
 have HBx : Hid (∀ W, Below (w.heap.size + 1) (w.alloc (.cells #[.int .u8 i.op, .bool i.right, .int .u8 i.bed, .int .i64 i.at_, .int .i64 i.to_, .int .i64 i.car, .int .i64 i.rack] 63)) W → W.cell? ⟨w.heap.size, 2, none⟩ = some (.int .u8 i.bed) ∧ W.cell? ⟨w.heap.size, 3, none⟩ = some (.int .i64 i.at_) ∧ W.cell? ⟨w.heap.size, 5, none⟩ = some (.int .i64 i.car)) := fun W hb =>
  ⟨(bcell hb (by omega) _).trans (cell_new rfl rfl rfl), (bcell hb (by omega) _).trans (cell_new rfl rfl rfl), (bcell hb (by omega) _).trans (cell_new rfl rfl rfl)⟩
 clear hw
 go_enter Tryz.func103, Tryz.ntmps103
 go_upto_region 1 with fail
 obtain ⟨w0, hw0⟩ : ∃ w0, w0 = w.alloc (.cells #[.int .u8 i.op, .bool i.right, .int .u8 i.bed, .int .i64 i.at_, .int .i64 i.to_, .int .i64 i.car, .int .i64 i.rack] 63) := ⟨_, rfl⟩
 have hz0 : w0.heap.size = w.heap.size + 1 := by rw [hw0]; simp
 rw [← hw0] at HAl HW HBx ⊢
 clear hw0
 obtain ⟨-, -, -, c3, c4⟩ := HW.out.cells
 have c4' := c4 3
 clear c4
 by_cases hm : s.made.length = 4000
 · have hmb : ((s.made.length : Int) == 4000) = true := by simp; omega
   have HM := Lib.hid hm
   clear hm
   go_wp2
   exact ⟨rfl, loopOut.stop HM.out (WorkX.owns ⟨hv, mv, vh, vf, _, HW.out.less⟩) HAl.out⟩
 · have hmb : ((s.made.length : Int) == 4000) = false := beq_eq_false_iff_ne.2 (by omega)
   have HM := Lib.hid hm
   obtain ⟨i0, hi, hz0', hz1, hz2⟩ := info_parts info_made'
   obtain ⟨x2, x3, x5⟩ := HBx.out w0 (Below.refl _ _)
   clear hm
   go_upto_region 3 with fail
   go_cut [31] (fun s31 wr => ∃ v31, v31 = s31 ∧ Hid (WorkX 90 wr B pb (loopS s i ps) X) ∧ Hid (Below B w wr))
   case first =>
    have hown : w0.drew.ownsRow B 66 4 (.slice A s.made.length c) s.made.length (mv.map makeCells).flatten := by
     have := HW.out.rm
     unfold rowM Own.lies at this
     rw [HW.out.mlen] at this
     exact this
    have hpl : pb < w0.heap.size := HW.out.base.2
    have HOw := Lib.hid hown
    clear hown
    have x2' : w0.drew.cell? ⟨w.heap.size, 2, none⟩ = some (.int .u8 i.bed) := x2
    have x3' : w0.drew.cell? ⟨w.heap.size, 3, none⟩ = some (.int .i64 i.at_) := x3
    have x5' : w0.drew.cell? ⟨w.heap.size, 5, none⟩ = some (.int .i64 i.car) := x5
    have c3' : w0.drew.cell? ⟨pb, 3, none⟩ = some (.slice A s.made.length c) := c3
    have HWl : Hid (∀ o, WorkAt 90 (w0.drew.alloc o) B pb s hv mv vh vf (.slice A s.made.length c) (rowI (.slice A' ps.length c') ps :: X)) := fun o => HW.out.to ((Below.drew (Below.refl _ _)).alloc (Nat.le_refl _) _)
    have hpM := Lib.hid HW.out.pbM
    have hBz : B ≤ (w0.drew.alloc (.cells #[.slice A' ps.length c', .int .u8 i.bed, .int .i64 i.at_, .int .i64 i.car] 66)).heap.size := by have := HW.out.base; simp; omega
    have HZ : Hid (w.heap.size + 1 = w0.drew.heap.size) := hz0.symm
    have c3a := cell_al c3 (.cells #[.slice A' ps.length c', .int .u8 i.bed, .int .i64 i.at_, .int .i64 i.car] 66)
    go_region_law (refine step_append_lies _ (by rfl) _ _ _ (by rfl) B 66 i0 _ 4 48 Tryz.underlying37 hi hz0' hz1 hz2 rfl (by omega) _ s.made.length (mv.map makeCells).flatten (by rfl) (HOw.out.alloc _) ⟨w.heap.size + 1, 0, none⟩ 1 1 [.slice A' ps.length c', .int .u8 i.bed, .int .i64 i.at_, .int .i64 i.car] (by rfl) rfl (newsT w0.drew _ _ _ HZ.out) (by intro u hu; simp only [List.mem_cons, List.not_mem_nil, or_false] at hu; rcases hu with rfl | rfl | rfl | rfl <;> rfl) (by omega) (by unfold maxLen; omega) (by omega) hBz (w.heap.size + 2) (by simp [hz0]) ?_; intro g cap w2 hown hgrow hat hlt; obtain ⟨-, -, -, d3, d4⟩ := (HWl.out _).struct hgrow hpM.out; have d4' := d4 3; clear d4; have HO := Lib.hid hown; have HG := Lib.hid hgrow; have HA := Lib.hid hat; clear hown hgrow hat)
    all_goals
     have HF : Hid (WorkX 90 (w2.setCell ⟨pb, 3, none⟩ (.slice (some ⟨g, 0, none⟩) (s.made.length + 1) cap)) B pb (loopS s i ps) X ∧ Below B w (w2.setCell ⟨pb, 3, none⟩ (.slice (some ⟨g, 0, none⟩) (s.made.length + 1) cap))) := loop_close HW.out HWl.out hz0 HAl.out HO.out HG.out HA.out hBw
     clear HO HG HA d3 d4'
     go_wp2_with fail
     go_meet
     exact ⟨_, rfl, HF.out.1, HF.out.2⟩
   case rest =>
    obtain ⟨v31, rfl, HW2, HB2⟩ := hcut
    obtain ⟨hv2, mv2, vh2, vf2, vm2, hw2⟩ := HW2.out
    obtain ⟨A3, c3', rfl, -, -⟩ := hw2.slm
    have d3 := hw2.cells.2.2.2.1
    have hlen : (loopS s i ps).made.length = s.made.length + 1 := by unfold loopS; simp
    rw [hlen] at d3
    clear hw2 hlen c3 c4' x2 x3 x5
    go_wp2
    go_ret
    exact loopOut.go HM.out (by omega) HW2.out HB2.out
theorem quiet_left' {P : Program} {f : FuncId} {args : Array Value} {w : World} {n : Nat} {v : Value}
 (h : Calls P f args (w.drewN n) fun e w' => e = .returned v ∧ w.drewN n = w') : Calls P f args (w.drewN n) fun e w'' => e = .returned v ∧ ∃ m, w'' = w.drewN m :=
 h.mono fun _ _ ⟨he, hm⟩ => ⟨he, n, hm.symm⟩
abbrev insBox (i : Ins) : Obj := .cells #[.int .u8 i.op, .bool i.right, .int .u8 i.bed, .int .i64 i.at_, .int .i64 i.to_, .int .i64 i.car, .int .i64 i.rack] 63
theorem ins_box (w : World) (i : Ins) {W : World} (hb : Below (w.heap.size + 1) (w.alloc (insBox i)) W) : InsAt W w.heap.size 0 i := by
 unfold InsAt
 simp only [Nat.zero_add]
 exact ⟨(bcell hb (by omega) _).trans (cell_new rfl rfl rfl), (bcell hb (by omega) _).trans (cell_new rfl rfl rfl), (bcell hb (by omega) _).trans (cell_new rfl rfl rfl), (bcell hb (by omega) _).trans (cell_new rfl rfl rfl), (bcell hb (by omega) _).trans (cell_new rfl rfl rfl), (bcell hb (by omega) _).trans (cell_new rfl rfl rfl), (bcell hb (by omega) _).trans (cell_new rfl rfl rfl)⟩
structure StOk (s : BedS) : Prop where
 seek : Seek s.hooks
 loops : ∀ h ∈ s.hooks, h.loops.length ≤ 6
 rack : -8 ≤ s.rack ∧ s.rack ≤ 8
 made : s.made.length ≤ 9000
set_option maxHeartbeats 4000000 in
theorem across_any (B pb : Nat) (s : BedS) (i : Ins) (X : List Own) (vl : Value) (l : List Int) (hk : StOk s) (hl : l.length ≤ 6) (hbd : 0 ≤ i.bed ∧ i.bed ≤ 1) (ha : needleP i.at_) (ht : needleP i.to_) (w : World) (hBw : B ≤ w.heap.size) (hw : WorkX 90 w B pb s (rowI vl l :: X)) :
 Calls Tryz.prog 104 #[.pointer (some ⟨pb, 0, none⟩), i.val, vl] w fun e w' => stepOut B pb (acrossS s i l) (rowI vl l :: X) w e w' := by
 have HAl := Lib.hid ((Below.refl B w).alloc hBw (insBox i))
 have HX := Lib.hid (ins_box w i (Below.refl _ _))
 have hpb : pb < w.heap.size ∧ w.cell? ⟨pb, 0, none⟩ = some (.int .i64 s.rack) := by
  obtain ⟨hv, mv, vh, vf, vm, h⟩ := hw
  exact ⟨h.base.2, h.cells.1⟩
 have HW := Lib.hid (hw.to ((Below.refl _ w).alloc (Nat.le_refl _) (insBox i)))
 have HC : Hid (∀ (b n : Int), (0 ≤ b ∧ b ≤ 1) ∧ needleP n → ∀ k, Calls Tryz.prog 142 #[.pointer (some ⟨pb, 0, none⟩), .int .u8 b, .int .i64 n] ((w.alloc (insBox i)).drewN k) fun e w' => e = .returned (.int .i64 (colI s.rack b n)) ∧ (w.alloc (insBox i)).drewN k = w') := fun b n h k =>
  column_any pb s.rack b n hk.rack h.1 h.2 _ (cell_al hpb.2 _)
 have HP1 := Lib.hid (show (0 ≤ i.bed ∧ i.bed ≤ 1) ∧ needleP i.at_ from ⟨hbd, ha⟩)
 have HP2 := Lib.hid (show (0 ≤ 1 - i.bed ∧ 1 - i.bed ≤ 1) ∧ needleP i.to_ from ⟨by omega, ht⟩)
 have HL : Hid (∀ W, Below w.heap.size w W → Calls Tryz.prog 102 #[.pointer (some ⟨pb, 0, none⟩), .int .u8 (1 - i.bed), .int .i64 i.to_, vl] W fun e w' => stepOut B pb (layS s (1 - i.bed) i.to_ l) (rowI vl l :: X) W e w') := fun W hb =>
  lay_any B pb s X vl l hk.seek hk.loops hl (1 - i.bed) i.to_ (by omega) ht W (by have := hb.size; omega) (hw.to hb)
 have HN : Hid (∀ n, Below w.heap.size w ((w.alloc (insBox i)).drewN n)) := fun n => below_drewN ((Below.refl _ w).alloc (Nat.le_refl _) _) n
 unfold Ins.val
 clear hw hk
 by_cases hc : colI s.rack i.bed i.at_ = colI s.rack (1 - i.bed) i.to_
 · have hcb : (colI s.rack i.bed i.at_ != colI s.rack (1 - i.bed) i.to_) = false := by simp [hc]
   have HF : Hid (acrossS s i l = layS s (1 - i.bed) i.to_ l) := by unfold Hid acrossS; rw [if_neg (by simp [hc])]
   clear hc
   go_enter Tryz.func104, Tryz.ntmps104
   go_upto_region 1 with fail
   obtain ⟨x0, x1', x2', x3, x4, x5, x6⟩ := HX.out
   go_wp2
   go_quiet ((go_at_call 142; refine quiet_left' (HC.out _ _ ?_ _); first | exact HP1.out | exact HP2.out))
   go_wp2_with fail
   refine (HL.out _ (HN.out _)).mono ?_
   rintro e w1 h1
   rw [← HF.out] at h1
   have HB := Lib.hid ((HN.out nq).mono hBw)
   clear HL HC HN HX HW
   unfold stepOut at h1
   cases hr : acrossS s i l with
   | none =>
     rw [hr] at h1
     obtain ⟨rfl, ho, hb⟩ := h1
     have HR := Lib.hid (stepOut.stop (pb := pb) (X := rowI vl l :: X) hr ho (HB.out.trans hb))
     clear ho
     unfold stopE stopV at HR ⊢
     clear hr hb HF
     go_wp2
     exact ⟨rfl, HR.out⟩
   | some t =>
     rw [hr] at h1
     obtain ⟨rfl, hw1, hb⟩ := h1
     have HR := Lib.hid (stepOut.go hr hw1 (HB.out.trans hb))
     clear hr hb HF hw1
     go_wp2
     refine bodyPost_end (results_none rfl _ _ _) rfl ?_
     exact HR.out
 · have hcb : (colI s.rack i.bed i.at_ != colI s.rack (1 - i.bed) i.to_) = true := by simp [hc]
   have HF : Hid (acrossS s i l = none) := by unfold Hid acrossS; rw [if_pos (by simp [hc])]
   clear hc HL
   go_enter Tryz.func104, Tryz.ntmps104
   go_upto_region 1 with fail
   obtain ⟨x0, x1', x2', x3, x4, x5, x6⟩ := HX.out
   go_wp2
   go_quiet ((go_at_call 142; refine quiet_left' (HC.out _ _ ?_ _); first | exact HP1.out | exact HP2.out))
   go_wp2
   exact ⟨rfl, stepOut.stop HF.out (HW.out.to (below_drewN (Below.refl _ _) nq)).owns (below_drewN HAl.out _)⟩
theorem StOk.take {s : BedS} (h : StOk s) (b n : Int) : StOk (takeS s b n) :=
 ⟨h.seek.sub (take_sub h.seek b n), fun x hx => h.loops x ((take_sub h.seek b n).subset hx), h.rack, h.made⟩
theorem StOk.held {s : BedS} (h : StOk s) (b n : Int) : (heldAt s.hooks b n).length ≤ 6 := by
 unfold heldAt
 split
 · rename_i x hf; exact h.loops x (List.mem_of_find?_eq_some hf)
 · simp
def endOut (B pb : Nat) (r : BedS × Int) (X : List Own) (w : World) (e : Ending) (w' : World) : Prop :=
 if r.2 = 0 then e = .returned (.tuple #[]) ∧ WorkX 90 w' B pb r.1 X ∧ Below B w w' else e = stopE r.2 ∧ Owns w' B X ∧ Below B w w'
theorem endOut.go {B pb : Nat} {r : BedS × Int} {t : BedS} {X : List Own} {w w' : World} (h : r = (t, 0)) (hw : WorkX 90 w' B pb t X) (hb : Below B w w') : endOut B pb r X w (.returned (.tuple #[])) w' := by
 subst h; unfold endOut; rw [if_pos rfl]; exact ⟨rfl, hw, hb⟩
theorem endOut.stop {B pb : Nat} {r : BedS × Int} {x : Int} {X : List Own} {w w' : World} (h : r = (bed0, x)) (hx : x ≠ 0) (ho : Owns w' B X) (hb : Below B w w') : endOut B pb r X w (stopE x) w' := by
 subst h; unfold endOut; rw [if_neg hx]; exact ⟨rfl, ho, hb⟩
def moveS (s : BedS) (i : Ins) : BedS × Int :=
 match acrossS (takeS s i.bed i.at_) i (heldAt s.hooks i.bed i.at_) with
 | none => (bed0, 36)
 | some u => (u, 0)
def rowX (bx : Nat) (i : Ins) : Own := ⟨63, 7, 1, .slice (some ⟨bx, 0, none⟩) 1 1, i.cells⟩
theorem rowX_new (w : World) (i : Ins) : (rowX w.heap.size i).lies (w.alloc (insBox i)) w.heap.size := World.ownsRow_lit w #[.int .u8 i.op, .bool i.right, .int .u8 i.bed, .int .i64 i.at_, .int .i64 i.to_, .int .i64 i.car, .int .i64 i.rack] 1 (Nat.le_refl _) (by decide) rfl
theorem rowX_at {w : World} {B bx : Nat} {i : Ins} (h : (rowX bx i).lies w B) : w.cell? ⟨bx, 0, none⟩ = some (.int .u8 i.op) ∧ w.cell? ⟨bx, 1, none⟩ = some (.bool i.right) ∧ w.cell? ⟨bx, 2, none⟩ = some (.int .u8 i.bed) ∧ w.cell? ⟨bx, 3, none⟩ = some (.int .i64 i.at_) ∧ w.cell? ⟨bx, 4, none⟩ = some (.int .i64 i.to_) ∧ w.cell? ⟨bx, 5, none⟩ = some (.int .i64 i.car) ∧ w.cell? ⟨bx, 6, none⟩ = some (.int .i64 i.rack) := by
 have h : w.ownsRow B 63 7 (.slice (some ⟨bx, 0, none⟩) 1 1) 1 i.cells := h
 exact ⟨h.cellAt 0 (by decide), h.cellAt 1 (by decide), h.cellAt 2 (by decide), h.cellAt 3 (by decide), h.cellAt 4 (by decide), h.cellAt 5 (by decide), h.cellAt 6 (by decide)⟩
set_option maxHeartbeats 4000000 in
theorem move_any (B pb : Nat) (s : BedS) (i : Ins) (X : List Own) (hk : StOk s) (hbd : 0 ≤ i.bed ∧ i.bed ≤ 1) (ha : needleP i.at_) (ht : needleP i.to_) (w : World) (hBw : B ≤ w.heap.size) (hw : WorkX 90 w B pb s X) :
 Calls Tryz.prog 79 #[.pointer (some ⟨pb, 0, none⟩), i.val] w fun e w' => endOut B pb (moveS s i) X w e w' := by
 have hw1 : WorkX 90 (w.alloc (insBox i)) B pb s (rowX w.heap.size i :: X) := hw.add ((Below.refl _ w).alloc (Nat.le_refl _) (insBox i)) (rowX_new w i)
 have HTk : Hid (Calls Tryz.prog 38 #[.pointer (some ⟨pb, 0, none⟩), .int .u8 i.bed, .int .i64 i.at_] (w.alloc (insBox i)).drew fun e w' => takeOut 90 B pb s i.bed i.at_ (rowX w.heap.size i :: X) (w.alloc (insBox i)).drew e w') :=
  take_any B pb s _ hk.seek i.bed i.at_ hbd ha _ (by show B ≤ (w.alloc (insBox i)).heap.size; simp; omega) (hw1.to (Below.drew (Below.refl _ _)))
 have HAc : Hid (∀ v W, B ≤ W.heap.size → WorkX 90 W B pb (takeS s i.bed i.at_) (rowI v (heldAt s.hooks i.bed i.at_) :: rowX w.heap.size i :: X) → Calls Tryz.prog 104 #[.pointer (some ⟨pb, 0, none⟩), i.val, v] W fun e w' => stepOut B pb (acrossS (takeS s i.bed i.at_) i (heldAt s.hooks i.bed i.at_)) (rowI v (heldAt s.hooks i.bed i.at_) :: rowX w.heap.size i :: X) W e w') := fun v W hB h =>
  across_any B pb (takeS s i.bed i.at_) i _ v (heldAt s.hooks i.bed i.at_) (hk.take _ _) (hk.held _ _) hbd ha ht W hB h
 unfold Ins.val at HAc ⊢
 have HS0 := Lib.hid (rowX_at (B := B) (hw1.row (List.mem_cons_self)))
 have HAl := Lib.hid (((Below.refl B w).alloc hBw (insBox i)).drew)
 clear hw hk ha ht hbd hw1
 have HF : Hid (∀ e w' v W, Below B w W → stepOut B pb (acrossS (takeS s i.bed i.at_) i (heldAt s.hooks i.bed i.at_)) (rowI v (heldAt s.hooks i.bed i.at_) :: rowX w.heap.size i :: X) W e w' → (e = stopE 36 ∧ endOut B pb (moveS s i) X w e w') ∨ (e = .returned (.tuple #[]) ∧ endOut B pb (moveS s i) X w e w')) := fun e w' v W hb h => by
  unfold stepOut at h
  cases hr : acrossS (takeS s i.bed i.at_) i (heldAt s.hooks i.bed i.at_) with
  | none =>
    rw [hr] at h
    obtain ⟨rfl, ho, hb2⟩ := h
    exact Or.inl ⟨rfl, endOut.stop (by unfold moveS; rw [hr]) (by decide) ho.tail.tail (hb.trans hb2)⟩
  | some t =>
    rw [hr] at h
    obtain ⟨rfl, hw2, hb2⟩ := h
    exact Or.inr ⟨rfl, endOut.go (t := t) (by unfold moveS; rw [hr]) hw2.less.less (hb.trans hb2)⟩
 go_enter Tryz.func79, Tryz.ntmps79
 go_upto_region 1 with fail
 obtain ⟨x0, x1, x2, x3, x4, x5, x6⟩ := HS0.out
 go_region_with (first | (go_at_call 38; refine HTk.out.mono ?_; rintro e w1 ⟨v, rfl, hw1, hb1⟩; obtain ⟨y0, y1, y2, y3, y4, y5, y6⟩ := rowX_at (B := B) (hw1.row (o := rowX w.heap.size i) (by simp))) | (go_at_call 104; refine (HAc.out _ _ (Nat.le_trans hBw (Nat.le_trans HAl.out.size hb1.size)) hw1).mono ?_; intro e w2 h2; rcases HF.out e w2 _ _ (HAl.out.trans hb1) h2 with ⟨rfl, ho⟩ | ⟨rfl, ho⟩; exact ⟨rfl, ho⟩))
 all_goals
  refine bodyPost_end (results_none rfl _ _ _) rfl ?_
  exact ho
set_option maxHeartbeats 1000000 in
theorem rack_any (B pb : Nat) (s : BedS) (i : Ins) (X : List Own) (w : World) (hBw : B ≤ w.heap.size) (hw : WorkX 90 w B pb s X) :
 Calls Tryz.prog 80 #[.pointer (some ⟨pb, 0, none⟩), i.val] w fun e w' => endOut B pb ({ s with rack := i.rack }, 0) X w e w' := by
 obtain ⟨hv, mv, vh, vf, vm, hw⟩ := hw
 have hw1 := hw.to ((Below.refl _ w).alloc (Nat.le_refl _) (insBox i))
 have HF := Lib.hid (endOut.go (B := B) (pb := pb) (w := w) rfl (show WorkX 90 _ B pb { s with rack := i.rack } X from ⟨hv, mv, vh, vf, vm, hw1.setRack i.rack⟩) (((Below.refl B w).alloc hBw (insBox i)).setCell (p := ⟨pb, 0, none⟩) hw.base.1 _))
 have hx := (ins_box w i (Below.refl _ _)).2.2.2.2.2.2
 obtain ⟨c0, -, -, -, c4⟩ := hw1.cells
 have c4' := c4 0
 have hpl := hw.base.2
 rw [World.setCell_alloc_past _ _ _ _ hpl] at HF
 unfold Ins.val
 clear hw hw1 c4
 go_enter Tryz.func80, Tryz.ntmps80
 go_wp2
 refine bodyPost_end (results_none rfl _ _ _) rfl ?_
 exact HF.out
set_option maxHeartbeats 1000000 in
theorem drop_any (B pb : Nat) (s : BedS) (i : Ins) (X : List Own) (hk : StOk s) (hbd : 0 ≤ i.bed ∧ i.bed ≤ 1) (ha : needleP i.at_) (w : World) (hBw : B ≤ w.heap.size) (hw : WorkX 90 w B pb s X) :
 Calls Tryz.prog 81 #[.pointer (some ⟨pb, 0, none⟩), i.val] w fun e w' => endOut B pb (takeS s i.bed i.at_, 0) X w e w' := by
 have HTk : Hid (Calls Tryz.prog 38 #[.pointer (some ⟨pb, 0, none⟩), .int .u8 i.bed, .int .i64 i.at_] (w.alloc (insBox i)) fun e w' => takeOut 90 B pb s i.bed i.at_ X (w.alloc (insBox i)) e w') :=
  take_any B pb s X hk.seek i.bed i.at_ hbd ha _ (by simp; omega) (hw.to ((Below.refl _ w).alloc (Nat.le_refl _) (insBox i)))
 have HAl := Lib.hid ((Below.refl B w).alloc hBw (insBox i))
 obtain ⟨-, -, x2, x3, -, -, -⟩ := ins_box w i (Below.refl _ _)
 unfold Ins.val
 clear hw hk ha
 go_enter Tryz.func81, Tryz.ntmps81
 go_wp2_with fail
 refine HTk.out.mono ?_
 rintro e w1 ⟨v, rfl, hw1, hb1⟩
 have HF := Lib.hid (endOut.go (B := B) (pb := pb) (w := w) (r := (takeS s i.bed i.at_, 0)) rfl hw1.less (HAl.out.trans hb1))
 clear hw1 hb1
 go_wp2
 refine bodyPost_end (results_none rfl _ _ _) rfl ?_
 exact HF.out
end Go.Proofs.YtflpikickbellaaGreat
