/- Layer 30: across, move, rack, drop. -/
import Derived.Test.YtflpikickbellaaGreatKQ32
namespace Go.Proofs.YtflpikickbellaaGreat
open Go.RowKit Go.Shelf Go.Sort
set_option maxRecDepth 100000

theorem quiet_left' {P : Program} {f : FuncId} {args : Array Value} {w : World} {n : Nat} {v : Value}
    (h : Calls P f args (w.drewN n) fun e w' => e = .returned v ∧ w.drewN n = w') : Calls P f args (w.drewN n) fun e w'' => e = .returned v ∧ ∃ m, w'' = w.drewN m :=
  h.mono fun _ _ ⟨he, hm⟩ => ⟨he, n, hm.symm⟩
/-- The box of an instruction. -/
abbrev insBox (i : Ins) : Obj := .cells #[.int .u8 i.op, .bool i.right, .int .u8 i.bed, .int .i64 i.at_, .int .i64 i.to_, .int .i64 i.car, .int .i64 i.rack] 63
theorem ins_box (w : World) (i : Ins) {W : World} (hb : Below (w.heap.size + 1) (w.alloc (insBox i)) W) : InsAt W w.heap.size 0 i := by
  unfold InsAt
  simp only [Nat.zero_add]
  exact ⟨(bcell hb (by omega) _).trans (cell_new rfl rfl rfl), (bcell hb (by omega) _).trans (cell_new rfl rfl rfl), (bcell hb (by omega) _).trans (cell_new rfl rfl rfl), (bcell hb (by omega) _).trans (cell_new rfl rfl rfl), (bcell hb (by omega) _).trans (cell_new rfl rfl rfl), (bcell hb (by omega) _).trans (cell_new rfl rfl rfl), (bcell hb (by omega) _).trans (cell_new rfl rfl rfl)⟩
/-- What a step asks of the state. -/
structure StOk (s : BedS) : Prop where
  seek : Seek s.hooks
  loops : ∀ h ∈ s.hooks, h.loops.length ≤ 6
  rack : -8 ≤ s.rack ∧ s.rack ≤ 8
  made : s.made.length ≤ 9000
set_option maxHeartbeats 4000000 in
theorem across_any (B pb : Nat) (s : BedS) (i : Ins) (X : List Own) (vl : Value) (l : List Int) (hk : StOk s) (hl : l.length ≤ 6) (hbd : 0 ≤ i.bed ∧ i.bed ≤ 1) (ha : needleP i.at_) (ht : needleP i.to_) (w : World) (hBw : B ≤ w.heap.size) (hw : WorkX 90 w B pb s (rowI vl l :: X)) :
    Calls Tryz.prog 104 #[.pointer (some ⟨pb, 0, none⟩), i.val, vl] w fun e w' => stepOut B pb (acrossS s i l) (rowI vl l :: X) w e w' := by
  have HAl := Lib.hid ((Below.refl B w).alloc hBw (insBox i))
  have HX := Lib.hid (ins_box w i (Below.refl _ _))
  have hpb : pb < w.heap.size ∧ w.cell? ⟨pb, 0, none⟩ = some (.int .i64 s.rack) := by
    obtain ⟨hv, mv, vh, vf, vm, h⟩ := hw
    exact ⟨h.base.2, h.cells.1⟩
  have HW := Lib.hid (hw.to ((Below.refl _ w).alloc (Nat.le_refl _) (insBox i)))
  have HC : Hid (∀ (b n : Int), (0 ≤ b ∧ b ≤ 1) ∧ needleP n → ∀ k, Calls Tryz.prog 142 #[.pointer (some ⟨pb, 0, none⟩), .int .u8 b, .int .i64 n] ((w.alloc (insBox i)).drewN k) fun e w' => e = .returned (.int .i64 (colI s.rack b n)) ∧ (w.alloc (insBox i)).drewN k = w') := fun b n h k =>
    column_any pb s.rack b n hk.rack h.1 h.2 _ (cell_al hpb.2 _)
  have HP1 := Lib.hid (show (0 ≤ i.bed ∧ i.bed ≤ 1) ∧ needleP i.at_ from ⟨hbd, ha⟩)
  have HP2 := Lib.hid (show (0 ≤ 1 - i.bed ∧ 1 - i.bed ≤ 1) ∧ needleP i.to_ from ⟨by omega, ht⟩)
  have HL : Hid (∀ W, Below w.heap.size w W → Calls Tryz.prog 102 #[.pointer (some ⟨pb, 0, none⟩), .int .u8 (1 - i.bed), .int .i64 i.to_, vl] W fun e w' => stepOut B pb (layS s (1 - i.bed) i.to_ l) (rowI vl l :: X) W e w') := fun W hb =>
    lay_any B pb s X vl l hk.seek hk.loops hl (1 - i.bed) i.to_ (by omega) ht W (by have := hb.size; omega) (hw.to hb)
  have HN : Hid (∀ n, Below w.heap.size w ((w.alloc (insBox i)).drewN n)) := fun n => below_drewN ((Below.refl _ w).alloc (Nat.le_refl _) _) n
  unfold Ins.val
  clear hw hk
  by_cases hc : colI s.rack i.bed i.at_ = colI s.rack (1 - i.bed) i.to_
  · have hcb : (colI s.rack i.bed i.at_ != colI s.rack (1 - i.bed) i.to_) = false := by simp [hc]
    have HF : Hid (acrossS s i l = layS s (1 - i.bed) i.to_ l) := by unfold Hid acrossS; rw [if_neg (by simp [hc])]
    clear hc
    go_enter Tryz.func104, Tryz.ntmps104
    go_upto_region 1 with fail
    obtain ⟨x0, x1', x2', x3, x4, x5, x6⟩ := HX.out
    go_wp2
    go_quiet ((go_at_call 142; refine quiet_left' (HC.out _ _ ?_ _); first | exact HP1.out | exact HP2.out))
    go_wp2_with fail
    refine (HL.out _ (HN.out _)).mono ?_
    rintro e w1 h1
    rw [← HF.out] at h1
    have HB := Lib.hid ((HN.out nq).mono hBw)
    clear HL HC HN HX HW
    unfold stepOut at h1
    cases hr : acrossS s i l with
    | none =>
      rw [hr] at h1
      obtain ⟨rfl, ho, hb⟩ := h1
      have HR := Lib.hid (stepOut.stop (pb := pb) (X := rowI vl l :: X) hr ho (HB.out.trans hb))
      clear ho
      unfold stopE stopV at HR ⊢
      clear hr hb HF
      go_wp2
      exact ⟨rfl, HR.out⟩
    | some t =>
      rw [hr] at h1
      obtain ⟨rfl, hw1, hb⟩ := h1
      have HR := Lib.hid (stepOut.go hr hw1 (HB.out.trans hb))
      clear hr hb HF hw1
      go_wp2
      refine bodyPost_end (results_none rfl _ _ _) rfl ?_
      exact HR.out
  · have hcb : (colI s.rack i.bed i.at_ != colI s.rack (1 - i.bed) i.to_) = true := by simp [hc]
    have HF : Hid (acrossS s i l = none) := by unfold Hid acrossS; rw [if_pos (by simp [hc])]
    clear hc HL
    go_enter Tryz.func104, Tryz.ntmps104
    go_upto_region 1 with fail
    obtain ⟨x0, x1', x2', x3, x4, x5, x6⟩ := HX.out
    go_wp2
    go_quiet ((go_at_call 142; refine quiet_left' (HC.out _ _ ?_ _); first | exact HP1.out | exact HP2.out))
    go_wp2
    exact ⟨rfl, stepOut.stop HF.out (HW.out.to (below_drewN (Below.refl _ _) nq)).owns (below_drewN HAl.out _)⟩
end Go.Proofs.YtflpikickbellaaGreat
