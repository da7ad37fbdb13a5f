/- Layer 30: move, rack, drop. -/
import Derived.Test.YtflpikickbellaaGreatKQ33
namespace Go.Proofs.YtflpikickbellaaGreat
open Go.RowKit Go.Shelf Go.Sort
set_option maxRecDepth 100000

theorem StOk.take {s : BedS} (h : StOk s) (b n : Int) : StOk (takeS s b n) :=
  ⟨h.seek.sub (take_sub h.seek b n), fun x hx => h.loops x ((take_sub h.seek b n).subset hx), h.rack, h.made⟩
theorem StOk.held {s : BedS} (h : StOk s) (b n : Int) : (heldAt s.hooks b n).length ≤ 6 := by
  unfold heldAt
  split
  · rename_i x hf; exact h.loops x (List.mem_of_find?_eq_some hf)
  · simp
/-- What an instruction's method ends in. -/
def endOut (B pb : Nat) (r : BedS × Int) (X : List Own) (w : World) (e : Ending) (w' : World) : Prop :=
  if r.2 = 0 then e = .returned (.tuple #[]) ∧ WorkX 90 w' B pb r.1 X ∧ Below B w w' else e = stopE r.2 ∧ Owns w' B X ∧ Below B w w'
theorem endOut.go {B pb : Nat} {r : BedS × Int} {t : BedS} {X : List Own} {w w' : World} (h : r = (t, 0)) (hw : WorkX 90 w' B pb t X) (hb : Below B w w') : endOut B pb r X w (.returned (.tuple #[])) w' := by
  subst h; unfold endOut; rw [if_pos rfl]; exact ⟨rfl, hw, hb⟩
theorem endOut.stop {B pb : Nat} {r : BedS × Int} {x : Int} {X : List Own} {w w' : World} (h : r = (bed0, x)) (hx : x ≠ 0) (ho : Owns w' B X) (hb : Below B w w') : endOut B pb r X w (stopE x) w' := by
  subst h; unfold endOut; rw [if_neg hx]; exact ⟨rfl, ho, hb⟩
def moveS (s : BedS) (i : Ins) : BedS × Int :=
  match acrossS (takeS s i.bed i.at_) i (heldAt s.hooks i.bed i.at_) with
  | none => (bed0, 36)
  | some u => (u, 0)
/-- A box of an instruction, as a row. -/
def rowX (bx : Nat) (i : Ins) : Own := ⟨63, 7, 1, .slice (some ⟨bx, 0, none⟩) 1 1, i.cells⟩
theorem rowX_new (w : World) (i : Ins) : (rowX w.heap.size i).lies (w.alloc (insBox i)) w.heap.size := World.ownsRow_lit w #[.int .u8 i.op, .bool i.right, .int .u8 i.bed, .int .i64 i.at_, .int .i64 i.to_, .int .i64 i.car, .int .i64 i.rack] 1 (Nat.le_refl _) (by decide) rfl
theorem rowX_at {w : World} {B bx : Nat} {i : Ins} (h : (rowX bx i).lies w B) : w.cell? ⟨bx, 0, none⟩ = some (.int .u8 i.op) ∧ w.cell? ⟨bx, 1, none⟩ = some (.bool i.right) ∧ w.cell? ⟨bx, 2, none⟩ = some (.int .u8 i.bed) ∧ w.cell? ⟨bx, 3, none⟩ = some (.int .i64 i.at_) ∧ w.cell? ⟨bx, 4, none⟩ = some (.int .i64 i.to_) ∧ w.cell? ⟨bx, 5, none⟩ = some (.int .i64 i.car) ∧ w.cell? ⟨bx, 6, none⟩ = some (.int .i64 i.rack) := by
  have h : w.ownsRow B 63 7 (.slice (some ⟨bx, 0, none⟩) 1 1) 1 i.cells := h
  exact ⟨h.cellAt 0 (by decide), h.cellAt 1 (by decide), h.cellAt 2 (by decide), h.cellAt 3 (by decide), h.cellAt 4 (by decide), h.cellAt 5 (by decide), h.cellAt 6 (by decide)⟩
theorem WorkX.swap2 {T : TypeId} {w : World} {B pb : Nat} {s : BedS} {a b : Own} {X : List Own} (h : WorkX T w B pb s (a :: b :: X)) : WorkX T w B pb s (b :: a :: X) := by
  obtain ⟨hv, mv, vh, vf, vm, h⟩ := h
  exact ⟨hv, mv, vh, vf, vm, h.hooks, h.made, h.owns.perm (perm_loops (List.Perm.append_left _ (List.Perm.swap _ _ _)))⟩
set_option maxHeartbeats 4000000 in
theorem move_any (B pb : Nat) (s : BedS) (i : Ins) (X : List Own) (hk : StOk s) (hbd : 0 ≤ i.bed ∧ i.bed ≤ 1) (ha : needleP i.at_) (ht : needleP i.to_) (w : World) (hBw : B ≤ w.heap.size) (hw : WorkX 90 w B pb s X) :
    Calls Tryz.prog 79 #[.pointer (some ⟨pb, 0, none⟩), i.val] w fun e w' => endOut B pb (moveS s i) X w e w' := by
  have hw1 : WorkX 90 (w.alloc (insBox i)) B pb s (rowX w.heap.size i :: X) := hw.add ((Below.refl _ w).alloc (Nat.le_refl _) (insBox i)) (rowX_new w i)
  have HTk : Hid (Calls Tryz.prog 38 #[.pointer (some ⟨pb, 0, none⟩), .int .u8 i.bed, .int .i64 i.at_] (w.alloc (insBox i)).drew fun e w' => takeOut 90 B pb s i.bed i.at_ (rowX w.heap.size i :: X) (w.alloc (insBox i)).drew e w') :=
    take_any B pb s _ hk.seek i.bed i.at_ hbd ha _ (by show B ≤ (w.alloc (insBox i)).heap.size; simp; omega) (hw1.to (Below.drew (Below.refl _ _)))
  have HAc : Hid (∀ v W, B ≤ W.heap.size → WorkX 90 W B pb (takeS s i.bed i.at_) (rowI v (heldAt s.hooks i.bed i.at_) :: rowX w.heap.size i :: X) → Calls Tryz.prog 104 #[.pointer (some ⟨pb, 0, none⟩), i.val, v] W fun e w' => stepOut B pb (acrossS (takeS s i.bed i.at_) i (heldAt s.hooks i.bed i.at_)) (rowI v (heldAt s.hooks i.bed i.at_) :: rowX w.heap.size i :: X) W e w') := fun v W hB h =>
    across_any B pb (takeS s i.bed i.at_) i _ v (heldAt s.hooks i.bed i.at_) (hk.take _ _) (hk.held _ _) hbd ha ht W hB h
  unfold Ins.val at HAc ⊢
  have HS0 := Lib.hid (rowX_at (B := B) (hw1.row (List.mem_cons_self)))
  have HAl := Lib.hid (((Below.refl B w).alloc hBw (insBox i)).drew)
  clear hw hk ha ht hbd hw1
  have HF : Hid (∀ e w' v W, Below B w W → stepOut B pb (acrossS (takeS s i.bed i.at_) i (heldAt s.hooks i.bed i.at_)) (rowI v (heldAt s.hooks i.bed i.at_) :: rowX w.heap.size i :: X) W e w' → (e = stopE 36 ∧ endOut B pb (moveS s i) X w e w') ∨ (e = .returned (.tuple #[]) ∧ endOut B pb (moveS s i) X w e w')) := fun e w' v W hb h => by
    unfold stepOut at h
    cases hr : acrossS (takeS s i.bed i.at_) i (heldAt s.hooks i.bed i.at_) with
    | none =>
      rw [hr] at h
      obtain ⟨rfl, ho, hb2⟩ := h
      exact Or.inl ⟨rfl, endOut.stop (by unfold moveS; rw [hr]) (by decide) ho.tail.tail (hb.trans hb2)⟩
    | some t =>
      rw [hr] at h
      obtain ⟨rfl, hw2, hb2⟩ := h
      exact Or.inr ⟨rfl, endOut.go (t := t) (by unfold moveS; rw [hr]) hw2.less.less (hb.trans hb2)⟩
  go_enter Tryz.func79, Tryz.ntmps79
  go_upto_region 1 with fail
  obtain ⟨x0, x1, x2, x3, x4, x5, x6⟩ := HS0.out
  go_region_with (first | (go_at_call 38; refine HTk.out.mono ?_; rintro e w1 ⟨v, rfl, hw1, hb1⟩; obtain ⟨y0, y1, y2, y3, y4, y5, y6⟩ := rowX_at (B := B) (hw1.row (o := rowX w.heap.size i) (by simp))) | (go_at_call 104; refine (HAc.out _ _ (Nat.le_trans hBw (Nat.le_trans HAl.out.size hb1.size)) hw1).mono ?_; intro e w2 h2; rcases HF.out e w2 _ _ (HAl.out.trans hb1) h2 with ⟨rfl, ho⟩ | ⟨rfl, ho⟩; exact ⟨rfl, ho⟩))
  all_goals
    refine bodyPost_end (results_none rfl _ _ _) rfl ?_
    exact ho
set_option maxHeartbeats 1000000 in
theorem rack_any (B pb : Nat) (s : BedS) (i : Ins) (X : List Own) (w : World) (hBw : B ≤ w.heap.size) (hw : WorkX 90 w B pb s X) :
    Calls Tryz.prog 80 #[.pointer (some ⟨pb, 0, none⟩), i.val] w fun e w' => endOut B pb ({ s with rack := i.rack }, 0) X w e w' := by
  obtain ⟨hv, mv, vh, vf, vm, hw⟩ := hw
  have hw1 := hw.to ((Below.refl _ w).alloc (Nat.le_refl _) (insBox i))
  have HF := Lib.hid (endOut.go (B := B) (pb := pb) (w := w) rfl (show WorkX 90 _ B pb { s with rack := i.rack } X from ⟨hv, mv, vh, vf, vm, hw1.setRack i.rack⟩) (((Below.refl B w).alloc hBw (insBox i)).setCell (p := ⟨pb, 0, none⟩) hw.base.1 _))
  have hx := (ins_box w i (Below.refl _ _)).2.2.2.2.2.2
  obtain ⟨c0, -, -, -, c4⟩ := hw1.cells
  have c4' := c4 0
  have hpl := hw.base.2
  rw [World.setCell_alloc_past _ _ _ _ hpl] at HF
  unfold Ins.val
  clear hw hw1 c4
  go_enter Tryz.func80, Tryz.ntmps80
  go_wp2
  refine bodyPost_end (results_none rfl _ _ _) rfl ?_
  exact HF.out
set_option maxHeartbeats 1000000 in
theorem drop_any (B pb : Nat) (s : BedS) (i : Ins) (X : List Own) (hk : StOk s) (hbd : 0 ≤ i.bed ∧ i.bed ≤ 1) (ha : needleP i.at_) (w : World) (hBw : B ≤ w.heap.size) (hw : WorkX 90 w B pb s X) :
    Calls Tryz.prog 81 #[.pointer (some ⟨pb, 0, none⟩), i.val] w fun e w' => endOut B pb (takeS s i.bed i.at_, 0) X w e w' := by
  have HTk : Hid (Calls Tryz.prog 38 #[.pointer (some ⟨pb, 0, none⟩), .int .u8 i.bed, .int .i64 i.at_] (w.alloc (insBox i)) fun e w' => takeOut 90 B pb s i.bed i.at_ X (w.alloc (insBox i)) e w') :=
    take_any B pb s X hk.seek i.bed i.at_ hbd ha _ (by simp; omega) (hw.to ((Below.refl _ w).alloc (Nat.le_refl _) (insBox i)))
  have HAl := Lib.hid ((Below.refl B w).alloc hBw (insBox i))
  obtain ⟨-, -, x2, x3, -, -, -⟩ := ins_box w i (Below.refl _ _)
  unfold Ins.val
  clear hw hk ha
  go_enter Tryz.func81, Tryz.ntmps81
  go_wp2_with fail
  refine HTk.out.mono ?_
  rintro e w1 ⟨v, rfl, hw1, hb1⟩
  have HF := Lib.hid (endOut.go (B := B) (pb := pb) (w := w) (r := (takeS s i.bed i.at_, 0)) rfl hw1.less (HAl.out.trans hb1))
  clear hw1 hb1
  go_wp2
  refine bodyPost_end (results_none rfl _ _ _) rfl ?_
  exact HF.out
end Go.Proofs.YtflpikickbellaaGreat
