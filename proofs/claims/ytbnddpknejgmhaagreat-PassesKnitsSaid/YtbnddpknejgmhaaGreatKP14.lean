/- Layer 30: across, move, rack, drop. Layer 30: move, rack, drop. Layer 30: change. -/
import Derived.Test.YtbnddpknejgmhaaGreatKP13
namespace Go.Proofs.YtbnddpknejgmhaaGreat
open Go.RowKit Go.Shelf Go.Sort
set_option maxRecDepth 100000

theorem quiet_left' {P : Program} {f : FuncId} {args : Array Value} {w : World} {n : Nat} {v : Value}
    (h : Calls P f args (w.drewN n) fun e w' => e = .returned v ∧ w.drewN n = w') : Calls P f args (w.drewN n) fun e w'' => e = .returned v ∧ ∃ m, w'' = w.drewN m :=
  h.mono fun _ _ ⟨he, hm⟩ => ⟨he, n, hm.symm⟩
/-- The box of an instruction. -/
abbrev insBox (i : Ins) : Obj := .cells #[.int .u8 i.op, .bool i.right, .int .u8 i.bed, .int .i64 i.at_, .int .i64 i.to_, .int .i64 i.car, .int .i64 i.rack] 64
theorem ins_box (w : World) (i : Ins) {W : World} (hb : Below (w.heap.size + 1) (w.alloc (insBox i)) W) : InsAt W w.heap.size 0 i := by
  unfold InsAt
  simp only [Nat.zero_add]
  exact ⟨(bcell hb (by omega) _).trans (cell_new rfl rfl rfl), (bcell hb (by omega) _).trans (cell_new rfl rfl rfl), (bcell hb (by omega) _).trans (cell_new rfl rfl rfl), (bcell hb (by omega) _).trans (cell_new rfl rfl rfl), (bcell hb (by omega) _).trans (cell_new rfl rfl rfl), (bcell hb (by omega) _).trans (cell_new rfl rfl rfl), (bcell hb (by omega) _).trans (cell_new rfl rfl rfl)⟩
/-- What a step asks of the state. -/
structure StOk (s : BedS) : Prop where
  seek : Seek s.hooks
  loops : ∀ h ∈ s.hooks, h.loops.length ≤ 6
  rack : -8 ≤ s.rack ∧ s.rack ≤ 8
  made : s.made.length ≤ 9000
set_option maxHeartbeats 4000000 in
theorem across_any (B pb : Nat) (s : BedS) (i : Ins) (X : List Own) (vl : Value) (l : List Int) (hk : StOk s) (hl : l.length ≤ 6) (hbd : 0 ≤ i.bed ∧ i.bed ≤ 1) (ha : needleP i.at_) (ht : needleP i.to_) (w : World) (hBw : B ≤ w.heap.size) (hw : WorkX 84 w B pb s (rowI vl l :: X)) :
    Calls Tryz.prog 93 #[.pointer (some ⟨pb, 0, none⟩), i.val, vl] w fun e w' => stepOut B pb (acrossS s i l) (rowI vl l :: X) w e w' := by
  have HAl := Lib.hid ((Below.refl B w).alloc hBw (insBox i))
  have HX := Lib.hid (ins_box w i (Below.refl _ _))
  have hpb : pb < w.heap.size ∧ w.cell? ⟨pb, 0, none⟩ = some (.int .i64 s.rack) := by
    obtain ⟨hv, mv, vh, vf, vm, h⟩ := hw
    exact ⟨h.base.2, h.cells.1⟩
  have HW := Lib.hid (hw.to ((Below.refl _ w).alloc (Nat.le_refl _) (insBox i)))
  have HC : Hid (∀ (b n : Int), (0 ≤ b ∧ b ≤ 1) ∧ needleP n → ∀ k, Calls Tryz.prog 113 #[.pointer (some ⟨pb, 0, none⟩), .int .u8 b, .int .i64 n] ((w.alloc (insBox i)).drewN k) fun e w' => e = .returned (.int .i64 (colI s.rack b n)) ∧ (w.alloc (insBox i)).drewN k = w') := fun b n h k =>
    column_any pb s.rack b n hk.rack h.1 h.2 _ (cell_al hpb.2 _)
  have HP1 := Lib.hid (show (0 ≤ i.bed ∧ i.bed ≤ 1) ∧ needleP i.at_ from ⟨hbd, ha⟩)
  have HP2 := Lib.hid (show (0 ≤ 1 - i.bed ∧ 1 - i.bed ≤ 1) ∧ needleP i.to_ from ⟨by omega, ht⟩)
  have HL : Hid (∀ W, Below w.heap.size w W → Calls Tryz.prog 91 #[.pointer (some ⟨pb, 0, none⟩), .int .u8 (1 - i.bed), .int .i64 i.to_, vl] W fun e w' => stepOut B pb (layS s (1 - i.bed) i.to_ l) (rowI vl l :: X) W e w') := fun W hb =>
    lay_any B pb s X vl l hk.seek hk.loops hl (1 - i.bed) i.to_ (by omega) ht W (by have := hb.size; omega) (hw.to hb)
  have HN : Hid (∀ n, Below w.heap.size w ((w.alloc (insBox i)).drewN n)) := fun n => below_drewN ((Below.refl _ w).alloc (Nat.le_refl _) _) n
  unfold Ins.val
  clear hw hk
  by_cases hc : colI s.rack i.bed i.at_ = colI s.rack (1 - i.bed) i.to_
  · have hcb : (colI s.rack i.bed i.at_ != colI s.rack (1 - i.bed) i.to_) = false := by simp [hc]
    have HF : Hid (acrossS s i l = layS s (1 - i.bed) i.to_ l) := by unfold Hid acrossS; rw [if_neg (by simp [hc])]
    clear hc
    go_enter Tryz.func93, Tryz.ntmps93
    go_upto_region 1 with fail
    obtain ⟨x0, x1', x2', x3, x4, x5, x6⟩ := HX.out
    go_wp2
    go_quiet ((go_at_call 113; refine quiet_left' (HC.out _ _ ?_ _); first | exact HP1.out | exact HP2.out))
    go_wp2_with fail
    refine (HL.out _ (HN.out _)).mono ?_
    rintro e w1 h1
    rw [← HF.out] at h1
    have HB := Lib.hid ((HN.out nq).mono hBw)
    clear HL HC HN HX HW
    unfold stepOut at h1
    cases hr : acrossS s i l with
    | none =>
      rw [hr] at h1
      obtain ⟨rfl, ho, hb⟩ := h1
      have HR := Lib.hid (stepOut.stop (pb := pb) (X := rowI vl l :: X) hr ho (HB.out.trans hb))
      clear ho
      unfold stopE stopV at HR ⊢
      clear hr hb HF
      go_wp2
      exact ⟨rfl, HR.out⟩
    | some t =>
      rw [hr] at h1
      obtain ⟨rfl, hw1, hb⟩ := h1
      have HR := Lib.hid (stepOut.go hr hw1 (HB.out.trans hb))
      clear hr hb HF hw1
      go_wp2
      refine bodyPost_end (results_none rfl _ _ _) rfl ?_
      exact HR.out
  · have hcb : (colI s.rack i.bed i.at_ != colI s.rack (1 - i.bed) i.to_) = true := by simp [hc]
    have HF : Hid (acrossS s i l = none) := by unfold Hid acrossS; rw [if_pos (by simp [hc])]
    clear hc HL
    go_enter Tryz.func93, Tryz.ntmps93
    go_upto_region 1 with fail
    obtain ⟨x0, x1', x2', x3, x4, x5, x6⟩ := HX.out
    go_wp2
    go_quiet ((go_at_call 113; refine quiet_left' (HC.out _ _ ?_ _); first | exact HP1.out | exact HP2.out))
    go_wp2
    exact ⟨rfl, stepOut.stop HF.out (HW.out.to (below_drewN (Below.refl _ _) nq)).owns (below_drewN HAl.out _)⟩
end Go.Proofs.YtbnddpknejgmhaaGreat
namespace Go.Proofs.YtbnddpknejgmhaaGreat
open Go.RowKit Go.Shelf Go.Sort
set_option maxRecDepth 100000

theorem StOk.take {s : BedS} (h : StOk s) (b n : Int) : StOk (takeS s b n) :=
  ⟨h.seek.sub (take_sub h.seek b n), fun x hx => h.loops x ((take_sub h.seek b n).subset hx), h.rack, h.made⟩
theorem StOk.held {s : BedS} (h : StOk s) (b n : Int) : (heldAt s.hooks b n).length ≤ 6 := by
  unfold heldAt
  split
  · rename_i x hf; exact h.loops x (List.mem_of_find?_eq_some hf)
  · simp
/-- What an instruction's method ends in. -/
def endOut (B pb : Nat) (r : BedS × Int) (X : List Own) (w : World) (e : Ending) (w' : World) : Prop :=
  if r.2 = 0 then e = .returned (.tuple #[]) ∧ WorkX 84 w' B pb r.1 X ∧ Below B w w' else e = stopE r.2 ∧ Owns w' B X ∧ Below B w w'
theorem endOut.go {B pb : Nat} {r : BedS × Int} {t : BedS} {X : List Own} {w w' : World} (h : r = (t, 0)) (hw : WorkX 84 w' B pb t X) (hb : Below B w w') : endOut B pb r X w (.returned (.tuple #[])) w' := by
  subst h; unfold endOut; rw [if_pos rfl]; exact ⟨rfl, hw, hb⟩
theorem endOut.stop {B pb : Nat} {r : BedS × Int} {x : Int} {X : List Own} {w w' : World} (h : r = (bed0, x)) (hx : x ≠ 0) (ho : Owns w' B X) (hb : Below B w w') : endOut B pb r X w (stopE x) w' := by
  subst h; unfold endOut; rw [if_neg hx]; exact ⟨rfl, ho, hb⟩
def moveS (s : BedS) (i : Ins) : BedS × Int :=
  match acrossS (takeS s i.bed i.at_) i (heldAt s.hooks i.bed i.at_) with
  | none => (bed0, 36)
  | some u => (u, 0)
/-- A box of an instruction, as a row. -/
def rowX (bx : Nat) (i : Ins) : Own := ⟨64, 7, 1, .slice (some ⟨bx, 0, none⟩) 1 1, i.cells⟩
theorem rowX_new (w : World) (i : Ins) : (rowX w.heap.size i).lies (w.alloc (insBox i)) w.heap.size := World.ownsRow_lit w #[.int .u8 i.op, .bool i.right, .int .u8 i.bed, .int .i64 i.at_, .int .i64 i.to_, .int .i64 i.car, .int .i64 i.rack] 1 (Nat.le_refl _) (by decide) rfl
theorem rowX_at {w : World} {B bx : Nat} {i : Ins} (h : (rowX bx i).lies w B) : w.cell? ⟨bx, 0, none⟩ = some (.int .u8 i.op) ∧ w.cell? ⟨bx, 1, none⟩ = some (.bool i.right) ∧ w.cell? ⟨bx, 2, none⟩ = some (.int .u8 i.bed) ∧ w.cell? ⟨bx, 3, none⟩ = some (.int .i64 i.at_) ∧ w.cell? ⟨bx, 4, none⟩ = some (.int .i64 i.to_) ∧ w.cell? ⟨bx, 5, none⟩ = some (.int .i64 i.car) ∧ w.cell? ⟨bx, 6, none⟩ = some (.int .i64 i.rack) := by
  have h : w.ownsRow B 64 7 (.slice (some ⟨bx, 0, none⟩) 1 1) 1 i.cells := h
  exact ⟨h.cellAt 0 (by decide), h.cellAt 1 (by decide), h.cellAt 2 (by decide), h.cellAt 3 (by decide), h.cellAt 4 (by decide), h.cellAt 5 (by decide), h.cellAt 6 (by decide)⟩
theorem WorkX.swap2 {T : TypeId} {w : World} {B pb : Nat} {s : BedS} {a b : Own} {X : List Own} (h : WorkX T w B pb s (a :: b :: X)) : WorkX T w B pb s (b :: a :: X) := by
  obtain ⟨hv, mv, vh, vf, vm, h⟩ := h
  exact ⟨hv, mv, vh, vf, vm, h.hooks, h.made, h.owns.perm (perm_loops (List.Perm.append_left _ (List.Perm.swap _ _ _)))⟩
set_option maxHeartbeats 4000000 in
theorem move_any (B pb : Nat) (s : BedS) (i : Ins) (X : List Own) (hk : StOk s) (hbd : 0 ≤ i.bed ∧ i.bed ≤ 1) (ha : needleP i.at_) (ht : needleP i.to_) (w : World) (hBw : B ≤ w.heap.size) (hw : WorkX 84 w B pb s X) :
    Calls Tryz.prog 64 #[.pointer (some ⟨pb, 0, none⟩), i.val] w fun e w' => endOut B pb (moveS s i) X w e w' := by
  have hw1 : WorkX 84 (w.alloc (insBox i)) B pb s (rowX w.heap.size i :: X) := hw.add ((Below.refl _ w).alloc (Nat.le_refl _) (insBox i)) (rowX_new w i)
  have HTk : Hid (Calls Tryz.prog 40 #[.pointer (some ⟨pb, 0, none⟩), .int .u8 i.bed, .int .i64 i.at_] (w.alloc (insBox i)).drew fun e w' => takeOut 84 B pb s i.bed i.at_ (rowX w.heap.size i :: X) (w.alloc (insBox i)).drew e w') :=
    take_any B pb s _ hk.seek i.bed i.at_ hbd ha _ (by show B ≤ (w.alloc (insBox i)).heap.size; simp; omega) (hw1.to (Below.drew (Below.refl _ _)))
  have HAc : Hid (∀ v W, B ≤ W.heap.size → WorkX 84 W B pb (takeS s i.bed i.at_) (rowI v (heldAt s.hooks i.bed i.at_) :: rowX w.heap.size i :: X) → Calls Tryz.prog 93 #[.pointer (some ⟨pb, 0, none⟩), i.val, v] W fun e w' => stepOut B pb (acrossS (takeS s i.bed i.at_) i (heldAt s.hooks i.bed i.at_)) (rowI v (heldAt s.hooks i.bed i.at_) :: rowX w.heap.size i :: X) W e w') := fun v W hB h =>
    across_any B pb (takeS s i.bed i.at_) i _ v (heldAt s.hooks i.bed i.at_) (hk.take _ _) (hk.held _ _) hbd ha ht W hB h
  unfold Ins.val at HAc ⊢
  have HS0 := Lib.hid (rowX_at (B := B) (hw1.row (List.mem_cons_self)))
  have HAl := Lib.hid (((Below.refl B w).alloc hBw (insBox i)).drew)
  clear hw hk ha ht hbd hw1
  have HF : Hid (∀ e w' v W, Below B w W → stepOut B pb (acrossS (takeS s i.bed i.at_) i (heldAt s.hooks i.bed i.at_)) (rowI v (heldAt s.hooks i.bed i.at_) :: rowX w.heap.size i :: X) W e w' → (e = stopE 36 ∧ endOut B pb (moveS s i) X w e w') ∨ (e = .returned (.tuple #[]) ∧ endOut B pb (moveS s i) X w e w')) := fun e w' v W hb h => by
    unfold stepOut at h
    cases hr : acrossS (takeS s i.bed i.at_) i (heldAt s.hooks i.bed i.at_) with
    | none =>
      rw [hr] at h
      obtain ⟨rfl, ho, hb2⟩ := h
      exact Or.inl ⟨rfl, endOut.stop (by unfold moveS; rw [hr]) (by decide) ho.tail.tail (hb.trans hb2)⟩
    | some t =>
      rw [hr] at h
      obtain ⟨rfl, hw2, hb2⟩ := h
      exact Or.inr ⟨rfl, endOut.go (t := t) (by unfold moveS; rw [hr]) hw2.less.less (hb.trans hb2)⟩
  go_enter Tryz.func64, Tryz.ntmps64
  go_upto_region 1 with fail
  obtain ⟨x0, x1, x2, x3, x4, x5, x6⟩ := HS0.out
  go_region_with (first | (go_at_call 40; refine HTk.out.mono ?_; rintro e w1 ⟨v, rfl, hw1, hb1⟩; obtain ⟨y0, y1, y2, y3, y4, y5, y6⟩ := rowX_at (B := B) (hw1.row (o := rowX w.heap.size i) (by simp))) | (go_at_call 93; refine (HAc.out _ _ (Nat.le_trans hBw (Nat.le_trans HAl.out.size hb1.size)) hw1).mono ?_; intro e w2 h2; rcases HF.out e w2 _ _ (HAl.out.trans hb1) h2 with ⟨rfl, ho⟩ | ⟨rfl, ho⟩; exact ⟨rfl, ho⟩))
  all_goals
    refine bodyPost_end (results_none rfl _ _ _) rfl ?_
    exact ho
set_option maxHeartbeats 1000000 in
theorem rack_any (B pb : Nat) (s : BedS) (i : Ins) (X : List Own) (w : World) (hBw : B ≤ w.heap.size) (hw : WorkX 84 w B pb s X) :
    Calls Tryz.prog 65 #[.pointer (some ⟨pb, 0, none⟩), i.val] w fun e w' => endOut B pb ({ s with rack := i.rack }, 0) X w e w' := by
  obtain ⟨hv, mv, vh, vf, vm, hw⟩ := hw
  have hw1 := hw.to ((Below.refl _ w).alloc (Nat.le_refl _) (insBox i))
  have HF := Lib.hid (endOut.go (B := B) (pb := pb) (w := w) rfl (show WorkX 84 _ B pb { s with rack := i.rack } X from ⟨hv, mv, vh, vf, vm, hw1.setRack i.rack⟩) (((Below.refl B w).alloc hBw (insBox i)).setCell (p := ⟨pb, 0, none⟩) hw.base.1 _))
  have hx := (ins_box w i (Below.refl _ _)).2.2.2.2.2.2
  obtain ⟨c0, -, -, -, c4⟩ := hw1.cells
  have c4' := c4 0
  have hpl := hw.base.2
  rw [World.setCell_alloc_past _ _ _ _ hpl] at HF
  unfold Ins.val
  clear hw hw1 c4
  go_enter Tryz.func65, Tryz.ntmps65
  go_wp2
  refine bodyPost_end (results_none rfl _ _ _) rfl ?_
  exact HF.out
set_option maxHeartbeats 1000000 in
theorem drop_any (B pb : Nat) (s : BedS) (i : Ins) (X : List Own) (hk : StOk s) (hbd : 0 ≤ i.bed ∧ i.bed ≤ 1) (ha : needleP i.at_) (w : World) (hBw : B ≤ w.heap.size) (hw : WorkX 84 w B pb s X) :
    Calls Tryz.prog 66 #[.pointer (some ⟨pb, 0, none⟩), i.val] w fun e w' => endOut B pb (takeS s i.bed i.at_, 0) X w e w' := by
  have HTk : Hid (Calls Tryz.prog 40 #[.pointer (some ⟨pb, 0, none⟩), .int .u8 i.bed, .int .i64 i.at_] (w.alloc (insBox i)) fun e w' => takeOut 84 B pb s i.bed i.at_ X (w.alloc (insBox i)) e w') :=
    take_any B pb s X hk.seek i.bed i.at_ hbd ha _ (by simp; omega) (hw.to ((Below.refl _ w).alloc (Nat.le_refl _) (insBox i)))
  have HAl := Lib.hid ((Below.refl B w).alloc hBw (insBox i))
  obtain ⟨-, -, x2, x3, -, -, -⟩ := ins_box w i (Below.refl _ _)
  unfold Ins.val
  clear hw hk ha
  go_enter Tryz.func66, Tryz.ntmps66
  go_wp2_with fail
  refine HTk.out.mono ?_
  rintro e w1 ⟨v, rfl, hw1, hb1⟩
  have HF := Lib.hid (endOut.go (B := B) (pb := pb) (w := w) (r := (takeS s i.bed i.at_, 0)) rfl hw1.less (HAl.out.trans hb1))
  clear hw1 hb1
  go_wp2
  refine bodyPost_end (results_none rfl _ _ _) rfl ?_
  exact HF.out
end Go.Proofs.YtbnddpknejgmhaaGreat
namespace Go.Proofs.YtbnddpknejgmhaaGreat
open Go.RowKit Go.Shelf Go.Sort
set_option maxRecDepth 100000

theorem flat_cut {α : Type} (g : α → List Value) (hg : ∀ x, (g x).length = 3) : ∀ (k : Nat) (L : List α), (L.map g).flatten.take (k * 3) = ((L.take k).map g).flatten ∧ (L.map g).flatten.drop (k * 3) = ((L.drop k).map g).flatten := by
  intro k
  induction k with
  | zero => intro L; simp
  | succ k ih =>
    intro L
    cases L with
    | nil => simp
    | cons a L =>
      simp only [List.map_cons, List.flatten_cons, List.take_succ_cons, List.drop_succ_cons]
      rw [show (k + 1) * 3 = (g a).length + k * 3 by rw [hg]; omega, List.take_length_add_append, List.drop_length_add_append, (ih L).1, (ih L).2]
      exact ⟨rfl, rfl⟩
theorem fd_len (x : Fd) : x.cells.length = 3 := rfl
/-- What a step asks of the carriers. -/
structure FdOk (s : BedS) : Prop where
  len : s.feeds.length ≤ 9000
  ok : ∀ f ∈ s.feeds, feedOk f = true
  ris : risB ltF s.feeds = true
theorem FdOk.car {s : BedS} (h : FdOk s) : ∀ f ∈ s.feeds, carP f.car := fun f hf => by
  have := h.ok f hf
  unfold feedOk at this
  rw [Bool.and_eq_true] at this
  exact of_decide_eq_true this.1
def changeS (s : BedS) (i : Ins) : BedS × Int :=
  if i.op = 1 then (if (feedAt s.feeds i.car).isSome then (bed0, 36) else ({ s with feeds := setF (keyF i.car) [⟨i.car, true, 0⟩] s.feeds }, 0))
  else (if (feedAt s.feeds i.car).isSome then ({ s with feeds := setF (keyF i.car) [] s.feeds }, 0) else (bed0, 36))
/-- What carrier has found. -/
theorem found_car {l : List Fd} {c : Int} (h : risB ltF l = true) {k : Nat} {q : Bool} (hf : Found (cmpF l c) l.length k q) :
    k ≤ l.length ∧ (feedAt l c).isSome = q ∧ (q = true → (∃ f, l[k]? = some f ∧ feedAt l c = some f ∧ f.car = c) ∧ ∀ xs, setF (keyF c) xs l = l.take k ++ (xs ++ l.drop (k + 1))) ∧ (q = false → ∀ xs, setF (keyF c) xs l = l.take k ++ (xs ++ l.drop k)) := by
  have h1 := found_feed h hf
  have h2 := found_split (f := keyF c) (d := defF) (monoF h c) hf
  refine ⟨hf.le, ?_, fun hq => ⟨?_, fun xs => ?_⟩, fun hq xs => ?_⟩
  · cases q with
    | true => obtain ⟨f, _, e⟩ := h1.1 rfl; rw [e]; rfl
    | false => rw [h1.2 rfl]; rfl
  · obtain ⟨f, e1, e2⟩ := h1.1 hq
    refine ⟨f, e1, e2, ?_⟩
    unfold feedAt at e2
    have := List.find?_some e2
    simpa using this
  · unfold setF; rw [h2.1, (h2.2.1 hq).2]
  · unfold setF; rw [h2.1, (h2.2.2 hq).1]
set_option maxHeartbeats 4000000 in
theorem change_any (B pb : Nat) (s : BedS) (i : Ins) (X : List Own) (hf : FdOk s) (hop : i.op = 1 ∨ i.op = 2) (hc : carP i.car) (w : World) (hBw : B ≤ w.heap.size) (hw : WorkX 84 w B pb s X) :
    Calls Tryz.prog 63 #[.pointer (some ⟨pb, 0, none⟩), i.val] w fun e w' => endOut B pb (changeS s i) X w e w' := by
  obtain ⟨hv, mv, vh, vf, vm, hw⟩ := hw
  obtain ⟨A, c, rfl, hlc, -⟩ := hw.slf
  have hal := (Below.refl w.heap.size w).alloc (Nat.le_refl _) (insBox i)
  have hw1 := hw.to hal
  have HAl := Lib.hid hal
  have HX := Lib.hid (fun W hb => ins_box w i (W := W) hb)
  have HCa : Hid (Calls Tryz.prog 94 #[.pointer (some ⟨pb, 0, none⟩), .int .i64 i.car] (w.alloc (insBox i)) fun e w' => ∃ (k : Nat) (q : Bool), e = .returned (.tuple #[.int .i64 (k : Int), .bool q]) ∧ Found (cmpF s.feeds i.car) s.feeds.length k q ∧ Below (w.alloc (insBox i)).heap.size (w.alloc (insBox i)) w') := by
    obtain ⟨A0, c0, e0, -, hsl⟩ := hw1.slf
    cases e0
    exact carrier_any pb A c s.feeds (by have := hf.len; omega) hf.car i.car hc hf.ris _ hw1.cells.2.2.1 hsl
  have HF := Lib.hid hf
  have HW1 := Lib.hid hw1
  have hlen : s.feeds.length ≤ 9000 := hf.len
  unfold Ins.val
  clear hw hw1 hal hf
  go_enter Tryz.func63, Tryz.ntmps63
  go_upto_region 1 with fail
  obtain ⟨x0, x1, x2, x3, x4, x5, x6⟩ := HX.out _ (Below.refl _ _)
  go_wp2_with fail
  refine HCa.out.mono ?_
  rintro e w1 ⟨k, q, rfl, hfo, hb1⟩
  have HFo := Lib.hid (found_car HF.out.ris hfo)
  have hkl := hfo.le
  have HW2 := Lib.hid (HW1.out.to hb1)
  have HB1 := Lib.hid ((HAl.out.mono hBw).trans (hb1.mono (by simp; omega)))
  obtain ⟨y0, y1, y2, y3, y4, y5, y6⟩ := HX.out w1 (hb1.mono (by simp))
  simp only [Nat.zero_add] at y0 y1 y2 y3 y4 y5 y6
  clear hfo hb1 HCa x0 x1 x2 x3 x4 x5 x6
  have hcs := HW2.out.cells
  obtain ⟨-, -, c2, -, c4⟩ := hcs
  have c4' := c4 2
  have hpl := HW2.out.base
  clear c4
  have hrf : w1.ownsRow B 90 3 (.slice A s.feeds.length c) s.feeds.length (s.feeds.map Fd.cells).flatten := HW2.out.rf
  have HRf := Lib.hid hrf
  clear hrf
  cases q with
  | true =>
    rcases hop with hop | hop
    · have hb2 : (i.op == 1) = true := by simp [hop]
      have HE : Hid (changeS s i = (bed0, 36)) := by unfold Hid changeS; rw [if_pos hop, HFo.out.2.1]; rfl
      have HR := Lib.hid (endOut.stop (pb := pb) (X := X) HE.out (by decide) (WorkX.owns ⟨hv, mv, vh, _, vm, HW2.out⟩) HB1.out)
      unfold stopE stopV at HR
      clear hop HE
      go_wp2
      exact ⟨rfl, HR.out⟩
    · have hb2 : (i.op == 1) = false := beq_eq_false_iff_ne.2 (by omega)
      obtain ⟨f, hfk, -, -⟩ := (HFo.out.2.2.1 rfl).1
      have hkl2 : k < s.feeds.length := (List.getElem?_eq_some_iff.1 hfk).1
      obtain ⟨g, rfl⟩ : ∃ g, A = some ⟨g, 0, none⟩ := by
        obtain ⟨g, cap, e, _⟩ := World.ownsRow.form HRf.out (by omega)
        exact ⟨g, (Value.slice.inj e).1⟩
      have hk9 : k < 9000 := by omega
      have HD : Hid (∀ z : Int, z = (k : Int) + 1 → Calls Tryz.prog 95 #[.slice (some ⟨g, 0, none⟩) s.feeds.length c, .int .i64 k, .int .i64 z] w1 fun e w' =>
          e = .returned (.slice (some ⟨g, 0, none⟩) (s.feeds.length - 1) c) ∧ w'.ownsRow B 90 3 (.slice (some ⟨g, 0, none⟩) (s.feeds.length - 1) c) (s.feeds.length - 1) ((s.feeds.take k ++ s.feeds.drop (k + 1)).map Fd.cells).flatten ∧ w1.grownBy w' (some g)) := by
        rintro z rfl
        have := deleteF_any B g s.feeds.length c k (s.feeds.map Fd.cells).flatten (one3f _) (by omega) w1 HRf.out hkl2 (k + 1) rfl
        rw [(flat_cut Fd.cells fd_len k s.feeds).1, (flat_cut Fd.cells fd_len (k + 1) s.feeds).2, ← List.flatten_append, ← List.map_append] at this
        exact this
      have HE : Hid (changeS s i = ({ s with feeds := s.feeds.take k ++ s.feeds.drop (k + 1) }, 0)) := by
        unfold Hid changeS
        rw [if_neg (by omega), HFo.out.2.1, if_pos rfl, (HFo.out.2.2.1 rfl).2 []]
        rfl
      clear hop hfk
      go_wp2_with fail
      refine (HD.out _ rfl).mono ?_
      rintro e w2 ⟨rfl, ho, hg⟩
      obtain ⟨-, -, d1, -, d4⟩ := HW2.out.struct hg HW2.out.pbF
      have d4' := d4 2
      have HO : Hid (endOut B pb (changeS s i) X w (.returned (.tuple #[])) (w2.setCell ⟨pb, 2, none⟩ (.slice (some ⟨g, 0, none⟩) (s.feeds.length - 1) c))) := by
        refine endOut.go HE.out ⟨hv, mv, vh, _, vm, HW2.out.setFeeds hg ?_ (fun k hk => Or.inl hk)⟩ ((HB1.out.trans (Below.of_grown hg (by omega) (fun k hk => (World.ownsRow.lt HRf.out k hk).1))).setCell (by exact hpl.1) _)
        have e1 : (s.feeds.take k ++ s.feeds.drop (k + 1)).length = s.feeds.length - 1 := by simp; omega
        unfold rowF Own.lies
        rw [e1]
        exact ho
      clear ho hg d4 HD
      go_wp2
      refine bodyPost_end (results_none rfl _ _ _) rfl ?_
      exact HO.out
  | false =>
    rcases hop with hop | hop
    · have hb2 : (i.op == 1) = true := by simp [hop]
      have HE : Hid (changeS s i = ({ s with feeds := s.feeds.take k ++ ⟨i.car, true, 0⟩ :: s.feeds.drop k }, 0)) := by
        unfold Hid changeS
        rw [if_pos hop, HFo.out.2.1, if_neg (by simp), HFo.out.2.2.2 rfl]
        rfl
      have HWl : Hid (∀ o, WorkAt 84 (w1.drew.alloc o) B pb s hv mv vh (.slice A s.feeds.length c) vm X) := fun o => HW2.out.to ((Below.drew (Below.refl _ _)).alloc (Nat.le_refl _) _)
      have HIn : Hid (Calls Tryz.prog 96 #[.slice A s.feeds.length c, .int .i64 k, .slice (some ⟨w1.heap.size, 0, none⟩) 1 1] (w1.drew.alloc (.cells #[.int .i64 i.car, .bool true, .int .i64 0] 90)) fun e w' => insOutF B s.feeds.length (.slice A s.feeds.length c) ((s.feeds.take k ++ ⟨i.car, true, 0⟩ :: s.feeds.drop k).map Fd.cells).flatten (w1.drew.alloc (.cells #[.int .i64 i.car, .bool true, .int .i64 0] 90)) e w') := by
        have e1 : ((s.feeds.take k ++ (⟨i.car, true, 0⟩ : Fd) :: s.feeds.drop k).map Fd.cells).flatten = (s.feeds.map Fd.cells).flatten.take (k * 3) ++ ([.int .i64 i.car, .bool true, .int .i64 0] ++ (s.feeds.map Fd.cells).flatten.drop (k * 3)) := by
          rw [(flat_cut Fd.cells fd_len k s.feeds).1, (flat_cut Fd.cells fd_len k s.feeds).2]; simp [Fd.cells]
        rw [e1]
        refine insertF_any B s.feeds.length k _ _ (one3f _) (by omega) _ (HWl.out _).rf hkl (by show B ≤ (w1.alloc _).heap.size; simp; omega) w1.heap.size 1 [.int .i64 i.car, .bool true, .int .i64 0] rfl (heap_alloc_new w1.drew _) (by intro u hu; simp only [List.mem_cons, List.not_mem_nil, or_false] at hu; rcases hu with rfl | rfl | rfl <;> rfl) ?_
        intro e
        have := (World.ownsRow.lt HRf.out _ e).2
        omega
      clear hop
      go_upto_region 2 with fail
      have c2d : w1.drew.cell? ⟨pb, 2, none⟩ = some (.slice A s.feeds.length c) := c2
      have y5d : w1.drew.cell? ⟨w.heap.size, 5, none⟩ = some (.int .i64 i.car) := y5
      have c2a := cell_al c2 (.cells #[.int .i64 i.car, .bool true, .int .i64 0] 90)
      go_region_with (first | (go_at_call 96; refine HIn.out.mono ?_; rintro e w2 ⟨g, c', rfl, ho, hg, hat⟩; obtain ⟨-, -, d1, -, d4⟩ := (HWl.out _).struct hg HW2.out.pbF; have d4' := d4 2; clear d4))
      all_goals
        have HO : Hid (endOut B pb (changeS s i) X w (.returned (.tuple #[])) (w2.setCell ⟨pb, 2, none⟩ (.slice (some ⟨g, 0, none⟩) (s.feeds.length + 1) c'))) := by
          refine endOut.go HE.out ⟨hv, mv, vh, _, vm, (HWl.out _).setFeeds hg ?_ (fun k hk => ?_)⟩ ((((HB1.out.drew).alloc (by show B ≤ w1.heap.size; omega) _).trans (Below.of_grown hg (by simp; omega) (fun k hk => (World.ownsRow.lt (HWl.out (.cells #[.int .i64 i.car, .bool true, .int .i64 0] 90)).rf k hk).1))).setCell (by exact hpl.1) _)
          · have e1 : (s.feeds.take k ++ (⟨i.car, true, 0⟩ : Fd) :: s.feeds.drop k).length = s.feeds.length + 1 := by simp; omega
            unfold rowF Own.lies
            rw [e1]
            exact ho
          · obtain rfl : g = k := Option.some.inj hk
            rcases hat with h | h
            · exact Or.inl h
            · exact Or.inr (by omega)
        clear ho hg hat HWl HIn
        go_wp2
        refine bodyPost_end (results_none rfl _ _ _) rfl ?_
        exact HO.out
    · have hb2 : (i.op == 1) = false := beq_eq_false_iff_ne.2 (by omega)
      have HE : Hid (changeS s i = (bed0, 36)) := by unfold Hid changeS; rw [if_neg (by omega), HFo.out.2.1]; rfl
      have HR := Lib.hid (endOut.stop (pb := pb) (X := X) HE.out (by decide) (WorkX.owns ⟨hv, mv, vh, _, vm, HW2.out⟩) HB1.out)
      unfold stopE stopV at HR
      clear hop HE
      go_wp2
      exact ⟨rfl, HR.out⟩
end Go.Proofs.YtbnddpknejgmhaaGreat
