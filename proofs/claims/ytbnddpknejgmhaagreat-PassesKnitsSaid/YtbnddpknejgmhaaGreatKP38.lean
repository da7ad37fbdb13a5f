/- Layer 30: do, for each of its methods. -/
import Derived.Test.YtbnddpknejgmhaaGreatKP37
namespace Go.Proofs.YtbnddpknejgmhaaGreat
open Go.RowKit Go.Shelf Go.Sort
set_option maxRecDepth 100000

/-- The cell of a result, as a row. -/
def rowR (rb : Nat) (x : Int) : Own := ⟨29, 1, 1, .slice (some ⟨rb, 0, none⟩) 1 1, [.int .i64 x]⟩
theorem rowR_new (w : World) (x : Int) : (rowR w.heap.size x).lies (w.alloc (.cells #[.int .i64 x] 29)) w.heap.size := World.ownsRow_lit w #[.int .i64 x] 1 (Nat.le_refl _) (by decide) rfl
theorem rowR_at {w : World} {B rb : Nat} {x : Int} (h : (rowR rb x).lies w B) : w.cell? ⟨rb, 0, none⟩ = some (.int .i64 x) ∧ w.frozen? ⟨rb, 0, none⟩ = false ∧ B ≤ rb ∧ rb < w.heap.size := by
  have h : w.ownsRow B 29 1 (.slice (some ⟨rb, 0, none⟩) 1 1) 1 [.int .i64 x] := h
  exact ⟨h.cellAt 0 (by decide), h.frozenAt 0, (World.ownsRow.lt h rb rfl).1, (World.ownsRow.lt h rb rfl).2⟩
/-- The result is stored. -/
theorem rowR_set {T : TypeId} {w : World} {B pb rb : Nat} {s : BedS} {x y : Int} {X : List Own} (h : WorkX T w B pb s (rowR rb x :: X)) : WorkX T (w.setCell ⟨rb, 0, none⟩ (.int .i64 y)) B pb s (rowR rb y :: X) := by
  have h0 : w.ownsRow B 29 1 (.slice (some ⟨rb, 0, none⟩) 1 1) 1 [.int .i64 x] := h.row List.mem_cons_self
  obtain ⟨h1, h2⟩ := World.ownsRow.stored h0 0 (.int .i64 y)
  exact h.turn h2 h1 (fun k hk => Or.inl hk)
/-- What do ends in. -/
def doOut (B pb : Nat) (r : BedS × Int) (X : List Own) (w : World) (e : Ending) (w' : World) : Prop :=
  e = .returned (.int .i64 r.2) ∧ (r.2 = 0 → WorkX 84 w' B pb r.1 X) ∧ Owns w' B X ∧ Below B w w'
theorem end_cases {B pb : Nat} {r : BedS × Int} {X : List Own} {w w' : World} {e : Ending} (h : endOut B pb r X w e w') : (r.2 = 0 ∧ e = .returned (.tuple #[]) ∧ WorkX 84 w' B pb r.1 X ∧ Below B w w') ∨ (r.2 ≠ 0 ∧ e = stopE r.2 ∧ Owns w' B X ∧ Below B w w') := by
  unfold endOut at h
  split at h
  · rename_i hz; exact Or.inl ⟨hz, h⟩
  · rename_i hz; exact Or.inr ⟨hz, h⟩
/-- The world behind the call: the instruction's box, the result's cell. -/
abbrev doW (w : World) (i : Ins) : World := (w.alloc (insBox i)).alloc (.cells #[.int .i64 0] 29)
theorem doW_x {T : TypeId} {w : World} {B pb : Nat} {s : BedS} {X : List Own} (h : WorkX T w B pb s X) (i : Ins) : WorkX T (doW w i) B pb s (rowR (w.heap.size + 1) 0 :: rowX w.heap.size i :: X) := by
  have hw1 : WorkX T (w.alloc (insBox i)) B pb s (rowX w.heap.size i :: X) := h.add ((Below.refl _ w).alloc (Nat.le_refl _) (insBox i)) (rowX_new w i)
  have := hw1.add ((Below.refl _ _).alloc (Nat.le_refl _) _) (rowR_new _ 0)
  simpa using this
theorem doW_b (w : World) (i : Ins) {B : Nat} (h : B ≤ w.heap.size) : Below B w (doW w i) := ((Below.refl B w).alloc h _).alloc (by simp; omega) _
theorem do_go {B pb : Nat} {r : BedS × Int} {X : List Own} {w w1 : World} {i : Ins} {rb : Nat} (hB : B ≤ w.heap.size) (hz : r.2 = 0) (h : WorkX 84 w1 B pb r.1 (rowR rb 0 :: rowX w.heap.size i :: X)) (hb : Below B (doW w i) w1) : doOut B pb r X w (.returned (.int .i64 0)) (w1.setCell ⟨rb, 0, none⟩ (.int .i64 0)) :=
  ⟨by rw [hz], fun _ => (rowR_set h).less.less, (rowR_set (y := 0) h).less.less.owns, ((doW_b w i hB).trans hb).setCell (p := ⟨rb, 0, none⟩) (rowR_at (h.row List.mem_cons_self)).2.2.1 _⟩
theorem owns_set {w : World} {B rb : Nat} {x y : Int} {L : List Own} (h : Owns w B (rowR rb x :: L)) : Owns (w.setCell ⟨rb, 0, none⟩ (.int .i64 y)) B (rowR rb y :: L) := by
  have h0 : w.ownsRow B 29 1 (.slice (some ⟨rb, 0, none⟩) 1 1) 1 [.int .i64 x] := h.head
  obtain ⟨h1, h2⟩ := World.ownsRow.stored h0 0 (.int .i64 y)
  exact h.turn h2 h1 (fun k hk => Or.inl hk)
theorem do_stop {B pb : Nat} {r : BedS × Int} {X : List Own} {w w1 : World} {i : Ins} {rb : Nat} {o : Obj} (hB : B ≤ w.heap.size) (hz : r.2 ≠ 0) (h : Owns w1 B (rowR rb 0 :: rowX w.heap.size i :: X)) (hb : Below B (doW w i) w1) : doOut B pb r X w (.returned (.int .i64 r.2)) ((w1.setCell ⟨rb, 0, none⟩ (.int .i64 r.2)).alloc o) := by
  have hb1 : Below B w (w1.setCell ⟨rb, 0, none⟩ (.int .i64 r.2)) := ((doW_b w i hB).trans hb).setCell (p := ⟨rb, 0, none⟩) (rowR_at h.head).2.2.1 _
  exact ⟨rfl, fun h0 => absurd h0 hz, ((owns_set h).tail.tail).to ((Below.refl _ _).alloc (Nat.le_refl _) _), hb1.alloc (Nat.le_trans hB hb1.size) _⟩

theorem yarn_any (B pb : Nat) (s : BedS) (i : Ins) (X : List Own) (hk : StOk s) (hf : FdOk s) (hmd : s.made.length ≤ 3999) (hop : 3 ≤ i.op ∧ i.op ≤ 6) (hbd : 0 ≤ i.bed ∧ i.bed ≤ 1) (ha : needleP i.at_) (ht : needleP i.to_) (hc : carP i.car) (w : World) (hBw : B ≤ w.heap.size) (hw : WorkX 84 w B pb s X) :
    Calls Tryz.prog 62 #[.pointer (some ⟨pb, 0, none⟩), i.val] w fun e w' => endOut B pb (yarnS s i) X w e w' := by
  by_cases h3 : i.op = 3
  · exact yarn2_any B pb s i X hk hf hmd h3 hbd ha ht hc w hBw hw
  by_cases h6 : i.op = 6
  · exact yarn3_any B pb s i X hk hf hmd h6 hbd ha ht hc w hBw hw
  exact yarn1_any B pb s i X hk hf (by omega) hbd ha hc w hBw hw

set_option maxHeartbeats 4000000 in
theorem doRack_any (B pb : Nat) (s : BedS) (i : Ins) (X : List Own) (hop : i.op = 8) (w : World) (hBw : B ≤ w.heap.size) (hw : WorkX 84 w B pb s X) :
    Calls Tryz.prog 30 #[.pointer (some ⟨pb, 0, none⟩), i.val] w fun e w' => doOut B pb (doI s i) X w e w' := by
  have hE : doI s i = ({ s with rack := i.rack }, 0) := by
    unfold doI
    rw [if_neg (by rw [hop]; decide), if_neg (by rw [hop]; decide), if_pos hop]
  have HM : Hid (Calls Tryz.prog 65 #[.pointer (some ⟨pb, 0, none⟩), i.val] (doW w i) fun e w' => endOut B pb (doI s i) (rowR (w.heap.size + 1) 0 :: rowX w.heap.size i :: X) (doW w i) e w') := by
    rw [hE]
    exact rack_any B pb s i _ (doW w i) (by simp; omega) (doW_x hw i)
  have HS := Lib.hid (rowX_at (B := B) ((doW_x hw i).row (o := rowX w.heap.size i) (by simp)))
  have hmf : ∀ (fn : Fn) (first cap : Array Value) (w : World), (Instr.makeFunc fn first cap).run Tryz.prog w = .ok (.func fn first cap) w := fun _ _ _ _ => rfl
  have b1 : (i.op == 1) = false := by rw [hop]; rfl
  have b2 : (i.op == 2) = false := by rw [hop]; rfl
  have b7 : (i.op == 7) = false := by rw [hop]; rfl
  have b8 : (i.op == 8) = true := by rw [hop]; rfl
  obtain ⟨r, hr⟩ : ∃ r, r = doI s i := ⟨_, rfl⟩
  rw [← hr] at HM ⊢
  have HB := Lib.hid hBw
  unfold Ins.val at HM ⊢
  clear hw hr hE hBw hop
  go_enter_defers Tryz.func30, Tryz.ntmps30
  go_wp2_with fail
  refine HM.out.mono ?_
  intro e w1 h1
  rcases end_cases h1 with ⟨hz, rfl, hw1, hb1⟩ | ⟨hz, rfl, ho1, hb1⟩
  · obtain ⟨q1, q2, -, -⟩ := rowR_at (B := B) (hw1.row (o := rowR (w.heap.size + 1) 0) (by simp))
    have HD := Lib.hid (do_go HB.out hz hw1 hb1)
    clear h1 hz hw1 hb1
    go_wp2
    refine leaves_cons (f := 61) (args := #[.pointer (some ⟨w.heap.size + 1, 0, none⟩)]) (by simp) (by simp [go_sem]) ?_
    refine (do1_idle ⟨w.heap.size + 1, 0, none⟩ _).mono ?_
    rintro e u' w'' ⟨rfl, rfl, rfl⟩
    simp [Leaves, settle, results, Tryz.results30, go_sem, q1]
    exact HD.out
  · obtain ⟨q1, q2, -, hl⟩ := rowR_at (B := B) ho1.head
    have HD := Lib.hid (do_stop (pb := pb) (r := r) (o := .cells #[.int .i64 r.2] 119) HB.out hz ho1 hb1)
    clear h1 hz ho1 hb1
    unfold stopE stopV
    go_wp2
    refine leaves_cons (f := 61) (args := #[.pointer (some ⟨w.heap.size + 1, 0, none⟩)]) (by simp) (by simp [go_sem]) ?_
    refine (do1_stop (w.heap.size + 1) r.2 0 _ q1 q2).mono ?_
    rintro e u' w'' ⟨rfl, rfl, rfl⟩
    simp [Leaves, settle, results, Tryz.results30, go_sem, q1, hl]
    exact HD.out

set_option maxHeartbeats 4000000 in
theorem doDrop_any (B pb : Nat) (s : BedS) (i : Ins) (X : List Own) (hk : StOk s) (hbd : 0 ≤ i.bed ∧ i.bed ≤ 1) (ha : needleP i.at_) (hop : i.op = 9) (w : World) (hBw : B ≤ w.heap.size) (hw : WorkX 84 w B pb s X) :
    Calls Tryz.prog 30 #[.pointer (some ⟨pb, 0, none⟩), i.val] w fun e w' => doOut B pb (doI s i) X w e w' := by
  have hE : doI s i = (takeS s i.bed i.at_, 0) := by
    unfold doI
    rw [if_neg (by rw [hop]; decide), if_neg (by rw [hop]; decide), if_neg (by rw [hop]; decide), if_pos hop]
  have HM : Hid (Calls Tryz.prog 66 #[.pointer (some ⟨pb, 0, none⟩), i.val] (doW w i) fun e w' => endOut B pb (doI s i) (rowR (w.heap.size + 1) 0 :: rowX w.heap.size i :: X) (doW w i) e w') := by
    rw [hE]
    exact drop_any B pb s i _ hk hbd ha (doW w i) (by simp; omega) (doW_x hw i)
  have HS := Lib.hid (rowX_at (B := B) ((doW_x hw i).row (o := rowX w.heap.size i) (by simp)))
  have hmf : ∀ (fn : Fn) (first cap : Array Value) (w : World), (Instr.makeFunc fn first cap).run Tryz.prog w = .ok (.func fn first cap) w := fun _ _ _ _ => rfl
  have b1 : (i.op == 1) = false := by rw [hop]; rfl
  have b2 : (i.op == 2) = false := by rw [hop]; rfl
  have b7 : (i.op == 7) = false := by rw [hop]; rfl
  have b8 : (i.op == 8) = false := by rw [hop]; rfl
  have b9 : (i.op == 9) = true := by rw [hop]; rfl
  obtain ⟨r, hr⟩ : ∃ r, r = doI s i := ⟨_, rfl⟩
  rw [← hr] at HM ⊢
  have HB := Lib.hid hBw
  unfold Ins.val at HM ⊢
  clear hw hr hE hBw hop hk hbd ha
  go_enter_defers Tryz.func30, Tryz.ntmps30
  go_wp2_with fail
  refine HM.out.mono ?_
  intro e w1 h1
  rcases end_cases h1 with ⟨hz, rfl, hw1, hb1⟩ | ⟨hz, rfl, ho1, hb1⟩
  · obtain ⟨q1, q2, -, -⟩ := rowR_at (B := B) (hw1.row (o := rowR (w.heap.size + 1) 0) (by simp))
    have HD := Lib.hid (do_go HB.out hz hw1 hb1)
    clear h1 hz hw1 hb1
    go_wp2
    refine leaves_cons (f := 61) (args := #[.pointer (some ⟨w.heap.size + 1, 0, none⟩)]) (by simp) (by simp [go_sem]) ?_
    refine (do1_idle ⟨w.heap.size + 1, 0, none⟩ _).mono ?_
    rintro e u' w'' ⟨rfl, rfl, rfl⟩
    simp [Leaves, settle, results, Tryz.results30, go_sem, q1]
    exact HD.out
  · obtain ⟨q1, q2, -, hl⟩ := rowR_at (B := B) ho1.head
    have HD := Lib.hid (do_stop (pb := pb) (r := r) (o := .cells #[.int .i64 r.2] 119) HB.out hz ho1 hb1)
    clear h1 hz ho1 hb1
    unfold stopE stopV
    go_wp2
    refine leaves_cons (f := 61) (args := #[.pointer (some ⟨w.heap.size + 1, 0, none⟩)]) (by simp) (by simp [go_sem]) ?_
    refine (do1_stop (w.heap.size + 1) r.2 0 _ q1 q2).mono ?_
    rintro e u' w'' ⟨rfl, rfl, rfl⟩
    simp [Leaves, settle, results, Tryz.results30, go_sem, q1, hl]
    exact HD.out

set_option maxHeartbeats 4000000 in
theorem doMove_any (B pb : Nat) (s : BedS) (i : Ins) (X : List Own) (hk : StOk s) (hbd : 0 ≤ i.bed ∧ i.bed ≤ 1) (ha : needleP i.at_) (ht : needleP i.to_) (hop : i.op = 7) (w : World) (hBw : B ≤ w.heap.size) (hw : WorkX 84 w B pb s X) :
    Calls Tryz.prog 30 #[.pointer (some ⟨pb, 0, none⟩), i.val] w fun e w' => doOut B pb (doI s i) X w e w' := by
  have hE : doI s i = moveS s i := by
    unfold doI
    rw [if_neg (by rw [hop]; decide), if_neg (by rw [hop]; decide), if_neg (by rw [hop]; decide), if_neg (by rw [hop]; decide), if_pos hop]; rfl
  have HM : Hid (Calls Tryz.prog 64 #[.pointer (some ⟨pb, 0, none⟩), i.val] (doW w i) fun e w' => endOut B pb (doI s i) (rowR (w.heap.size + 1) 0 :: rowX w.heap.size i :: X) (doW w i) e w') := by
    rw [hE]
    exact move_any B pb s i _ hk hbd ha ht (doW w i) (by simp; omega) (doW_x hw i)
  have HS := Lib.hid (rowX_at (B := B) ((doW_x hw i).row (o := rowX w.heap.size i) (by simp)))
  have hmf : ∀ (fn : Fn) (first cap : Array Value) (w : World), (Instr.makeFunc fn first cap).run Tryz.prog w = .ok (.func fn first cap) w := fun _ _ _ _ => rfl
  have b1 : (i.op == 1) = false := by rw [hop]; rfl
  have b2 : (i.op == 2) = false := by rw [hop]; rfl
  have b7 : (i.op == 7) = true := by rw [hop]; rfl
  obtain ⟨r, hr⟩ : ∃ r, r = doI s i := ⟨_, rfl⟩
  rw [← hr] at HM ⊢
  have HB := Lib.hid hBw
  unfold Ins.val at HM ⊢
  clear hw hr hE hBw hop hk hbd ha ht
  go_enter_defers Tryz.func30, Tryz.ntmps30
  go_wp2_with fail
  refine HM.out.mono ?_
  intro e w1 h1
  rcases end_cases h1 with ⟨hz, rfl, hw1, hb1⟩ | ⟨hz, rfl, ho1, hb1⟩
  · obtain ⟨q1, q2, -, -⟩ := rowR_at (B := B) (hw1.row (o := rowR (w.heap.size + 1) 0) (by simp))
    have HD := Lib.hid (do_go HB.out hz hw1 hb1)
    clear h1 hz hw1 hb1
    go_wp2
    refine leaves_cons (f := 61) (args := #[.pointer (some ⟨w.heap.size + 1, 0, none⟩)]) (by simp) (by simp [go_sem]) ?_
    refine (do1_idle ⟨w.heap.size + 1, 0, none⟩ _).mono ?_
    rintro e u' w'' ⟨rfl, rfl, rfl⟩
    simp [Leaves, settle, results, Tryz.results30, go_sem, q1]
    exact HD.out
  · obtain ⟨q1, q2, -, hl⟩ := rowR_at (B := B) ho1.head
    have HD := Lib.hid (do_stop (pb := pb) (r := r) (o := .cells #[.int .i64 r.2] 119) HB.out hz ho1 hb1)
    clear h1 hz ho1 hb1
    unfold stopE stopV
    go_wp2
    refine leaves_cons (f := 61) (args := #[.pointer (some ⟨w.heap.size + 1, 0, none⟩)]) (by simp) (by simp [go_sem]) ?_
    refine (do1_stop (w.heap.size + 1) r.2 0 _ q1 q2).mono ?_
    rintro e u' w'' ⟨rfl, rfl, rfl⟩
    simp [Leaves, settle, results, Tryz.results30, go_sem, q1, hl]
    exact HD.out

set_option maxHeartbeats 4000000 in
theorem doIn_any (B pb : Nat) (s : BedS) (i : Ins) (X : List Own) (hf : FdOk s) (hc : carP i.car) (hop : i.op = 1) (w : World) (hBw : B ≤ w.heap.size) (hw : WorkX 84 w B pb s X) :
    Calls Tryz.prog 30 #[.pointer (some ⟨pb, 0, none⟩), i.val] w fun e w' => doOut B pb (doI s i) X w e w' := by
  have hE : doI s i = changeS s i := by
    unfold doI
    unfold changeS
    simp only [hop]
    first | rfl | (simp; done)
  have HM : Hid (Calls Tryz.prog 63 #[.pointer (some ⟨pb, 0, none⟩), i.val] (doW w i) fun e w' => endOut B pb (doI s i) (rowR (w.heap.size + 1) 0 :: rowX w.heap.size i :: X) (doW w i) e w') := by
    rw [hE]
    exact change_any B pb s i _ hf (by omega) hc (doW w i) (by simp; omega) (doW_x hw i)
  have HS := Lib.hid (rowX_at (B := B) ((doW_x hw i).row (o := rowX w.heap.size i) (by simp)))
  have hmf : ∀ (fn : Fn) (first cap : Array Value) (w : World), (Instr.makeFunc fn first cap).run Tryz.prog w = .ok (.func fn first cap) w := fun _ _ _ _ => rfl
  have b1 : (i.op == 1) = true := by rw [hop]; rfl
  obtain ⟨r, hr⟩ : ∃ r, r = doI s i := ⟨_, rfl⟩
  rw [← hr] at HM ⊢
  have HB := Lib.hid hBw
  unfold Ins.val at HM ⊢
  clear hw hr hE hBw hop hf hc
  go_enter_defers Tryz.func30, Tryz.ntmps30
  go_wp2_with fail
  refine HM.out.mono ?_
  intro e w1 h1
  rcases end_cases h1 with ⟨hz, rfl, hw1, hb1⟩ | ⟨hz, rfl, ho1, hb1⟩
  · obtain ⟨q1, q2, -, -⟩ := rowR_at (B := B) (hw1.row (o := rowR (w.heap.size + 1) 0) (by simp))
    have HD := Lib.hid (do_go HB.out hz hw1 hb1)
    clear h1 hz hw1 hb1
    go_wp2
    refine leaves_cons (f := 61) (args := #[.pointer (some ⟨w.heap.size + 1, 0, none⟩)]) (by simp) (by simp [go_sem]) ?_
    refine (do1_idle ⟨w.heap.size + 1, 0, none⟩ _).mono ?_
    rintro e u' w'' ⟨rfl, rfl, rfl⟩
    simp [Leaves, settle, results, Tryz.results30, go_sem, q1]
    exact HD.out
  · obtain ⟨q1, q2, -, hl⟩ := rowR_at (B := B) ho1.head
    have HD := Lib.hid (do_stop (pb := pb) (r := r) (o := .cells #[.int .i64 r.2] 119) HB.out hz ho1 hb1)
    clear h1 hz ho1 hb1
    unfold stopE stopV
    go_wp2
    refine leaves_cons (f := 61) (args := #[.pointer (some ⟨w.heap.size + 1, 0, none⟩)]) (by simp) (by simp [go_sem]) ?_
    refine (do1_stop (w.heap.size + 1) r.2 0 _ q1 q2).mono ?_
    rintro e u' w'' ⟨rfl, rfl, rfl⟩
    simp [Leaves, settle, results, Tryz.results30, go_sem, q1, hl]
    exact HD.out

set_option maxHeartbeats 4000000 in
theorem doOut_any (B pb : Nat) (s : BedS) (i : Ins) (X : List Own) (hf : FdOk s) (hc : carP i.car) (hop : i.op = 2) (w : World) (hBw : B ≤ w.heap.size) (hw : WorkX 84 w B pb s X) :
    Calls Tryz.prog 30 #[.pointer (some ⟨pb, 0, none⟩), i.val] w fun e w' => doOut B pb (doI s i) X w e w' := by
  have hE : doI s i = changeS s i := by
    unfold doI
    unfold changeS
    simp only [hop]
    first | rfl | (simp; done)
  have HM : Hid (Calls Tryz.prog 63 #[.pointer (some ⟨pb, 0, none⟩), i.val] (doW w i) fun e w' => endOut B pb (doI s i) (rowR (w.heap.size + 1) 0 :: rowX w.heap.size i :: X) (doW w i) e w') := by
    rw [hE]
    exact change_any B pb s i _ hf (by omega) hc (doW w i) (by simp; omega) (doW_x hw i)
  have HS := Lib.hid (rowX_at (B := B) ((doW_x hw i).row (o := rowX w.heap.size i) (by simp)))
  have hmf : ∀ (fn : Fn) (first cap : Array Value) (w : World), (Instr.makeFunc fn first cap).run Tryz.prog w = .ok (.func fn first cap) w := fun _ _ _ _ => rfl
  have b1 : (i.op == 1) = false := by rw [hop]; rfl
  have b2 : (i.op == 2) = true := by rw [hop]; rfl
  obtain ⟨r, hr⟩ : ∃ r, r = doI s i := ⟨_, rfl⟩
  rw [← hr] at HM ⊢
  have HB := Lib.hid hBw
  unfold Ins.val at HM ⊢
  clear hw hr hE hBw hop hf hc
  go_enter_defers Tryz.func30, Tryz.ntmps30
  go_wp2_with fail
  refine HM.out.mono ?_
  intro e w1 h1
  rcases end_cases h1 with ⟨hz, rfl, hw1, hb1⟩ | ⟨hz, rfl, ho1, hb1⟩
  · obtain ⟨q1, q2, -, -⟩ := rowR_at (B := B) (hw1.row (o := rowR (w.heap.size + 1) 0) (by simp))
    have HD := Lib.hid (do_go HB.out hz hw1 hb1)
    clear h1 hz hw1 hb1
    go_wp2
    refine leaves_cons (f := 61) (args := #[.pointer (some ⟨w.heap.size + 1, 0, none⟩)]) (by simp) (by simp [go_sem]) ?_
    refine (do1_idle ⟨w.heap.size + 1, 0, none⟩ _).mono ?_
    rintro e u' w'' ⟨rfl, rfl, rfl⟩
    simp [Leaves, settle, results, Tryz.results30, go_sem, q1]
    exact HD.out
  · obtain ⟨q1, q2, -, hl⟩ := rowR_at (B := B) ho1.head
    have HD := Lib.hid (do_stop (pb := pb) (r := r) (o := .cells #[.int .i64 r.2] 119) HB.out hz ho1 hb1)
    clear h1 hz ho1 hb1
    unfold stopE stopV
    go_wp2
    refine leaves_cons (f := 61) (args := #[.pointer (some ⟨w.heap.size + 1, 0, none⟩)]) (by simp) (by simp [go_sem]) ?_
    refine (do1_stop (w.heap.size + 1) r.2 0 _ q1 q2).mono ?_
    rintro e u' w'' ⟨rfl, rfl, rfl⟩
    simp [Leaves, settle, results, Tryz.results30, go_sem, q1, hl]
    exact HD.out

set_option maxHeartbeats 4000000 in
theorem doYarn_any (B pb : Nat) (s : BedS) (i : Ins) (X : List Own) (hk : StOk s) (hf : FdOk s) (hmd : s.made.length ≤ 3999) (hop : 3 ≤ i.op ∧ i.op ≤ 6) (hbd : 0 ≤ i.bed ∧ i.bed ≤ 1) (ha : needleP i.at_) (ht : needleP i.to_) (hc : carP i.car) (w : World) (hBw : B ≤ w.heap.size) (hw : WorkX 84 w B pb s X) :
    Calls Tryz.prog 30 #[.pointer (some ⟨pb, 0, none⟩), i.val] w fun e w' => doOut B pb (doI s i) X w e w' := by
  have hE : doI s i = yarnS s i := by
    unfold doI
    rw [if_neg (by omega), if_neg (by omega), if_neg (by omega), if_neg (by omega), if_neg (by omega)]
  have HM : Hid (Calls Tryz.prog 62 #[.pointer (some ⟨pb, 0, none⟩), i.val] (doW w i) fun e w' => endOut B pb (doI s i) (rowR (w.heap.size + 1) 0 :: rowX w.heap.size i :: X) (doW w i) e w') := by
    rw [hE]
    exact yarn_any B pb s i _ hk hf hmd hop hbd ha ht hc (doW w i) (by simp; omega) (doW_x hw i)
  have HS := Lib.hid (rowX_at (B := B) ((doW_x hw i).row (o := rowX w.heap.size i) (by simp)))
  have hmf : ∀ (fn : Fn) (first cap : Array Value) (w : World), (Instr.makeFunc fn first cap).run Tryz.prog w = .ok (.func fn first cap) w := fun _ _ _ _ => rfl
  have b1 : (i.op == 1) = false := beq_eq_false_iff_ne.2 (by omega)
  have b2 : (i.op == 2) = false := beq_eq_false_iff_ne.2 (by omega)
  have b7 : (i.op == 7) = false := beq_eq_false_iff_ne.2 (by omega)
  have b8 : (i.op == 8) = false := beq_eq_false_iff_ne.2 (by omega)
  have b9 : (i.op == 9) = false := beq_eq_false_iff_ne.2 (by omega)
  obtain ⟨r, hr⟩ : ∃ r, r = doI s i := ⟨_, rfl⟩
  rw [← hr] at HM ⊢
  have HB := Lib.hid hBw
  unfold Ins.val at HM ⊢
  clear hw hr hE hBw hop hk hf hmd hbd ha ht hc
  go_enter_defers Tryz.func30, Tryz.ntmps30
  go_wp2_with fail
  refine HM.out.mono ?_
  intro e w1 h1
  rcases end_cases h1 with ⟨hz, rfl, hw1, hb1⟩ | ⟨hz, rfl, ho1, hb1⟩
  · obtain ⟨q1, q2, -, -⟩ := rowR_at (B := B) (hw1.row (o := rowR (w.heap.size + 1) 0) (by simp))
    have HD := Lib.hid (do_go HB.out hz hw1 hb1)
    clear h1 hz hw1 hb1
    go_wp2
    refine leaves_cons (f := 61) (args := #[.pointer (some ⟨w.heap.size + 1, 0, none⟩)]) (by simp) (by simp [go_sem]) ?_
    refine (do1_idle ⟨w.heap.size + 1, 0, none⟩ _).mono ?_
    rintro e u' w'' ⟨rfl, rfl, rfl⟩
    simp [Leaves, settle, results, Tryz.results30, go_sem, q1]
    exact HD.out
  · obtain ⟨q1, q2, -, hl⟩ := rowR_at (B := B) ho1.head
    have HD := Lib.hid (do_stop (pb := pb) (r := r) (o := .cells #[.int .i64 r.2] 119) HB.out hz ho1 hb1)
    clear h1 hz ho1 hb1
    unfold stopE stopV
    go_wp2
    refine leaves_cons (f := 61) (args := #[.pointer (some ⟨w.heap.size + 1, 0, none⟩)]) (by simp) (by simp [go_sem]) ?_
    refine (do1_stop (w.heap.size + 1) r.2 0 _ q1 q2).mono ?_
    rintro e u' w'' ⟨rfl, rfl, rfl⟩
    simp [Leaves, settle, results, Tryz.results30, go_sem, q1, hl]
    exact HD.out
end Go.Proofs.YtbnddpknejgmhaaGreat
