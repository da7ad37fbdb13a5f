/- Layer 30: yarn, a knitted loop. Layer 30: yarn, a split. Layer 30: the deferred closure of do. -/
import Derived.Test.YtbnddpknejgmhaaGreatKP36
import Derived.Test.YtbnddpknejgmhaaGreatKP14
import Derived.Defers
import Derived.Recover
namespace Go.Proofs.YtbnddpknejgmhaaGreat
open Go.RowKit Go.Shelf Go.Sort
set_option maxRecDepth 100000

theorem keep7 {W : World} {b : Nat} {o : Obj} {v0 v1 v2 v3 v4 v5 v6 : Value} (h : W.cell? ⟨b, 0, none⟩ = some v0 ∧ W.cell? ⟨b, 1, none⟩ = some v1 ∧ W.cell? ⟨b, 2, none⟩ = some v2 ∧ W.cell? ⟨b, 3, none⟩ = some v3 ∧ W.cell? ⟨b, 4, none⟩ = some v4 ∧ W.cell? ⟨b, 5, none⟩ = some v5 ∧ W.cell? ⟨b, 6, none⟩ = some v6) :
    (W.alloc o).cell? ⟨b, 0, none⟩ = some v0 ∧ (W.alloc o).cell? ⟨b, 1, none⟩ = some v1 ∧ (W.alloc o).cell? ⟨b, 2, none⟩ = some v2 ∧ (W.alloc o).cell? ⟨b, 3, none⟩ = some v3 ∧ (W.alloc o).cell? ⟨b, 4, none⟩ = some v4 ∧ (W.alloc o).cell? ⟨b, 5, none⟩ = some v5 ∧ (W.alloc o).cell? ⟨b, 6, none⟩ = some v6 := by
  obtain ⟨h0, h1, h2, h3, h4, h5, h6⟩ := h
  exact ⟨cell_al h0 _, cell_al h1 _, cell_al h2 _, cell_al h3 _, cell_al h4 _, cell_al h5 _, cell_al h6 _⟩
theorem held_take_self {s : BedS} (b n : Int) : heldAt (takeS s b n).hooks b n = [] := by
  unfold takeS
  exact held_put_nil
theorem knit_lay {u : BedS} {i : Ins} {old : List Int} (h : heldAt u.hooks i.bed i.at_ = []) : layS (loopS u i old) i.bed i.at_ [(u.made.length : Int)] = some { loopS u i old with hooks := putAt u.hooks i.bed i.at_ [(u.made.length : Int)] } := by
  have e : heldAt (loopS u i old).hooks i.bed i.at_ = [] := h
  unfold layS
  rw [e, if_neg (by simp)]
  rfl
theorem StOk.loop {u : BedS} (h : StOk u) (hm : u.made.length ≤ 3999) (i : Ins) (old : List Int) : StOk (loopS u i old) :=
  ⟨h.seek, h.loops, h.rack, by unfold loopS; simp; omega⟩
set_option maxHeartbeats 8000000 in
theorem yarn2_any (B pb : Nat) (s : BedS) (i : Ins) (X : List Own) (hk : StOk s) (hf : FdOk s) (hmd : s.made.length ≤ 3999) (hop : i.op = 3) (hbd : 0 ≤ i.bed ∧ i.bed ≤ 1) (ha : needleP i.at_) (ht : needleP i.to_) (hc : carP i.car) (w : World) (hBw : B ≤ w.heap.size) (hw : WorkX 84 w B pb s X) :
    Calls Tryz.prog 62 #[.pointer (some ⟨pb, 0, none⟩), i.val] w fun e w' => endOut B pb (yarnS s i) X w e w' := by
  have hw1 : WorkX 84 (w.alloc (insBox i)) B pb s (rowX w.heap.size i :: X) := hw.add ((Below.refl _ w).alloc (Nat.le_refl _) (insBox i)) (rowX_new w i)
  have hal := (Below.refl B w).alloc hBw (insBox i)
  have HPa := Lib.hid (pass_any B pb s i (rowX w.heap.size i :: X) hk hf hbd ha hc (w.alloc (insBox i)) (by simp; omega) hw1)
  have HK := Lib.hid hk
  have HOp := Lib.hid hop
  have HAl := Lib.hid hal
  have HN := Lib.hid (show _ ∧ _ ∧ _ from ⟨hbd, ha, ht⟩)
  obtain ⟨x0, x1, x2, x3, x4, x5, x6⟩ := rowX_at (B := B) (hw1.row List.mem_cons_self)
  unfold Ins.val at HPa ⊢
  clear hw hw1 hk hf ha hc hal hbd ht hop
  go_enter Tryz.func62, Tryz.ntmps62
  go_wp2_with fail
  refine HPa.out.mono ?_
  intro e w1 h1
  rcases step_cases h1 with ⟨hp, rfl, ho1, hb1⟩ | ⟨t, hp, rfl, hwt, hb1⟩
  · have HE : Hid (yarnS s i = (bed0, 36)) := by unfold Hid yarnS; rw [hp]
    have HR := Lib.hid (endOut.stop (pb := pb) (X := X) HE.out (by decide) ho1.tail (HAl.out.trans hb1))
    unfold stopE stopV at HR ⊢
    clear h1 hp ho1 hb1 HE
    go_wp2
    exact ⟨rfl, HR.out⟩
  have HB1 := Lib.hid (HAl.out.trans hb1)
  have HW1 := Lib.hid hwt
  have HP := Lib.hid hp
  have HKt := Lib.hid (HK.out.pass hp)
  have HMt := Lib.hid (show t.made.length ≤ 3999 by rw [(pass_same hp).2.2]; exact hmd)
  obtain ⟨y0, y1, y2, y3, y4, y5, y6⟩ := rowX_at (B := B) (hwt.row List.mem_cons_self)
  clear h1 hp hb1 hwt HPa HK x0 x1 x2 x3 x4 x5 x6 hmd
  have b4 : (i.op == 4) = false := beq_eq_false_iff_ne.2 (by rw [HOp.out]; decide)
  have b3 : (i.op == 3) = true := by rw [HOp.out]; rfl
  have b6 : (i.op == 6) = false := by rw [HOp.out]; rfl
  have HY : Hid (yarnS s i = knitS (takeS t i.bed i.at_) i (heldAt t.hooks i.bed i.at_)) := by
    unfold Hid yarnS
    rw [HP.out]
    simp only []
    rw [if_neg (by rw [HOp.out]; decide), if_neg (by rw [HOp.out]; decide), if_neg (by rw [HOp.out]; decide)]
  have HTk := Lib.hid (take_any B pb t (rowX w.heap.size i :: X) HKt.out.seek i.bed i.at_ HN.out.1 HN.out.2.1 w1 (by have := HB1.out.size; omega) HW1.out)
  clear HOp HP
  go_wp2_with fail
  refine HTk.out.mono ?_
  rintro e w2 ⟨v, rfl, hw2, hb2⟩
  obtain ⟨old, hold⟩ : ∃ old, old = heldAt t.hooks i.bed i.at_ := ⟨_, rfl⟩
  have HOl : Hid (old.length ≤ 6) := by rw [hold]; exact HKt.out.held _ _
  rw [← hold] at hw2 HY
  have HW2 := Lib.hid hw2
  have HB2 := Lib.hid (HB1.out.trans hb2)
  have HKu0 := Lib.hid (HKt.out.take i.bed i.at_)
  have HMu0 : Hid ((takeS t i.bed i.at_).made.length ≤ 3999) := HMt.out
  clear y0 y1 y2 y3 y4 y5 y6
  obtain ⟨y0, y1, y2, y3, y4, y5, y6⟩ := rowX_at (B := B) (hw2.row (o := rowX w.heap.size i) (by simp))
  clear hold hw2 hb2 HTk HW1 HB1 HKt HMt
  have HY2 := HY
  have HW3 := HW2
  have HB3 := HB2
  have HKu := HKu0
  have HMu := HMu0
  have HHe : Hid (heldAt (takeS t i.bed i.at_).hooks i.bed i.at_ = []) := held_take_self _ _
  obtain ⟨w3, hw3⟩ : ∃ w3, w3 = w2 := ⟨_, rfl⟩
  obtain ⟨u, hu⟩ : ∃ u, u = takeS t i.bed i.at_ := ⟨_, rfl⟩
  rw [← hw3] at HW3 HB3 y0 y1 y2 y3 y4 y5 y6 ⊢
  rw [← hu] at HW3 HKu HMu HHe HY2
  clear HY HW2 HB2 HKu0 HMu0 hw3 hu
  obtain ⟨A, c, rfl, -, hsv⟩ := rowI_form (HW3.out.row (o := rowI v old) List.mem_cons_self)
  have HCl : Hid (Calls Tryz.prog 60 #[.slice A old.length c] w3.drew fun e w' => cloneOut 3 1 old.length (intV old) w3.drew e w') :=
    cloneI_any A c old.length (intV old) (by rw [intV_lenB, Nat.mul_one]) (intV_one' old) (by have := HOl.out; omega) w3.drew (fun hp => by
      obtain ⟨b, off, e, hB, hc⟩ := hsv (fun e => by subst e; simp at hp)
      subst e
      refine ⟨b, off, rfl, hB, fun j z hz => ?_⟩
      have := slI_news (W := w3) (B := w3.heap.size) hsv j z hz
      rwa [addr_plus] at this)
  have hBz3 : B ≤ w3.heap.size := by have := HB3.out.size; omega
  have HLo : Hid (∀ W A2 c2, B ≤ W.heap.size → WorkX 84 W B pb u (rowI (.slice A2 old.length c2) old :: rowI (.slice A old.length c) old :: rowX w.heap.size i :: X) → Calls Tryz.prog 92 #[.pointer (some ⟨pb, 0, none⟩), i.val, .slice A2 old.length c2] W fun e w' => loopOut B pb u i old (rowI (.slice A old.length c) old :: rowX w.heap.size i :: X) W e w') := fun W A2 c2 hB h =>
    loop_any B pb u i _ old _ (by have := HMu.out; omega) W hB h
  unfold Ins.val at HLo
  have HLd : Hid (∀ W A2 c2, B ≤ W.heap.size → WorkX 84 W B pb u (rowI (.slice A2 old.length c2) old :: rowI (.slice A old.length c) old :: rowX w.heap.size i :: X) → Calls Tryz.prog 92 #[.pointer (some ⟨pb, 0, none⟩), .agg #[.int .u8 i.op, .bool i.right, .int .u8 i.bed, .int .i64 i.at_, .int .i64 i.to_, .int .i64 i.car, .int .i64 i.rack], .slice A2 old.length c2] W fun e w' => e = .returned (.int .i64 (u.made.length : Int)) ∧ WorkX 84 w' B pb (loopS u i old) (rowI (.slice A old.length c) old :: rowX w.heap.size i :: X) ∧ Below B W w') := fun W A2 c2 hB h => by
    refine (HLo.out W A2 c2 hB h).mono ?_
    intro e w' hl
    rcases loop_cases hl with ⟨hm, _⟩ | ⟨_, hr⟩
    · have := HMu.out; omega
    · exact hr
  have HLy : Hid (∀ W, B ≤ W.heap.size → WorkX 84 W B pb (loopS u i old) (rowI (.slice A old.length c) old :: rowX w.heap.size i :: X) → Calls Tryz.prog 91 #[.pointer (some ⟨pb, 0, none⟩), .int .u8 i.bed, .int .i64 i.at_, .slice (some ⟨W.heap.size, 0, none⟩) 1 1] (W.alloc (.cells #[.int .i64 (u.made.length : Int)] 3)) fun e w' => e = .returned (.tuple #[]) ∧ WorkX 84 w' B pb { loopS u i old with hooks := putAt u.hooks i.bed i.at_ [(u.made.length : Int)] } X ∧ (w'.cell? ⟨w.heap.size, 0, none⟩ = some (.int .u8 i.op) ∧ w'.cell? ⟨w.heap.size, 1, none⟩ = some (.bool i.right) ∧ w'.cell? ⟨w.heap.size, 2, none⟩ = some (.int .u8 i.bed) ∧ w'.cell? ⟨w.heap.size, 3, none⟩ = some (.int .i64 i.at_) ∧ w'.cell? ⟨w.heap.size, 4, none⟩ = some (.int .i64 i.to_) ∧ w'.cell? ⟨w.heap.size, 5, none⟩ = some (.int .i64 i.car) ∧ w'.cell? ⟨w.heap.size, 6, none⟩ = some (.int .i64 i.rack)) ∧ Below B W w') := fun W hB h => by
    have hka := HKu.out.loop (by have := HMu.out; omega) i old
    refine (lay_any B pb (loopS u i old) (rowI (.slice A old.length c) old :: rowX w.heap.size i :: X) (.slice (some ⟨W.heap.size, 0, none⟩) 1 1) [(u.made.length : Int)] hka.seek hka.loops (by simp) i.bed i.at_ HN.out.1 HN.out.2.1 _ (by simp; omega)
      (h.add (o := rowI (.slice (some ⟨W.heap.size, 0, none⟩) 1 1) [(u.made.length : Int)]) ((Below.refl _ W).alloc (Nat.le_refl _) _) (World.ownsRow_lit W #[.int .i64 (u.made.length : Int)] 1 (Nat.le_refl _) (by decide) rfl))).mono ?_
    intro e w' hs
    rw [knit_lay HHe.out] at hs
    obtain ⟨rfl, hw', hb'⟩ := hs
    exact ⟨rfl, hw'.less.less.less, rowX_at (B := B) (hw'.row (o := rowX w.heap.size i) (by simp)), ((Below.refl B W).alloc hB _).trans hb'⟩
  clear hsv
  go_upto_region 11 with fail
  have HS0 : Hid (w3.drew.cell? ⟨w.heap.size, 0, none⟩ = some (.int .u8 i.op) ∧ w3.drew.cell? ⟨w.heap.size, 1, none⟩ = some (.bool i.right) ∧ w3.drew.cell? ⟨w.heap.size, 2, none⟩ = some (.int .u8 i.bed) ∧ w3.drew.cell? ⟨w.heap.size, 3, none⟩ = some (.int .i64 i.at_) ∧ w3.drew.cell? ⟨w.heap.size, 4, none⟩ = some (.int .i64 i.to_) ∧ w3.drew.cell? ⟨w.heap.size, 5, none⟩ = some (.int .i64 i.car) ∧ w3.drew.cell? ⟨w.heap.size, 6, none⟩ = some (.int .i64 i.rack)) := ⟨y0, y1, y2, y3, y4, y5, y6⟩
  have HW4 : Hid (∀ w4 A2 c2, Below w3.drew.heap.size w3.drew w4 → (Own.mk 3 1 old.length (.slice A2 old.length c2) (intV old)).lies w4 w3.drew.heap.size → B ≤ w4.heap.size ∧ Below B w w4 ∧ WorkX 84 w4 B pb u (rowI (.slice A2 old.length c2) old :: rowI (.slice A old.length c) old :: rowX w.heap.size i :: X)) := fun w4 A2 c2 hb hr =>
    ⟨Nat.le_trans hBz3 hb.size, (HB3.out.drew).trans (hb.mono hBz3), (HW3.out.to (Below.drew (Below.refl _ _))).add (o := rowI (.slice A2 old.length c2) old) hb hr⟩
  go_region_held3 (fun W => W.cell? ⟨w.heap.size, 0, none⟩ = some (.int .u8 i.op) ∧ W.cell? ⟨w.heap.size, 1, none⟩ = some (.bool i.right) ∧ W.cell? ⟨w.heap.size, 2, none⟩ = some (.int .u8 i.bed) ∧ W.cell? ⟨w.heap.size, 3, none⟩ = some (.int .i64 i.at_) ∧ W.cell? ⟨w.heap.size, 4, none⟩ = some (.int .i64 i.to_) ∧ W.cell? ⟨w.heap.size, 5, none⟩ = some (.int .i64 i.car) ∧ W.cell? ⟨w.heap.size, 6, none⟩ = some (.int .i64 i.rack))
    (first | exact HS0.out | assumption | exact keep7 (by assumption))
    (first
    | (go_at_call 60; refine HCl.out.mono ?_; rintro e w4 ⟨A2, c2, rfl, hrow, hb4⟩; obtain ⟨hBz4, hbw4, hw4⟩ := HW4.out w4 A2 c2 hb4 hrow; have hS4 := rowX_at (B := B) (hw4.row (o := rowX w.heap.size i) (by simp)))
    | (go_at_call 92; refine (HLd.out _ _ _ hBz4 hw4).mono ?_; rintro e w5 ⟨rfl, hw5, hb5⟩; have hS5 := rowX_at (B := B) (hw5.row (o := rowX w.heap.size i) (by simp)))
    | (go_at_call 91; refine (HLy.out _ (Nat.le_trans hBz4 hb5.size) hw5).mono ?_; rintro e w6 ⟨rfl, hw6, hS6, hb6⟩))
  have HR := Lib.hid (endOut.go (w := w) (HY2.out.trans (by unfold knitS; rw [if_neg (by have := HMu.out; omega)])) hw6 ((hbw4.trans hb5).trans hb6))
  clear hw6 hb6 hw5 hb5
  go_wp2
  refine bodyPost_end (results_none rfl _ _ _) rfl ?_
  exact HR.out
end Go.Proofs.YtbnddpknejgmhaaGreat
namespace Go.Proofs.YtbnddpknejgmhaaGreat
open Go.RowKit Go.Shelf Go.Sort
set_option maxRecDepth 100000

theorem across_held {s u : BedS} {i : Ins} {l : List Int} (hr : risB ltH s.hooks = true) (h : acrossS s i l = some u) : heldAt u.hooks i.bed i.at_ = heldAt s.hooks i.bed i.at_ ∧ u.made = s.made := by
  unfold acrossS at h
  split at h
  · cases h
  · have := lay_same h
    rw [this]
    exact ⟨held_put_ne hr _ (Or.inl (by omega)), rfl⟩
set_option maxHeartbeats 8000000 in
theorem yarn3_any (B pb : Nat) (s : BedS) (i : Ins) (X : List Own) (hk : StOk s) (hf : FdOk s) (hmd : s.made.length ≤ 3999) (hop : i.op = 6) (hbd : 0 ≤ i.bed ∧ i.bed ≤ 1) (ha : needleP i.at_) (ht : needleP i.to_) (hc : carP i.car) (w : World) (hBw : B ≤ w.heap.size) (hw : WorkX 84 w B pb s X) :
    Calls Tryz.prog 62 #[.pointer (some ⟨pb, 0, none⟩), i.val] w fun e w' => endOut B pb (yarnS s i) X w e w' := by
  have hw1 : WorkX 84 (w.alloc (insBox i)) B pb s (rowX w.heap.size i :: X) := hw.add ((Below.refl _ w).alloc (Nat.le_refl _) (insBox i)) (rowX_new w i)
  have hal := (Below.refl B w).alloc hBw (insBox i)
  have HPa := Lib.hid (pass_any B pb s i (rowX w.heap.size i :: X) hk hf hbd ha hc (w.alloc (insBox i)) (by simp; omega) hw1)
  have HK := Lib.hid hk
  have HOp := Lib.hid hop
  have HAl := Lib.hid hal
  have HN := Lib.hid (show _ ∧ _ ∧ _ from ⟨hbd, ha, ht⟩)
  obtain ⟨x0, x1, x2, x3, x4, x5, x6⟩ := rowX_at (B := B) (hw1.row List.mem_cons_self)
  unfold Ins.val at HPa ⊢
  clear hw hw1 hk hf ha hc hal hbd ht hop
  go_enter Tryz.func62, Tryz.ntmps62
  go_wp2_with fail
  refine HPa.out.mono ?_
  intro e w1 h1
  rcases step_cases h1 with ⟨hp, rfl, ho1, hb1⟩ | ⟨t, hp, rfl, hwt, hb1⟩
  · have HE : Hid (yarnS s i = (bed0, 36)) := by unfold Hid yarnS; rw [hp]
    have HR := Lib.hid (endOut.stop (pb := pb) (X := X) HE.out (by decide) ho1.tail (HAl.out.trans hb1))
    unfold stopE stopV at HR ⊢
    clear h1 hp ho1 hb1 HE
    go_wp2
    exact ⟨rfl, HR.out⟩
  have HB1 := Lib.hid (HAl.out.trans hb1)
  have HW1 := Lib.hid hwt
  have HP := Lib.hid hp
  have HKt := Lib.hid (HK.out.pass hp)
  have HMt := Lib.hid (show t.made.length ≤ 3999 by rw [(pass_same hp).2.2]; exact hmd)
  obtain ⟨y0, y1, y2, y3, y4, y5, y6⟩ := rowX_at (B := B) (hwt.row List.mem_cons_self)
  clear h1 hp hb1 hwt HPa HK x0 x1 x2 x3 x4 x5 x6 hmd
  have b4 : (i.op == 4) = false := beq_eq_false_iff_ne.2 (by rw [HOp.out]; decide)
  have b3 : (i.op == 3) = false := by rw [HOp.out]; rfl
  have b6 : (i.op == 6) = true := by rw [HOp.out]; rfl
  have HY : Hid (yarnS s i = match acrossS (takeS t i.bed i.at_) i (heldAt t.hooks i.bed i.at_) with | none => (bed0, 36) | some u => knitS u i (heldAt t.hooks i.bed i.at_)) := by
    unfold Hid yarnS
    rw [HP.out]
    simp only []
    rw [if_neg (by rw [HOp.out]; decide), if_neg (by rw [HOp.out]; decide), if_pos HOp.out]
    cases acrossS (takeS t i.bed i.at_) i (heldAt t.hooks i.bed i.at_) <;> rfl
  have HTk := Lib.hid (take_any B pb t (rowX w.heap.size i :: X) HKt.out.seek i.bed i.at_ HN.out.1 HN.out.2.1 w1 (by have := HB1.out.size; omega) HW1.out)
  clear HOp HP
  go_wp2_with fail
  refine HTk.out.mono ?_
  rintro e w2 ⟨v, rfl, hw2, hb2⟩
  obtain ⟨old, hold⟩ : ∃ old, old = heldAt t.hooks i.bed i.at_ := ⟨_, rfl⟩
  have HOl : Hid (old.length ≤ 6) := by rw [hold]; exact HKt.out.held _ _
  rw [← hold] at hw2 HY
  have HW2 := Lib.hid hw2
  have HB2 := Lib.hid (HB1.out.trans hb2)
  have HKu0 := Lib.hid (HKt.out.take i.bed i.at_)
  have HMu0 : Hid ((takeS t i.bed i.at_).made.length ≤ 3999) := HMt.out
  clear y0 y1 y2 y3 y4 y5 y6
  obtain ⟨y0, y1, y2, y3, y4, y5, y6⟩ := rowX_at (B := B) (hw2.row (o := rowX w.heap.size i) (by simp))
  clear hold hw2 hb2 HTk HW1 HB1 HKt HMt
  have HAc := Lib.hid (across_any B pb (takeS t i.bed i.at_) i (rowX w.heap.size i :: X) v old HKu0.out HOl.out HN.out.1 HN.out.2.1 HN.out.2.2 w2 (by have := HB2.out.size; omega) HW2.out)
  unfold Ins.val at HAc
  go_wp2_with fail
  refine HAc.out.mono ?_
  intro e w3 h3
  rcases step_cases h3 with ⟨hp, rfl, ho3, hb3⟩ | ⟨u, hp, rfl, hwu, hb3⟩
  · have HE : Hid (yarnS s i = (bed0, 36)) := by rw [Hid, HY.out, hp]
    have HR := Lib.hid (endOut.stop (pb := pb) (X := X) (w := w) HE.out (by decide) ho3.tail.tail (HB2.out.trans hb3))
    unfold stopE stopV at HR ⊢
    clear h3 hp ho3 hb3 HE
    go_wp2
    exact ⟨rfl, HR.out⟩
  have HY2 : Hid (yarnS s i = knitS u i old) := by rw [Hid, HY.out, hp]
  have HW3 := Lib.hid hwu
  have HB3 := Lib.hid (HB2.out.trans hb3)
  have HKu := Lib.hid (HKu0.out.across HN.out.1 HN.out.2.2 hp)
  have hac := across_held HKu0.out.seek.ris hp
  have HMu : Hid (u.made.length ≤ 3999) := by rw [Hid, hac.2]; exact HMu0.out
  have HHe : Hid (heldAt u.hooks i.bed i.at_ = []) := by rw [Hid, hac.1]; exact held_take_self _ _
  clear y0 y1 y2 y3 y4 y5 y6
  obtain ⟨y0, y1, y2, y3, y4, y5, y6⟩ := rowX_at (B := B) (hwu.row (o := rowX w.heap.size i) (by simp))
  clear h3 hp hb3 hwu HY hac HAc HW2 HB2 HKu0 HMu0
  obtain ⟨A, c, rfl, -, hsv⟩ := rowI_form (HW3.out.row (o := rowI v old) List.mem_cons_self)
  have HCl : Hid (Calls Tryz.prog 60 #[.slice A old.length c] w3.drew fun e w' => cloneOut 3 1 old.length (intV old) w3.drew e w') :=
    cloneI_any A c old.length (intV old) (by rw [intV_lenB, Nat.mul_one]) (intV_one' old) (by have := HOl.out; omega) w3.drew (fun hp => by
      obtain ⟨b, off, e, hB, hc⟩ := hsv (fun e => by subst e; simp at hp)
      subst e
      refine ⟨b, off, rfl, hB, fun j z hz => ?_⟩
      have := slI_news (W := w3) (B := w3.heap.size) hsv j z hz
      rwa [addr_plus] at this)
  have hBz3 : B ≤ w3.heap.size := by have := HB3.out.size; omega
  have HLo : Hid (∀ W A2 c2, B ≤ W.heap.size → WorkX 84 W B pb u (rowI (.slice A2 old.length c2) old :: rowI (.slice A old.length c) old :: rowX w.heap.size i :: X) → Calls Tryz.prog 92 #[.pointer (some ⟨pb, 0, none⟩), i.val, .slice A2 old.length c2] W fun e w' => loopOut B pb u i old (rowI (.slice A old.length c) old :: rowX w.heap.size i :: X) W e w') := fun W A2 c2 hB h =>
    loop_any B pb u i _ old _ (by have := HMu.out; omega) W hB h
  unfold Ins.val at HLo
  have HLd : Hid (∀ W A2 c2, B ≤ W.heap.size → WorkX 84 W B pb u (rowI (.slice A2 old.length c2) old :: rowI (.slice A old.length c) old :: rowX w.heap.size i :: X) → Calls Tryz.prog 92 #[.pointer (some ⟨pb, 0, none⟩), .agg #[.int .u8 i.op, .bool i.right, .int .u8 i.bed, .int .i64 i.at_, .int .i64 i.to_, .int .i64 i.car, .int .i64 i.rack], .slice A2 old.length c2] W fun e w' => e = .returned (.int .i64 (u.made.length : Int)) ∧ WorkX 84 w' B pb (loopS u i old) (rowI (.slice A old.length c) old :: rowX w.heap.size i :: X) ∧ Below B W w') := fun W A2 c2 hB h => by
    refine (HLo.out W A2 c2 hB h).mono ?_
    intro e w' hl
    rcases loop_cases hl with ⟨hm, _⟩ | ⟨_, hr⟩
    · have := HMu.out; omega
    · exact hr
  have HLy : Hid (∀ W, B ≤ W.heap.size → WorkX 84 W B pb (loopS u i old) (rowI (.slice A old.length c) old :: rowX w.heap.size i :: X) → Calls Tryz.prog 91 #[.pointer (some ⟨pb, 0, none⟩), .int .u8 i.bed, .int .i64 i.at_, .slice (some ⟨W.heap.size, 0, none⟩) 1 1] (W.alloc (.cells #[.int .i64 (u.made.length : Int)] 3)) fun e w' => e = .returned (.tuple #[]) ∧ WorkX 84 w' B pb { loopS u i old with hooks := putAt u.hooks i.bed i.at_ [(u.made.length : Int)] } X ∧ (w'.cell? ⟨w.heap.size, 0, none⟩ = some (.int .u8 i.op) ∧ w'.cell? ⟨w.heap.size, 1, none⟩ = some (.bool i.right) ∧ w'.cell? ⟨w.heap.size, 2, none⟩ = some (.int .u8 i.bed) ∧ w'.cell? ⟨w.heap.size, 3, none⟩ = some (.int .i64 i.at_) ∧ w'.cell? ⟨w.heap.size, 4, none⟩ = some (.int .i64 i.to_) ∧ w'.cell? ⟨w.heap.size, 5, none⟩ = some (.int .i64 i.car) ∧ w'.cell? ⟨w.heap.size, 6, none⟩ = some (.int .i64 i.rack)) ∧ Below B W w') := fun W hB h => by
    have hka := HKu.out.loop (by have := HMu.out; omega) i old
    refine (lay_any B pb (loopS u i old) (rowI (.slice A old.length c) old :: rowX w.heap.size i :: X) (.slice (some ⟨W.heap.size, 0, none⟩) 1 1) [(u.made.length : Int)] hka.seek hka.loops (by simp) i.bed i.at_ HN.out.1 HN.out.2.1 _ (by simp; omega)
      (h.add (o := rowI (.slice (some ⟨W.heap.size, 0, none⟩) 1 1) [(u.made.length : Int)]) ((Below.refl _ W).alloc (Nat.le_refl _) _) (World.ownsRow_lit W #[.int .i64 (u.made.length : Int)] 1 (Nat.le_refl _) (by decide) rfl))).mono ?_
    intro e w' hs
    rw [knit_lay HHe.out] at hs
    obtain ⟨rfl, hw', hb'⟩ := hs
    exact ⟨rfl, hw'.less.less.less, rowX_at (B := B) (hw'.row (o := rowX w.heap.size i) (by simp)), ((Below.refl B W).alloc hB _).trans hb'⟩
  clear hsv
  go_upto_region 11 with fail
  have HS0 : Hid (w3.drew.cell? ⟨w.heap.size, 0, none⟩ = some (.int .u8 i.op) ∧ w3.drew.cell? ⟨w.heap.size, 1, none⟩ = some (.bool i.right) ∧ w3.drew.cell? ⟨w.heap.size, 2, none⟩ = some (.int .u8 i.bed) ∧ w3.drew.cell? ⟨w.heap.size, 3, none⟩ = some (.int .i64 i.at_) ∧ w3.drew.cell? ⟨w.heap.size, 4, none⟩ = some (.int .i64 i.to_) ∧ w3.drew.cell? ⟨w.heap.size, 5, none⟩ = some (.int .i64 i.car) ∧ w3.drew.cell? ⟨w.heap.size, 6, none⟩ = some (.int .i64 i.rack)) := ⟨y0, y1, y2, y3, y4, y5, y6⟩
  have HW4 : Hid (∀ w4 A2 c2, Below w3.drew.heap.size w3.drew w4 → (Own.mk 3 1 old.length (.slice A2 old.length c2) (intV old)).lies w4 w3.drew.heap.size → B ≤ w4.heap.size ∧ Below B w w4 ∧ WorkX 84 w4 B pb u (rowI (.slice A2 old.length c2) old :: rowI (.slice A old.length c) old :: rowX w.heap.size i :: X)) := fun w4 A2 c2 hb hr =>
    ⟨Nat.le_trans hBz3 hb.size, (HB3.out.drew).trans (hb.mono hBz3), (HW3.out.to (Below.drew (Below.refl _ _))).add (o := rowI (.slice A2 old.length c2) old) hb hr⟩
  go_region_held3 (fun W => W.cell? ⟨w.heap.size, 0, none⟩ = some (.int .u8 i.op) ∧ W.cell? ⟨w.heap.size, 1, none⟩ = some (.bool i.right) ∧ W.cell? ⟨w.heap.size, 2, none⟩ = some (.int .u8 i.bed) ∧ W.cell? ⟨w.heap.size, 3, none⟩ = some (.int .i64 i.at_) ∧ W.cell? ⟨w.heap.size, 4, none⟩ = some (.int .i64 i.to_) ∧ W.cell? ⟨w.heap.size, 5, none⟩ = some (.int .i64 i.car) ∧ W.cell? ⟨w.heap.size, 6, none⟩ = some (.int .i64 i.rack))
    (first | exact HS0.out | assumption | exact keep7 (by assumption))
    (first
    | (go_at_call 60; refine HCl.out.mono ?_; rintro e w4 ⟨A2, c2, rfl, hrow, hb4⟩; obtain ⟨hBz4, hbw4, hw4⟩ := HW4.out w4 A2 c2 hb4 hrow; have hS4 := rowX_at (B := B) (hw4.row (o := rowX w.heap.size i) (by simp)))
    | (go_at_call 92; refine (HLd.out _ _ _ hBz4 hw4).mono ?_; rintro e w5 ⟨rfl, hw5, hb5⟩; have hS5 := rowX_at (B := B) (hw5.row (o := rowX w.heap.size i) (by simp)))
    | (go_at_call 91; refine (HLy.out _ (Nat.le_trans hBz4 hb5.size) hw5).mono ?_; rintro e w6 ⟨rfl, hw6, hS6, hb6⟩))
  have HR := Lib.hid (endOut.go (w := w) (HY2.out.trans (by unfold knitS; rw [if_neg (by have := HMu.out; omega)])) hw6 ((hbw4.trans hb5).trans hb6))
  clear hw6 hb6 hw5 hb5
  go_wp2
  refine bodyPost_end (results_none rfl _ _ _) rfl ?_
  exact HR.out
end Go.Proofs.YtbnddpknejgmhaaGreat
namespace Go.Proofs.YtbnddpknejgmhaaGreat
open Go.RowKit Go.Shelf Go.Sort
set_option maxRecDepth 100000

set_option maxHeartbeats 1000000 in
theorem do1_idle (a : Addr) (w : World) :
    CallsD Tryz.prog 61 #[.pointer (some a)] .returning w fun e u' w' => e = .returned (.tuple #[]) ∧ u' = .returning ∧ w' = w := by
  refine callsD_of_wpS Tryz.func61 rfl fun c₀ cs hu => ?_
  apply wpS_seq
  apply wpS_region
  simp [wpOpsS, go_sem, recoverD, hu, Tryz.ntmps61, Exit.thenS]
  have hnil : ∀ w : World, (binOp BinOp.eql 20 .nilIface .nilIface).run Tryz.prog w = .ok (.bool true) w := fun _ => by kernel_rfl
  refine wpS_of_wp ?_
  go_wp2
  cases c₀
  simp_all [bodyPostS, results, Tryz.results61]
set_option maxHeartbeats 1000000 in
theorem do1_stop (rb : Nat) (x y : Int) (w : World) (hc : w.cell? ⟨rb, 0, none⟩ = some (.int .i64 y)) (hz : w.frozen? ⟨rb, 0, none⟩ = false) :
    CallsD Tryz.prog 61 #[.pointer (some ⟨rb, 0, none⟩)] (.panicking [{ v := stopV x, recovered := false }]) w fun e u' w' => e = .returned (.tuple #[]) ∧ u' = .panicking [{ v := stopV x, recovered := true }] ∧ w' = (w.setCell ⟨rb, 0, none⟩ (.int .i64 x)).alloc (.cells #[.int .i64 x] 119) := by
  unfold stopV
  refine callsD_of_wpS Tryz.func61 rfl fun c₀ cs hu => ?_
  apply wpS_seq
  apply wpS_region
  simp [wpOpsS, go_sem, recoverD, hu, Tryz.ntmps61, Exit.thenS]
  have hnil : ∀ w : World, (binOp BinOp.eql 20 (.iface 119 (.agg #[.int .i64 x])) .nilIface).run Tryz.prog w = .ok (.bool false) w := fun _ => by kernel_rfl
  have hta : ∀ w : World, (Instr.typeAssert (.iface 119 (.agg #[.int .i64 x])) 20 119 true).run Tryz.prog w = .ok (.tuple #[.agg #[.int .i64 x], .bool true]) w := fun _ => by kernel_rfl
  have hrl := lt_of_cell hc
  refine wpS_of_wp ?_
  go_wp2
  simp [bodyPostS, results, Tryz.results61]
end Go.Proofs.YtbnddpknejgmhaaGreat
