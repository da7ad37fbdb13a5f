/- Layer 31: grow, at a pass of transfers or drops, and where nothing may be taken in. -/
import Derived.Test.YtbnddpknejgmhaaGrow
namespace Go.Proofs.Ytbnddpknejgmhaa
open Go.RowKit
set_option maxRecDepth 100000

theorem PassAt.grown {w w' : World} {pb mb n n' : Nat} {a l : Ins} {rack : Int} {U U' : List Hook} (h : PassAt w pb mb n a l rack U) (hg : w.grownBy w' (some mb)) (hs : HookSet w' mb n' U') : PassAt w' pb mb n' a l rack U' := by
  have hne : pb ≠ mb := h.set_.ne h.rack
  exact ⟨grown_ins hg hne h.first, grown_ins hg hne h.last, grown_cell hg hne h.rack, grown_cell hg hne h.used, hs, fun k => grown_thawed hg hne (cell_lt h.rack) (h.thawed k)⟩

def condO (a i : Ins) (U : List Hook) : Bool := decide (a.op = i.op ∧ (a.op = 7 ∨ a.op = 9)) && !((hooks i).any fun u => decide (u ∈ U))
def GrowPostO (rack : Int) (a i : Ins) (pb mb n : Nat) (U : List Hook) (B : Nat) (w : World) (e : Ending) (w' : World) : Prop :=
  ∃ b, e = .returned (.bool b) ∧ b = condO a i U ∧ Below B w w' ∧ (b = true → PassAt w' pb mb (n + (hooks i).length) a i rack ((hooks i).reverse ++ U))
theorem GrowPostO.no {rack : Int} {a i : Ins} {pb mb n B : Nat} {U : List Hook} {w w' : World} (h : condO a i U = false) (hb : Below B w w') : GrowPostO rack a i pb mb n U B w (.returned (.bool false)) w' :=
  ⟨false, rfl, h.symm, hb, fun h => by cases h⟩
theorem GrowPostO.yes {rack : Int} {a i : Ins} {pb mb n B : Nat} {U : List Hook} {w W w' : World} (h : condO a i U = true) (hb : Below B w W) (hB : B ≤ pb) (hs : W.grownBy w' (some pb) ∧ PassAt w' pb mb (n + (hooks i).length) a i rack ((hooks i).reverse ++ U)) (hBW : B ≤ W.heap.size) : GrowPostO rack a i pb mb n U B w (.returned (.bool true)) w' :=
  ⟨true, rfl, h.symm, hb.grown hs.1 hBW (fun k e => by cases e; exact hB), fun _ => hs.2⟩

/-- The boxed pass and the boxed instruction, seen from later worlds. -/
theorem boxes {w w1 : World} {pb : Nat} {i : Ins} {t t2 : TypeId} {o2 : Obj}
    (hb : Below (((w.alloc (.cells #[.pointer (some ⟨pb, 0, none⟩)] t)).alloc (.cells #[.int .u8 i.op, .bool i.right, .int .u8 i.bed, .int .i64 i.at_, .int .i64 i.to_, .int .i64 i.car, .int .i64 i.rack] t2)).alloc o2).heap.size
      (((w.alloc (.cells #[.pointer (some ⟨pb, 0, none⟩)] t)).alloc (.cells #[.int .u8 i.op, .bool i.right, .int .u8 i.bed, .int .i64 i.at_, .int .i64 i.to_, .int .i64 i.car, .int .i64 i.rack] t2)).alloc o2) w1) :
    w1.cell? ⟨w.heap.size, 0, none⟩ = some (.pointer (some ⟨pb, 0, none⟩)) ∧ InsAt w1 (w.heap.size + 1) 0 i ∧ Below w.heap.size w w1 := by
  have h2 : Below (w.heap.size + 2) ((w.alloc (.cells #[.pointer (some ⟨pb, 0, none⟩)] t)).alloc (.cells #[.int .u8 i.op, .bool i.right, .int .u8 i.bed, .int .i64 i.at_, .int .i64 i.to_, .int .i64 i.car, .int .i64 i.rack] t2)) w1 :=
    ((Below.refl _ _).alloc (by simp) _).trans (hb.mono (by simp))
  refine ⟨?_, ?_, ?_⟩
  · exact (bcell h2 (by omega) _).trans ((bcell (B := w.heap.size + 1) ((Below.refl _ _).alloc (by simp) _) (by omega) _).trans (cell_of_new _ _ _ rfl rfl))
  · refine InsAt.below (B := w.heap.size + 2) ?_ h2 (by omega)
    exact ⟨cell_of_new _ _ _ (by simp) rfl, cell_of_new _ _ _ (by simp) rfl, cell_of_new _ _ _ (by simp) rfl, cell_of_new _ _ _ (by simp) rfl, cell_of_new _ _ _ (by simp) rfl, cell_of_new _ _ _ (by simp) rfl, cell_of_new _ _ _ (by simp) rfl⟩
  · exact (((Below.refl _ _).alloc (Nat.le_refl _) _).alloc (by simp) _).trans (h2.mono (by omega))

set_option maxHeartbeats 1000000 in
theorem grow_same (i a l : Ins) (hi : i.fit) (rack : Int) (pb mb n B : Nat) (U : List Hook) (w : World) (hP : PassAt w pb mb n a l rack U) (hB : B ≤ pb) (hB2 : B ≤ mb) (hn : n ≤ 100000) (he : a.op = i.op) (h79 : i.op = 7 ∨ i.op = 9) :
    Calls Try.prog 45 #[.pointer (some ⟨pb, 0, none⟩), i.val] w fun e w' => GrowPostO rack a i pb mb n U B w e w' := by
  have hya : decide (3 ≤ i.op ∧ i.op ≤ 6) = false := decide_eq_false (by omega)
  have hy1 := yarn_any i.op
  rw [hya] at hy1
  have HY1 := Lib.hid hy1
  have hpl := cell_lt hP.rack
  have hml := hP.set_.lt
  have HN := Lib.hid (needles_any i hi)
  have hUse := Lib.hid (fun w hp hs => use_any i hi pb mb n U w hp hs (by unfold maxLen; omega))
  have hcont := Lib.hid (fun w1 A c (hs : SlH w1 w1.heap.size A (hooks i)) hb hp hset => usedH_any w.heap.size pb mb n U (hooks i) (hooks_ok hi) (hooks_len i) A c w1 hs hb hp hset)
  obtain ⟨f0, f1, f2, f3, f4, f5, f6⟩ := hP.first
  have hk := hP.rack
  have hA2 : ∀ o1 o2 k, ((w.alloc o1).alloc o2).cell? ⟨pb, k, none⟩ = w.cell? ⟨pb, k, none⟩ := fun o1 o2 k => bcell (((Below.refl _ w).alloc (Nat.le_refl _) o1).alloc (by simp) o2) hpl k
  simp only [Nat.zero_add] at f1 f2 f3 f4 f5 f6
  rw [he] at f0
  have hx : Hid (∀ b, ((hooks i).any fun u => decide (u ∈ U)) = b → condO a i U = !b) := fun b hb => by
    unfold condO; rw [hb, decide_eq_true (⟨he, by omega⟩ : a.op = i.op ∧ (a.op = 7 ∨ a.op = 9))]; rfl
  have HP := Lib.hid hP
  have h79b : (i.op == 7) = true ∨ ((i.op == 7) = false ∧ (i.op == 9) = true) := by rcases h79 with e | e <;> rw [e] <;> simp
  clear h79 he
  generalize hq : ((hooks i).any fun u => decide (u ∈ U)) = q at hcont
  have HX := Lib.hid (hx.out q hq)
  have hBs : Hid (B ≤ w.heap.size ∧ B ≤ pb) := ⟨by omega, hB⟩
  have hne := hP.set_.ne hP.rack
  clear hy1 hya hi hP hx hq hB
  cases q with
  | true =>
    rcases h79b with g7 | ⟨g7, g9⟩
    all_goals
      go_enter Try.func45, Try.ntmps45
      go_wp2_with (first
        | (go_at_call 61; refine (HY1.out _).mono ?_; rintro e w' ⟨rfl, rfl⟩)
        | (go_at_call 64; refine (HN.out _).mono ?_; rintro e w1 ⟨A, c, rfl, hs, hb1⟩)
        | (go_at_call 63; refine (hcont.out w1 A c hs (boxes hb1).1 (HP.out.below (boxes hb1).2.2 hpl hml).used (HP.out.below (boxes hb1).2.2 hpl hml).set_).mono ?_; rintro e w2 ⟨rfl, hb2⟩))
      go_ret
      exact GrowPostO.no HX.out (((boxes hb1).2.2.trans (hb2.mono (boxes hb1).2.2.size)).mono hBs.out.1)
  | false =>
    rcases h79b with g7 | ⟨g7, g9⟩
    all_goals
      go_enter Try.func45, Try.ntmps45
      go_wp2_with (first
        | (go_at_call 61; refine (HY1.out _).mono ?_; rintro e w' ⟨rfl, rfl⟩)
        | (go_at_call 64; refine (HN.out _).mono ?_; rintro e w1 ⟨A, c, rfl, hs, hb1⟩)
        | (go_at_call 63; refine (hcont.out w1 A c hs (boxes hb1).1 (HP.out.below (boxes hb1).2.2 hpl hml).used (HP.out.below (boxes hb1).2.2 hpl hml).set_).mono ?_; rintro e w2 ⟨rfl, hb2⟩
           have hbx := (bcell hb2 (cell_lt (boxes hb1).1) _).trans (boxes hb1).1
           have hP2 := Lib.hid (HP.out.below ((boxes hb1).2.2.trans (hb2.mono (boxes hb1).2.2.size)) hpl hml)
           have hi2 := Lib.hid ((boxes hb1).2.1.below hb2 (cell_lt (boxes hb1).2.1.1))
           obtain ⟨s0, s1, s2, s3, s4, s5, s6⟩ := hi2.out)
        | (go_at_call 60; refine (hUse.out w2 hP2.out.used hP2.out.set_).mono ?_; rintro e w3 ⟨rfl, hs3, hg3⟩
           have hP3 := Lib.hid (hP2.out.grown hg3 hs3)
           have hbx3 := grown_cell hg3 (hP2.out.set_.ne hbx) hbx
           have hi3 := Lib.hid (grown_ins hg3 (hP2.out.set_.ne s0) hi2.out)
           obtain ⟨z0, z1, z2, z3, z4, z5, z6⟩ := hi3.out
           have fr := hP3.out.thawed
           obtain ⟨l0, l1, l2, l3, l4, l5, l6⟩ := hP3.out.last
           simp only [Nat.reduceAdd] at l1 l2 l3 l4 l5 l6))
      go_ret
      refine GrowPostO.yes (W := w3) HX.out ?_ hBs.out.2 (hP3.out.store rfl rfl rfl rfl rfl rfl rfl) ?_
      · refine Below.grown (row := some mb) (((boxes hb1).2.2.trans (hb2.mono (boxes hb1).2.2.size)).mono hBs.out.1) hg3 ?_ (fun k e => by cases e; exact hB2)
        exact Nat.le_trans hBs.out.1 (Nat.le_trans (boxes hb1).2.2.size hb2.size)
      · exact Nat.le_trans hBs.out.1 (Nat.le_trans (boxes hb1).2.2.size (Nat.le_trans hb2.size hg3.size))

theorem condO_not {a i : Ins} (U : List Hook) (h : ¬ (a.op = i.op ∧ (a.op = 7 ∨ a.op = 9))) : condO a i U = false := by unfold condO; rw [decide_eq_false h]; rfl
set_option maxHeartbeats 1000000 in
theorem grow_none (i a l : Ins) (rack : Int) (pb mb n : Nat) (U : List Hook) (w : World) (hP : PassAt w pb mb n a l rack U) (hy : (yarnB a && yarnB i) = false) (h79 : ¬ (a.op = i.op ∧ (a.op = 7 ∨ a.op = 9))) :
    Calls Try.prog 45 #[.pointer (some ⟨pb, 0, none⟩), i.val] w fun e w' => GrowPostO rack a i pb mb n U w.heap.size w e w' := by
  have hpl := cell_lt hP.rack
  have HX := Lib.hid (condO_not U h79)
  have hy1 := yarn_any a.op
  have hy2 := yarn_any i.op
  obtain ⟨f0, f1, f2, f3, f4, f5, f6⟩ := hP.first
  have hA2 : ∀ o1 o2 k, ((w.alloc o1).alloc o2).cell? ⟨pb, k, none⟩ = w.cell? ⟨pb, k, none⟩ := fun o1 o2 k => bcell (((Below.refl _ w).alloc (Nat.le_refl _) o1).alloc (by simp) o2) hpl k
  simp only [Nat.zero_add] at f1 f2 f3 f4 f5 f6
  have hb3 : Hid (∀ o1 o2 o3, Below w.heap.size w (((w.alloc o1).alloc o2).alloc o3)) := fun o1 o2 o3 => (((Below.refl _ w).alloc (Nat.le_refl _) o1).alloc (by simp) o2).alloc (by simp; omega) o3
  have H79 := Lib.hid h79
  unfold yarnB at hy
  clear hP h79
  cases hya : decide (3 ≤ a.op ∧ a.op ≤ 6) <;> cases hyi : decide (3 ≤ i.op ∧ i.op ≤ 6)
  case true.true => rw [hya, hyi] at hy; cases hy
  all_goals
    rw [hya] at hy1
    rw [hyi] at hy2
    have HY1 := Lib.hid hy1
    have HY2 := Lib.hid hy2
    clear hy hya hyi hy1 hy2
    go_enter Try.func45, Try.ntmps45
    go_wp2_with (first
      | (go_at_call_of 61 (Value.int .u8 a.op); refine (HY1.out _).mono ?_; rintro e w' ⟨rfl, rfl⟩)
      | (go_at_call_of 61 (Value.int .u8 i.op); refine (HY2.out _).mono ?_; rintro e w' ⟨rfl, rfl⟩))
    all_goals first
      | (go_ret; exact GrowPostO.no HX.out (hb3.out _ _ _))
      | exact (H79.out ⟨by omega, by omega⟩).elim
      | (exfalso; have h := H79.out; simp_all; done)
      | skip
end Go.Proofs.Ytbnddpknejgmhaa
