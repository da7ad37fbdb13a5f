/- Layer 25: forms. -/
import Derived.Test.YtflpikickbellaaGreatKQ1
namespace Go.Proofs.YtflpikickbellaaGreat
open Go.RowKit
set_option maxRecDepth 100000

set_option maxHeartbeats 4000000 in
theorem forms_any (k : Int) (hk : 0 ≤ k ∧ k ≤ 255) (w : World) : Calls Tryz.prog 111 #[.int .u8 k] w fun e w' =>
    e = .returned (.tuple #[(formI k).val, .bool (decide (1 ≤ k ∧ k ≤ 10))]) ∧ Below w.heap.size w w' := by
  obtain ⟨V, hV⟩ : ∃ V, V = Value.tuple #[(formI k).val, .bool (decide (1 ≤ k ∧ k ≤ 10))] := ⟨_, rfl⟩
  rw [← hV]
  have HV := Lib.hid hV
  clear hV
  go_enter Tryz.func111, Tryz.ntmps111
  go_upto_region 4 with (fail)
  refine abs_world (Q := fun W => Code.wp _ _ _ _ W) (F := fun W => Below w.heap.size w W ∧ FormAt W w.heap.size 0 form0 ∧ (∀ k, W.frozen? ⟨w.heap.size, k, none⟩ = false) ∧ ∀ j, j < 10 → FormAt W (w.heap.size + 1 + 1 + 1 + 1) (j * 8) (formT.getD j form0)) _ ?_ ?_
  · refine ⟨((((((Below.refl _ w).alloc (Nat.le_refl _) _).alloc (by simp) _).alloc (by simp; omega) _).alloc (by simp; omega) _).alloc (by simp; omega) _), ?_, ?_, ?_⟩
    · have hr : ∀ o v, (#[.string { data := #[] }, .int .i64 0, .int .i64 0, .int .i64 0, .int .i64 0, .bool false, .int .i64 0, .int .i64 0] : Array Value)[o]? = some v → ∀ o1 o2 o3 o4,
          (((((w.alloc (.cells #[.string { data := #[] }, .int .i64 0, .int .i64 0, .int .i64 0, .int .i64 0, .bool false, .int .i64 0, .int .i64 0] 170)).alloc o1).alloc o2).alloc o3).alloc o4).cell? ⟨w.heap.size, o, none⟩ = some v := fun o v hv o1 o2 o3 o4 =>
        (bcell (B := w.heap.size + 1) (((((Below.refl _ _).alloc (by simp) _).alloc (by simp) _).alloc (by simp) _).alloc (by simp) _) (by omega) _).trans (cell_new rfl rfl hv)
      exact ⟨hr 0 _ rfl _ _ _ _, hr 1 _ rfl _ _ _ _, hr 2 _ rfl _ _ _ _, hr 3 _ rfl _ _ _ _, hr 4 _ rfl _ _ _ _, hr 5 _ rfl _ _ _ _, hr 6 _ rfl _ _ _ _, hr 7 _ rfl _ _ _ _⟩
    · intro k
      refine (Below.frozen (B := w.heap.size + 1) (w := w.alloc (.cells #[.string { data := #[] }, .int .i64 0, .int .i64 0, .int .i64 0, .int .i64 0, .bool false, .int .i64 0, .int .i64 0] 170)) (((((Below.refl _ _).alloc (by simp) _).alloc (by simp) _).alloc (by simp) _).alloc (by simp) _) (by show w.heap.size < _; omega)).trans ?_
      exact thawed_new' w _ _ k rfl
    · intro j hj
      rcases (by omega : j = 0 ∨ j = 1 ∨ j = 2 ∨ j = 3 ∨ j = 4 ∨ j = 5 ∨ j = 6 ∨ j = 7 ∨ j = 8 ∨ j = 9) with rfl | rfl | rfl | rfl | rfl | rfl | rfl | rfl | rfl | rfl
      all_goals exact ⟨cell_new rfl (by simp) rfl, cell_new rfl (by simp) rfl, cell_new rfl (by simp) rfl, cell_new rfl (by simp) rfl, cell_new rfl (by simp) rfl, cell_new rfl (by simp) rfl, cell_new rfl (by simp) rfl, cell_new rfl (by simp) rfl⟩
  intro W hW
  obtain ⟨hbW, ⟨r0, r1, r2, r3, r4, r5, r6, r7⟩, hfr, hT⟩ := hW
  have HT := Lib.hid hT
  have HB := Lib.hid hbW
  clear hT hbW
  have HG := Lib.hid (show FormAt W w.heap.size 0 form0 from ⟨r0, r1, r2, r3, r4, r5, r6, r7⟩)
  by_cases h1 : k < 1
  · obtain rfl : k = 0 := by omega
    clear h1 hk
    go_wp2
    exact form_close (f := form0) HG.out HB.out rfl rfl fun W' hb => ⟨congrArg Ending.returned HV.out.symm, hb⟩
  by_cases h2 : 10 < k
  · have HV2 : Hid (V = Value.tuple #[form0.val, .bool false]) := by
      unfold Hid; rw [HV.out, decide_eq_false (by omega)]; unfold formI; rw [if_pos (by omega), List.getD, List.getElem?_eq_none (by simp [formT]; omega)]; rfl
    go_wp2
    exact form_close (f := form0) HG.out HB.out rfl rfl fun W' hb => ⟨congrArg Ending.returned HV2.out.symm, hb⟩
  obtain ⟨j, hj, rfl⟩ : ∃ j : Nat, j < 10 ∧ k = (j : Int) + 1 := ⟨(k - 1).toNat, by omega, by omega⟩
  have hq := HT.out j hj
  clear h1 h2 hk HT
  rcases (by omega : j = 0 ∨ j = 1 ∨ j = 2 ∨ j = 3 ∨ j = 4 ∨ j = 5 ∨ j = 6 ∨ j = 7 ∨ j = 8 ∨ j = 9) with rfl | rfl | rfl | rfl | rfl | rfl | rfl | rfl | rfl | rfl
  · obtain ⟨q0, q1, q2, q3, q4, q5, q6, q7⟩ := hq
    simp only [formT, List.getD_cons_zero, Nat.zero_mul, Nat.zero_add] at q0 q1 q2 q3 q4 q5 q6 q7
    go_wp2
    exact form_close (f := ⟨{ data := #[] }, 0, 0, 0, 0, true, 1, 1⟩) HG.out HB.out rfl rfl fun W' hb => ⟨congrArg Ending.returned HV.out.symm, hb⟩
  · obtain ⟨q0, q1, q2, q3, q4, q5, q6, q7⟩ := hq
    simp only [formT, List.getD_cons_zero, List.getD_cons_succ, Nat.reduceMul, Nat.reduceAdd] at q0 q1 q2 q3 q4 q5 q6 q7
    go_wp2
    exact form_close (f := ⟨{ data := #[] }, 0, 0, 0, 0, false, 0, 1⟩) HG.out HB.out rfl rfl fun W' hb => ⟨congrArg Ending.returned HV.out.symm, hb⟩
  · obtain ⟨q0, q1, q2, q3, q4, q5, q6, q7⟩ := hq
    simp only [formT, List.getD_cons_zero, List.getD_cons_succ, Nat.reduceMul, Nat.reduceAdd] at q0 q1 q2 q3 q4 q5 q6 q7
    go_wp2
    exact form_close (f := ⟨{ data := #[102] }, 2, 4, 0, 0, true, 2, 1⟩) HG.out HB.out rfl rfl fun W' hb => ⟨congrArg Ending.returned HV.out.symm, hb⟩
  · obtain ⟨q0, q1, q2, q3, q4, q5, q6, q7⟩ := hq
    simp only [formT, List.getD_cons_zero, List.getD_cons_succ, Nat.reduceMul, Nat.reduceAdd] at q0 q1 q2 q3 q4 q5 q6 q7
    go_wp2
    exact form_close (f := ⟨{ data := #[108] }, 2, 4, 0, 0, true, 2, 1⟩) HG.out HB.out rfl rfl fun W' hb => ⟨congrArg Ending.returned HV.out.symm, hb⟩
  · obtain ⟨q0, q1, q2, q3, q4, q5, q6, q7⟩ := hq
    simp only [formT, List.getD_cons_zero, List.getD_cons_succ, Nat.reduceMul, Nat.reduceAdd] at q0 q1 q2 q3 q4 q5 q6 q7
    go_wp2
    exact form_close (f := ⟨{ data := #[109] }, 2, 4, 0, 0, true, 1, 2⟩) HG.out HB.out rfl rfl fun W' hb => ⟨congrArg Ending.returned HV.out.symm, hb⟩
  · obtain ⟨q0, q1, q2, q3, q4, q5, q6, q7⟩ := hq
    simp only [formT, List.getD_cons_zero, List.getD_cons_succ, Nat.reduceMul, Nat.reduceAdd] at q0 q1 q2 q3 q4 q5 q6 q7
    go_wp2
    exact form_close (f := ⟨{ data := #[120] }, 1, 6, 1, 6, true, 3, 3⟩) HG.out HB.out rfl rfl fun W' hb => ⟨congrArg Ending.returned HV.out.symm, hb⟩
  · obtain ⟨q0, q1, q2, q3, q4, q5, q6, q7⟩ := hq
    simp only [formT, List.getD_cons_zero, List.getD_cons_succ, Nat.reduceMul, Nat.reduceAdd] at q0 q1 q2 q3 q4 q5 q6 q7
    go_wp2
    exact form_close (f := ⟨{ data := #[121] }, 1, 6, 1, 6, true, 3, 3⟩) HG.out HB.out rfl rfl fun W' hb => ⟨congrArg Ending.returned HV.out.symm, hb⟩
  · obtain ⟨q0, q1, q2, q3, q4, q5, q6, q7⟩ := hq
    simp only [formT, List.getD_cons_zero, List.getD_cons_succ, Nat.reduceMul, Nat.reduceAdd] at q0 q1 q2 q3 q4 q5 q6 q7
    go_wp2
    exact form_close (f := ⟨{ data := #[115] }, 0, 0, 0, 0, true, 1, 1⟩) HG.out HB.out rfl rfl fun W' hb => ⟨congrArg Ending.returned HV.out.symm, hb⟩
  · obtain ⟨q0, q1, q2, q3, q4, q5, q6, q7⟩ := hq
    simp only [formT, List.getD_cons_zero, List.getD_cons_succ, Nat.reduceMul, Nat.reduceAdd] at q0 q1 q2 q3 q4 q5 q6 q7
    go_wp2
    exact form_close (f := ⟨{ data := #[] }, 1, 200, 0, 0, false, 0, 2⟩) HG.out HB.out rfl rfl fun W' hb => ⟨congrArg Ending.returned HV.out.symm, hb⟩
  · obtain ⟨q0, q1, q2, q3, q4, q5, q6, q7⟩ := hq
    simp only [formT, List.getD_cons_zero, List.getD_cons_succ, Nat.reduceMul, Nat.reduceAdd] at q0 q1 q2 q3 q4 q5 q6 q7
    go_wp2
    exact form_close (f := ⟨{ data := #[111] }, 1, 200, 0, 0, true, 2, 0⟩) HG.out HB.out rfl rfl fun W' hb => ⟨congrArg Ending.returned HV.out.symm, hb⟩
end Go.Proofs.YtflpikickbellaaGreat
