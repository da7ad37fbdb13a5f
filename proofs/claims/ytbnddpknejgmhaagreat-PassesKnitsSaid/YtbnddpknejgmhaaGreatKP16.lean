/- Layer 25: what is known of a kind. Layer 25: forms. Layer 25: a stitch; within, Check, loops. -/
import Derived.Test.YtbnddpknejgmhaaGreatKP1
import Derived.Deep.RegionHeld3
namespace Go.Proofs.YtbnddpknejgmhaaGreat
open Go.RowKit
set_option maxRecDepth 100000

/-- What is known of a kind. -/
structure Form where
  letter : ByteArray
  a0 : Int
  a1 : Int
  b0 : Int
  b1 : Int
  sided : Bool
  uses : Int
  made : Int
def Form.val (f : Form) : Value := .agg #[.string f.letter, .int .i64 f.a0, .int .i64 f.a1, .int .i64 f.b0, .int .i64 f.b1, .bool f.sided, .int .i64 f.uses, .int .i64 f.made]
def formT : List Form := [
  ⟨{ data := #[] }, 0, 0, 0, 0, true, 1, 1⟩,
  ⟨{ data := #[] }, 0, 0, 0, 0, false, 0, 1⟩,
  ⟨{ data := #[102] }, 2, 4, 0, 0, true, 2, 1⟩,
  ⟨{ data := #[108] }, 2, 4, 0, 0, true, 2, 1⟩,
  ⟨{ data := #[109] }, 2, 4, 0, 0, true, 1, 2⟩,
  ⟨{ data := #[120] }, 1, 6, 1, 6, true, 3, 3⟩,
  ⟨{ data := #[121] }, 1, 6, 1, 6, true, 3, 3⟩,
  ⟨{ data := #[115] }, 0, 0, 0, 0, true, 1, 1⟩,
  ⟨{ data := #[] }, 1, 200, 0, 0, false, 0, 2⟩,
  ⟨{ data := #[111] }, 1, 200, 0, 0, true, 2, 0⟩]
def form0 : Form := ⟨{ data := #[] }, 0, 0, 0, 0, false, 0, 0⟩
def formI (k : Int) : Form := if 1 ≤ k then formT.getD (k - 1).toNat form0 else form0
/-- The form lies at an address. -/
def FormAt (w : World) (b o : Nat) (f : Form) : Prop :=
  w.cell? ⟨b, o, none⟩ = some (.string f.letter) ∧ w.cell? ⟨b, o + 1, none⟩ = some (.int .i64 f.a0) ∧ w.cell? ⟨b, o + 2, none⟩ = some (.int .i64 f.a1) ∧ w.cell? ⟨b, o + 3, none⟩ = some (.int .i64 f.b0) ∧ w.cell? ⟨b, o + 4, none⟩ = some (.int .i64 f.b1) ∧
  w.cell? ⟨b, o + 5, none⟩ = some (.bool f.sided) ∧ w.cell? ⟨b, o + 6, none⟩ = some (.int .i64 f.uses) ∧ w.cell? ⟨b, o + 7, none⟩ = some (.int .i64 f.made)
theorem FormAt.stored {W : World} {b : Nat} {f g : Form} (h : FormAt W b 0 g) :
    FormAt ((((((((W.setCell ⟨b, 0, none⟩ (.string f.letter)).setCell ⟨b, 1, none⟩ (.int .i64 f.a0)).setCell ⟨b, 2, none⟩ (.int .i64 f.a1)).setCell ⟨b, 3, none⟩ (.int .i64 f.b0)).setCell ⟨b, 4, none⟩ (.int .i64 f.b1)).setCell ⟨b, 5, none⟩ (.bool f.sided)).setCell ⟨b, 6, none⟩ (.int .i64 f.uses)).setCell ⟨b, 7, none⟩ (.int .i64 f.made)) b 0 f := by
  obtain ⟨c0, c1, c2, c3, c4, c5, c6, c7⟩ := h
  simp only [Nat.zero_add] at c1 c2 c3 c4 c5 c6 c7
  unfold FormAt
  simp only [Nat.zero_add]
  refine ⟨?_, ?_, ?_, ?_, ?_, ?_, ?_, ?_⟩
  · iterate 7 refine set_other (by decide) ?_
    exact set_same c0
  · iterate 6 refine set_other (by decide) ?_
    exact set_same (set_other (by decide) c1)
  · iterate 5 refine set_other (by decide) ?_
    exact set_same (set_other (by decide) (set_other (by decide) c2))
  · iterate 4 refine set_other (by decide) ?_
    exact set_same (set_other (by decide) (set_other (by decide) (set_other (by decide) c3)))
  · iterate 3 refine set_other (by decide) ?_
    exact set_same (set_other (by decide) (set_other (by decide) (set_other (by decide) (set_other (by decide) c4))))
  · iterate 2 refine set_other (by decide) ?_
    exact set_same (set_other (by decide) (set_other (by decide) (set_other (by decide) (set_other (by decide) (set_other (by decide) c5)))))
  · refine set_other (by decide) ?_
    exact set_same (set_other (by decide) (set_other (by decide) (set_other (by decide) (set_other (by decide) (set_other (by decide) (set_other (by decide) c6))))))
  · exact set_same (set_other (by decide) (set_other (by decide) (set_other (by decide) (set_other (by decide) (set_other (by decide) (set_other (by decide) (set_other (by decide) c7)))))))
theorem form_close' {w W' : World} {tmps : Array Value} {f : Form} {b : Bool} {R : Ending → World → Prop} (hF : FormAt W' w.heap.size 0 f)
    (h2 : tmps[2]?.getD undef = .pointer (some ⟨w.heap.size, 0, none⟩)) (h3 : tmps[3]?.getD undef = .bool b) (hR : R (.returned (.tuple #[f.val, .bool b])) W') :
    bodyPost Tryz.prog Tryz.f82 R .ret { tmps := tmps, defers := [] } W' := by
  obtain ⟨c0, c1, c2, c3, c4, c5, c6, c7⟩ := hF
  simp only [Nat.zero_add] at c1 c2 c3 c4 c5 c6 c7
  refine bodyPost_ret (v := .tuple #[f.val, .bool b]) ?_ rfl hR
  simp [results, Tryz.results82, go_sem, h2, h3, c0, c1, c2, c3, c4, c5, c6, c7, Form.val]
theorem form_close {w W : World} {tmps : Array Value} {f g : Form} {b : Bool} {R : Ending → World → Prop} (hg : FormAt W w.heap.size 0 g) (hB : Below w.heap.size w W)
    (h2 : tmps[2]?.getD undef = .pointer (some ⟨w.heap.size, 0, none⟩)) (h3 : tmps[3]?.getD undef = .bool b) (hR : ∀ W', Below w.heap.size w W' → R (.returned (.tuple #[f.val, .bool b])) W') :
    bodyPost Tryz.prog Tryz.f82 R .ret { tmps := tmps, defers := [] }
      ((((((((W.setCell ⟨w.heap.size, 0, none⟩ (.string f.letter)).setCell ⟨w.heap.size, 1, none⟩ (.int .i64 f.a0)).setCell ⟨w.heap.size, 2, none⟩ (.int .i64 f.a1)).setCell ⟨w.heap.size, 3, none⟩ (.int .i64 f.b0)).setCell ⟨w.heap.size, 4, none⟩ (.int .i64 f.b1)).setCell ⟨w.heap.size, 5, none⟩ (.bool f.sided)).setCell ⟨w.heap.size, 6, none⟩ (.int .i64 f.uses)).setCell ⟨w.heap.size, 7, none⟩ (.int .i64 f.made)) := by
  have hb2 : Below w.heap.size w ((((((((W.setCell ⟨w.heap.size, 0, none⟩ (.string f.letter)).setCell ⟨w.heap.size, 1, none⟩ (.int .i64 f.a0)).setCell ⟨w.heap.size, 2, none⟩ (.int .i64 f.a1)).setCell ⟨w.heap.size, 3, none⟩ (.int .i64 f.b0)).setCell ⟨w.heap.size, 4, none⟩ (.int .i64 f.b1)).setCell ⟨w.heap.size, 5, none⟩ (.bool f.sided)).setCell ⟨w.heap.size, 6, none⟩ (.int .i64 f.uses)).setCell ⟨w.heap.size, 7, none⟩ (.int .i64 f.made)) := by
    exact ((((((((hB).setCell (p := ⟨w.heap.size, 0, none⟩) (Nat.le_refl _) (.string f.letter)).setCell (p := ⟨w.heap.size, 1, none⟩) (Nat.le_refl _) (.int .i64 f.a0)).setCell (p := ⟨w.heap.size, 2, none⟩) (Nat.le_refl _) (.int .i64 f.a1)).setCell (p := ⟨w.heap.size, 3, none⟩) (Nat.le_refl _) (.int .i64 f.b0)).setCell (p := ⟨w.heap.size, 4, none⟩) (Nat.le_refl _) (.int .i64 f.b1)).setCell (p := ⟨w.heap.size, 5, none⟩) (Nat.le_refl _) (.bool f.sided)).setCell (p := ⟨w.heap.size, 6, none⟩) (Nat.le_refl _) (.int .i64 f.uses)).setCell (p := ⟨w.heap.size, 7, none⟩) (Nat.le_refl _) (.int .i64 f.made)
  exact form_close' hg.stored h2 h3 (hR _ hb2)
end Go.Proofs.YtbnddpknejgmhaaGreat
namespace Go.Proofs.YtbnddpknejgmhaaGreat
open Go.RowKit
set_option maxRecDepth 100000

set_option maxHeartbeats 4000000 in
theorem forms_any (k : Int) (hk : 0 ≤ k ∧ k ≤ 255) (w : World) : Calls Tryz.prog 82 #[.int .u8 k] w fun e w' =>
    e = .returned (.tuple #[(formI k).val, .bool (decide (1 ≤ k ∧ k ≤ 10))]) ∧ Below w.heap.size w w' := by
  obtain ⟨V, hV⟩ : ∃ V, V = Value.tuple #[(formI k).val, .bool (decide (1 ≤ k ∧ k ≤ 10))] := ⟨_, rfl⟩
  rw [← hV]
  have HV := Lib.hid hV
  clear hV
  go_enter Tryz.func82, Tryz.ntmps82
  go_upto_region 4 with (fail)
  refine abs_world (Q := fun W => Code.wp _ _ _ _ W) (F := fun W => Below w.heap.size w W ∧ FormAt W w.heap.size 0 form0 ∧ (∀ k, W.frozen? ⟨w.heap.size, k, none⟩ = false) ∧ ∀ j, j < 10 → FormAt W (w.heap.size + 1 + 1 + 1 + 1) (j * 8) (formT.getD j form0)) _ ?_ ?_
  · refine ⟨((((((Below.refl _ w).alloc (Nat.le_refl _) _).alloc (by simp) _).alloc (by simp; omega) _).alloc (by simp; omega) _).alloc (by simp; omega) _), ?_, ?_, ?_⟩
    · have hr : ∀ o v, (#[.string { data := #[] }, .int .i64 0, .int .i64 0, .int .i64 0, .int .i64 0, .bool false, .int .i64 0, .int .i64 0] : Array Value)[o]? = some v → ∀ o1 o2 o3 o4,
          (((((w.alloc (.cells #[.string { data := #[] }, .int .i64 0, .int .i64 0, .int .i64 0, .int .i64 0, .bool false, .int .i64 0, .int .i64 0] 141)).alloc o1).alloc o2).alloc o3).alloc o4).cell? ⟨w.heap.size, o, none⟩ = some v := fun o v hv o1 o2 o3 o4 =>
        (bcell (B := w.heap.size + 1) (((((Below.refl _ _).alloc (by simp) _).alloc (by simp) _).alloc (by simp) _).alloc (by simp) _) (by omega) _).trans (cell_new rfl rfl hv)
      exact ⟨hr 0 _ rfl _ _ _ _, hr 1 _ rfl _ _ _ _, hr 2 _ rfl _ _ _ _, hr 3 _ rfl _ _ _ _, hr 4 _ rfl _ _ _ _, hr 5 _ rfl _ _ _ _, hr 6 _ rfl _ _ _ _, hr 7 _ rfl _ _ _ _⟩
    · intro k
      refine (Below.frozen (B := w.heap.size + 1) (w := w.alloc (.cells #[.string { data := #[] }, .int .i64 0, .int .i64 0, .int .i64 0, .int .i64 0, .bool false, .int .i64 0, .int .i64 0] 141)) (((((Below.refl _ _).alloc (by simp) _).alloc (by simp) _).alloc (by simp) _).alloc (by simp) _) (by show w.heap.size < _; omega)).trans ?_
      exact thawed_new' w _ _ k rfl
    · intro j hj
      rcases (by omega : j = 0 ∨ j = 1 ∨ j = 2 ∨ j = 3 ∨ j = 4 ∨ j = 5 ∨ j = 6 ∨ j = 7 ∨ j = 8 ∨ j = 9) with rfl | rfl | rfl | rfl | rfl | rfl | rfl | rfl | rfl | rfl
      all_goals exact ⟨cell_new rfl (by simp) rfl, cell_new rfl (by simp) rfl, cell_new rfl (by simp) rfl, cell_new rfl (by simp) rfl, cell_new rfl (by simp) rfl, cell_new rfl (by simp) rfl, cell_new rfl (by simp) rfl, cell_new rfl (by simp) rfl⟩
  intro W hW
  obtain ⟨hbW, ⟨r0, r1, r2, r3, r4, r5, r6, r7⟩, hfr, hT⟩ := hW
  have HT := Lib.hid hT
  have HB := Lib.hid hbW
  clear hT hbW
  have HG := Lib.hid (show FormAt W w.heap.size 0 form0 from ⟨r0, r1, r2, r3, r4, r5, r6, r7⟩)
  by_cases h1 : k < 1
  · obtain rfl : k = 0 := by omega
    clear h1 hk
    go_wp2
    exact form_close (f := form0) HG.out HB.out rfl rfl fun W' hb => ⟨congrArg Ending.returned HV.out.symm, hb⟩
  by_cases h2 : 10 < k
  · have HV2 : Hid (V = Value.tuple #[form0.val, .bool false]) := by
      unfold Hid; rw [HV.out, decide_eq_false (by omega)]; unfold formI; rw [if_pos (by omega), List.getD, List.getElem?_eq_none (by simp [formT]; omega)]; rfl
    go_wp2
    exact form_close (f := form0) HG.out HB.out rfl rfl fun W' hb => ⟨congrArg Ending.returned HV2.out.symm, hb⟩
  obtain ⟨j, hj, rfl⟩ : ∃ j : Nat, j < 10 ∧ k = (j : Int) + 1 := ⟨(k - 1).toNat, by omega, by omega⟩
  have hq := HT.out j hj
  clear h1 h2 hk HT
  rcases (by omega : j = 0 ∨ j = 1 ∨ j = 2 ∨ j = 3 ∨ j = 4 ∨ j = 5 ∨ j = 6 ∨ j = 7 ∨ j = 8 ∨ j = 9) with rfl | rfl | rfl | rfl | rfl | rfl | rfl | rfl | rfl | rfl
  · obtain ⟨q0, q1, q2, q3, q4, q5, q6, q7⟩ := hq
    simp only [formT, List.getD_cons_zero, Nat.zero_mul, Nat.zero_add] at q0 q1 q2 q3 q4 q5 q6 q7
    go_wp2
    exact form_close (f := ⟨{ data := #[] }, 0, 0, 0, 0, true, 1, 1⟩) HG.out HB.out rfl rfl fun W' hb => ⟨congrArg Ending.returned HV.out.symm, hb⟩
  · obtain ⟨q0, q1, q2, q3, q4, q5, q6, q7⟩ := hq
    simp only [formT, List.getD_cons_zero, List.getD_cons_succ, Nat.reduceMul, Nat.reduceAdd] at q0 q1 q2 q3 q4 q5 q6 q7
    go_wp2
    exact form_close (f := ⟨{ data := #[] }, 0, 0, 0, 0, false, 0, 1⟩) HG.out HB.out rfl rfl fun W' hb => ⟨congrArg Ending.returned HV.out.symm, hb⟩
  · obtain ⟨q0, q1, q2, q3, q4, q5, q6, q7⟩ := hq
    simp only [formT, List.getD_cons_zero, List.getD_cons_succ, Nat.reduceMul, Nat.reduceAdd] at q0 q1 q2 q3 q4 q5 q6 q7
    go_wp2
    exact form_close (f := ⟨{ data := #[102] }, 2, 4, 0, 0, true, 2, 1⟩) HG.out HB.out rfl rfl fun W' hb => ⟨congrArg Ending.returned HV.out.symm, hb⟩
  · obtain ⟨q0, q1, q2, q3, q4, q5, q6, q7⟩ := hq
    simp only [formT, List.getD_cons_zero, List.getD_cons_succ, Nat.reduceMul, Nat.reduceAdd] at q0 q1 q2 q3 q4 q5 q6 q7
    go_wp2
    exact form_close (f := ⟨{ data := #[108] }, 2, 4, 0, 0, true, 2, 1⟩) HG.out HB.out rfl rfl fun W' hb => ⟨congrArg Ending.returned HV.out.symm, hb⟩
  · obtain ⟨q0, q1, q2, q3, q4, q5, q6, q7⟩ := hq
    simp only [formT, List.getD_cons_zero, List.getD_cons_succ, Nat.reduceMul, Nat.reduceAdd] at q0 q1 q2 q3 q4 q5 q6 q7
    go_wp2
    exact form_close (f := ⟨{ data := #[109] }, 2, 4, 0, 0, true, 1, 2⟩) HG.out HB.out rfl rfl fun W' hb => ⟨congrArg Ending.returned HV.out.symm, hb⟩
  · obtain ⟨q0, q1, q2, q3, q4, q5, q6, q7⟩ := hq
    simp only [formT, List.getD_cons_zero, List.getD_cons_succ, Nat.reduceMul, Nat.reduceAdd] at q0 q1 q2 q3 q4 q5 q6 q7
    go_wp2
    exact form_close (f := ⟨{ data := #[120] }, 1, 6, 1, 6, true, 3, 3⟩) HG.out HB.out rfl rfl fun W' hb => ⟨congrArg Ending.returned HV.out.symm, hb⟩
  · obtain ⟨q0, q1, q2, q3, q4, q5, q6, q7⟩ := hq
    simp only [formT, List.getD_cons_zero, List.getD_cons_succ, Nat.reduceMul, Nat.reduceAdd] at q0 q1 q2 q3 q4 q5 q6 q7
    go_wp2
    exact form_close (f := ⟨{ data := #[121] }, 1, 6, 1, 6, true, 3, 3⟩) HG.out HB.out rfl rfl fun W' hb => ⟨congrArg Ending.returned HV.out.symm, hb⟩
  · obtain ⟨q0, q1, q2, q3, q4, q5, q6, q7⟩ := hq
    simp only [formT, List.getD_cons_zero, List.getD_cons_succ, Nat.reduceMul, Nat.reduceAdd] at q0 q1 q2 q3 q4 q5 q6 q7
    go_wp2
    exact form_close (f := ⟨{ data := #[115] }, 0, 0, 0, 0, true, 1, 1⟩) HG.out HB.out rfl rfl fun W' hb => ⟨congrArg Ending.returned HV.out.symm, hb⟩
  · obtain ⟨q0, q1, q2, q3, q4, q5, q6, q7⟩ := hq
    simp only [formT, List.getD_cons_zero, List.getD_cons_succ, Nat.reduceMul, Nat.reduceAdd] at q0 q1 q2 q3 q4 q5 q6 q7
    go_wp2
    exact form_close (f := ⟨{ data := #[] }, 1, 200, 0, 0, false, 0, 2⟩) HG.out HB.out rfl rfl fun W' hb => ⟨congrArg Ending.returned HV.out.symm, hb⟩
  · obtain ⟨q0, q1, q2, q3, q4, q5, q6, q7⟩ := hq
    simp only [formT, List.getD_cons_zero, List.getD_cons_succ, Nat.reduceMul, Nat.reduceAdd] at q0 q1 q2 q3 q4 q5 q6 q7
    go_wp2
    exact form_close (f := ⟨{ data := #[111] }, 1, 200, 0, 0, true, 2, 0⟩) HG.out HB.out rfl rfl fun W' hb => ⟨congrArg Ending.returned HV.out.symm, hb⟩
end Go.Proofs.YtbnddpknejgmhaaGreat
namespace Go.Proofs.YtbnddpknejgmhaaGreat
open Go.RowKit
set_option maxRecDepth 100000

/-- A stitch. -/
structure Stc where
  kind : Int
  purl : Bool
  a : Int
  b : Int
@[go_sem] def Stc.val (s : Stc) : Value := .agg #[.int .u8 s.kind, .bool s.purl, .int .i64 s.a, .int .i64 s.b]
def Stc.cells (s : Stc) : List Value := [.int .u8 s.kind, .bool s.purl, .int .i64 s.a, .int .i64 s.b]
theorem Stc.cells_length (s : Stc) : s.cells.length = 4 := rfl
def Stc.wf (s : Stc) : Prop := 0 ≤ s.kind ∧ s.kind ≤ 255
def Stc.ok (s : Stc) : Bool := decide (1 ≤ s.kind ∧ s.kind ≤ 10) && (decide ((formI s.kind).a0 ≤ s.a ∧ s.a ≤ (formI s.kind).a1) && (decide ((formI s.kind).b0 ≤ s.b ∧ s.b ≤ (formI s.kind).b1) && !(s.purl && !(formI s.kind).sided)))
def Stc.err (s : Stc) : Int := if s.ok then 0 else 8

theorem within_any (n e0 e1 : Int) (w : World) : Calls Tryz.prog 121 #[.int .i64 n, .agg #[.int .i64 e0, .int .i64 e1]] w fun e w' => e = .returned (.bool (decide (e0 ≤ n ∧ n ≤ e1))) ∧ Below w.heap.size w w' := by
  have hb := Lib.hid (fun o => (Below.refl w.heap.size w).alloc (Nat.le_refl _) o)
  go_enter Tryz.func121, Tryz.ntmps121
  go_wp2
  all_goals go_ret
  all_goals exact ⟨ret_bool (by rw [Bool.eq_iff_iff]; simp [*]; try omega), hb.out _⟩

/-- The stitch lies at an address. -/
def StcAt (w : World) (b o : Nat) (s : Stc) : Prop := w.cell? ⟨b, o, none⟩ = some (.int .u8 s.kind) ∧ w.cell? ⟨b, o + 1, none⟩ = some (.bool s.purl) ∧ w.cell? ⟨b, o + 2, none⟩ = some (.int .i64 s.a) ∧ w.cell? ⟨b, o + 3, none⟩ = some (.int .i64 s.b)
theorem StcAt.below {w w' : World} {B b o : Nat} {s : Stc} (h : StcAt w b o s) (hb : Below B w w') (hB : b < B) : StcAt w' b o s := by
  unfold StcAt
  simp only [bcell hb hB]
  exact h
theorem FormAt.below {w w' : World} {B b o : Nat} {f : Form} (h : FormAt w b o f) (hb : Below B w w') (hB : b < B) : FormAt w' b o f := by
  unfold FormAt
  simp only [bcell hb hB]
  exact h
theorem StcAt.lt {w : World} {b o : Nat} {s : Stc} (h : StcAt w b o s) : b < w.heap.size := lt_of_cell h.1
theorem FormAt.lt {w : World} {b o : Nat} {f : Form} (h : FormAt w b o f) : b < w.heap.size := lt_of_cell h.1
def RetE (v : Int) (w : World) (e : Ending) (w' : World) : Prop := e = .returned (.int .i64 v) ∧ Below w.heap.size w w'
theorem RetE.mk' {v x : Int} {w w' : World} (h : v = x) (hb : Below w.heap.size w w') : RetE v w (.returned (.int .i64 x)) w' := ⟨by rw [h], hb⟩
set_option maxHeartbeats 2000000 in
theorem scheck_any (s : Stc) (hs : s.wf) (w : World) : Calls Tryz.prog 107 #[s.val] w fun e w' => RetE s.err w e w' := by
  have HF := forms_any s.kind hs
  have HE : Hid (s.err = if decide (1 ≤ s.kind ∧ s.kind ≤ 10) && (decide ((formI s.kind).a0 ≤ s.a ∧ s.a ≤ (formI s.kind).a1) && (decide ((formI s.kind).b0 ≤ s.b ∧ s.b ≤ (formI s.kind).b1) && !(s.purl && !(formI s.kind).sided))) then 0 else 8) := rfl
  generalize s.err = er at HE ⊢
  generalize formI s.kind = f at HF HE
  have hwa := Lib.hid (fun w => within_any s.a f.a0 f.a1 w)
  have hwb := Lib.hid (fun w => within_any s.b f.b0 f.b1 w)
  generalize decide (f.a0 ≤ s.a ∧ s.a ≤ f.a1) = qa at HE hwa
  generalize decide (f.b0 ≤ s.b ∧ s.b ≤ f.b1) = qb at HE hwb
  generalize decide (1 ≤ s.kind ∧ s.kind ≤ 10) = qk at HE HF
  have HF2 := Lib.hid (show ∀ w, Calls Tryz.prog 82 #[.int .u8 s.kind] w fun e w' => e = .returned (.tuple #[.agg #[.string f.letter, .int .i64 f.a0, .int .i64 f.a1, .int .i64 f.b0, .int .i64 f.b1, .bool f.sided, .int .i64 f.uses, .int .i64 f.made], .bool qk]) ∧ Below w.heap.size w w' from HF)
  clear HF
  have HE2 := Lib.hid HE.out
  clear HE
  go_enter Tryz.func107, Tryz.ntmps107
  go_upto_region 2 with (go_at_call 82; refine (HF2.out _).mono ?_; rintro e w1 ⟨rfl, hb1⟩)
  refine abs_world (Q := fun W => Code.wp _ _ _ _ W) (F := fun W => Below w.heap.size w W ∧ StcAt W w.heap.size 0 s ∧ FormAt W w1.heap.size 0 f) _ ?_ ?_
  · have hs1 : StcAt w1 w.heap.size 0 s := by
      have h0 : StcAt (w.alloc (.cells #[.int .u8 s.kind, .bool s.purl, .int .i64 s.a, .int .i64 s.b] 51)) w.heap.size 0 s := ⟨cell_new rfl rfl rfl, cell_new rfl rfl rfl, cell_new rfl rfl rfl, cell_new rfl rfl rfl⟩
      exact h0.below (B := w.heap.size + 1) (hb1.mono (by simp)) (by omega)
    have hsz : w.heap.size + 1 ≤ w1.heap.size := by have := hb1.size; simpa using this
    have hbw1 : Below w.heap.size w w1 := ((Below.refl _ w).alloc (Nat.le_refl _) _).trans (hb1.mono (by simp))
    refine ⟨hbw1.alloc (by omega) _, hs1.below (B := w1.heap.size) ((Below.refl _ _).alloc (Nat.le_refl _) _) (by omega), ?_⟩
    exact ⟨cell_new rfl rfl rfl, cell_new rfl rfl rfl, cell_new rfl rfl rfl, cell_new rfl rfl rfl, cell_new rfl rfl rfl, cell_new rfl rfl rfl, cell_new rfl rfl rfl, cell_new rfl rfl rfl⟩
  rintro W ⟨hbW, hS, hFm⟩
  have HK := Lib.hid (fun w2 (hb : Below W.heap.size W w2) => (⟨hS.below hb hS.lt, hFm.below hb hFm.lt⟩ : StcAt w2 w.heap.size 0 s ∧ FormAt w2 w1.heap.size 0 f))
  obtain ⟨s0, s1, s2, s3⟩ := hS
  obtain ⟨f0, f1, f2, f3, f4, f5, f6, f7⟩ := hFm
  simp only [Nat.zero_add] at s1 s2 s3 f1 f2 f3 f4 f5 f6 f7
  have HB := Lib.hid hbW
  clear hbW HF2
  cases qk with
  | false =>
    have HR : Hid (er = 8) := HE2.out
    clear HE2 HK
    go_wp2
    go_ret
    exact RetE.mk' HR.out HB.out
  | true =>
    cases qa with
    | false =>
      have HR : Hid (er = 8) := HE2.out
      clear HE2
      go_wp2_with (go_at_call_of 121 (Value.int IntKind.i64 s.a); refine (hwa.out _).mono ?_; rintro e w2 ⟨rfl, hb2⟩)
      go_ret
      exact RetE.mk' HR.out (HB.out.trans (hb2.mono HB.out.size))
    | true =>
      cases qb with
      | false =>
        have HR : Hid (er = 8) := HE2.out
        clear HE2
        go_wp2_with (first
          | (go_at_call_of 121 (Value.int IntKind.i64 s.a); refine (hwa.out _).mono ?_; rintro e w2 ⟨rfl, hb2⟩
             obtain ⟨⟨t0, t1, t2, t3⟩, g0, g1, g2, g3, g4, g5, g6, g7⟩ := HK.out _ hb2
             simp only [Nat.zero_add] at t1 t2 t3 g1 g2 g3 g4 g5 g6 g7)
          | (go_at_call_of 121 (Value.int IntKind.i64 s.b); refine (hwb.out _).mono ?_; rintro e w3 ⟨rfl, hb3⟩))
        go_ret
        exact RetE.mk' HR.out (HB.out.trans ((hb2.trans (hb3.mono hb2.size)).mono HB.out.size))
      | true =>
        obtain ⟨pl, hpl⟩ : ∃ p, p = s.purl := ⟨_, rfl⟩
        obtain ⟨sd, hsd⟩ : ∃ p, p = f.sided := ⟨_, rfl⟩
        rw [← hpl] at s1
        rw [← hpl, ← hsd] at HE2
        have HK2 := Lib.hid (fun (w2 : World) (hb : Below W.heap.size W w2) => (show w2.cell? ⟨w.heap.size, 1, none⟩ = some (.bool pl) ∧ w2.cell? ⟨w1.heap.size, 5, none⟩ = some (.bool sd) ∧ w2.cell? ⟨w.heap.size, 3, none⟩ = some (.int .i64 s.b) ∧ w2.cell? ⟨w1.heap.size, 3, none⟩ = some (.int .i64 f.b0) ∧ w2.cell? ⟨w1.heap.size, 4, none⟩ = some (.int .i64 f.b1) by
          obtain ⟨⟨v0, v1, v2, v3⟩, k0, k1, k2, k3, k4, k5, k6, k7⟩ := HK.out w2 hb
          simp only [Nat.zero_add] at v1 v2 v3 k1 k2 k3 k4 k5 k6 k7
          exact ⟨by rw [v1, hpl], by rw [k5, hsd], v3, k3, k4⟩))
        clear hpl hsd HK
        cases pl <;> cases sd
        all_goals
          go_wp2_with (first
            | (go_at_call_of 121 (Value.int IntKind.i64 s.a); refine (hwa.out _).mono ?_; rintro e w2 ⟨rfl, hb2⟩
               obtain ⟨t0, t1, t2, t3, t4⟩ := HK2.out _ hb2)
            | (go_at_call_of 121 (Value.int IntKind.i64 s.b); refine (hwb.out _).mono ?_; rintro e w3 ⟨rfl, hb3⟩
               obtain ⟨v0, v1, v2, v3, v4⟩ := HK2.out _ (hb2.trans (hb3.mono hb2.size))))
          go_ret
          exact RetE.mk' HE2.out (HB.out.trans ((hb2.trans (hb3.mono hb2.size)).mono HB.out.size))

/-- How many loops a number of a form stands for. -/
def loopsI (s : Stc) (how : Int) : Int := if how = 1 then 1 else if how = 2 then s.a else if how = 3 then s.a + s.b else 0
theorem loops_any (s : Stc) (how : Int) (hh : 0 ≤ how ∧ how ≤ 3) (ha : 0 ≤ s.a ∧ s.a ≤ 1000) (hb : 0 ≤ s.b ∧ s.b ≤ 1000) (w : World) : Calls Tryz.prog 120 #[s.val, .int .i64 how] w fun e w' => RetE (loopsI s how) w e w' := by
  have hbl := Lib.hid (fun o => (Below.refl w.heap.size w).alloc (Nat.le_refl _) o)
  have hw : IntKind.i64.wrap (s.a + s.b) = s.a + s.b := IntWalk.i64_in _ (by omega)
  have hi0 : ∀ (x y : Int) (W : World), (Instr.index 194 (.agg #[.int .i64 0, .int .i64 1, .int .i64 x, .int .i64 y]) (.int .i64 0)).run Tryz.prog W = .ok (.int .i64 0) W := fun x y W => by kernel_rfl
  have hi1 : ∀ (x y : Int) (W : World), (Instr.index 194 (.agg #[.int .i64 0, .int .i64 1, .int .i64 x, .int .i64 y]) (.int .i64 1)).run Tryz.prog W = .ok (.int .i64 1) W := fun x y W => by kernel_rfl
  have hi2 : ∀ (x y : Int) (W : World), (Instr.index 194 (.agg #[.int .i64 0, .int .i64 1, .int .i64 x, .int .i64 y]) (.int .i64 2)).run Tryz.prog W = .ok (.int .i64 x) W := fun x y W => by kernel_rfl
  have hi3 : ∀ (x y : Int) (W : World), (Instr.index 194 (.agg #[.int .i64 0, .int .i64 1, .int .i64 x, .int .i64 y]) (.int .i64 3)).run Tryz.prog W = .ok (.int .i64 y) W := fun x y W => by kernel_rfl
  rcases (by omega : how = 0 ∨ how = 1 ∨ how = 2 ∨ how = 3) with rfl | rfl | rfl | rfl
  all_goals
    go_enter Tryz.func120, Tryz.ntmps120
    go_wp2
    go_ret
    refine RetE.mk' ?_ (hbl.out _)
    simp [loopsI]
end Go.Proofs.YtbnddpknejgmhaaGreat
