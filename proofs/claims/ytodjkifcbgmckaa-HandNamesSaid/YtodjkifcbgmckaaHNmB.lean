/- HandNames, walked. -/
import Derived.Test.YtodjkifcbgmckaaHlw
import Derived.Test.YtodjkifcbgmckaaFwst
import Derived.Test.YtodjkifcbgmckaaRgr
import Derived.Test.YtodjkifcbgmckaaHrep
import Derived.Test.YtodjkifcbgmckaaHck
import Derived.Test.YtodjkifcbgmckaaHri
import Derived.Deep.RegionHeld3
namespace Go.Proofs.Ytodjkifcbgmckaa
open Go.RowKit Go.Shelf Go.Sort
set_option maxRecDepth 100000

abbrev swapB : Brd := ⟨[1, 0], []⟩
abbrev turnB : Brd := ⟨[7, 6, 5, 4, 3, 2, 1, 0], []⟩
abbrev zeroB : Brd := ⟨List.replicate 9 0, []⟩
theorem nm_of1 : ofE ⟨1, false, 0, 0⟩ = (⟨[], []⟩, 2) := by rfl
theorem nm_of2 : ofE ⟨6, false, 4, 5⟩ = (⟨[], []⟩, 4) := by rfl
theorem nm_of3 : ofE ⟨0, false, 0, 0⟩ = (⟨[], []⟩, 8) := by rfl
theorem nm_p1 : planE swapB [1, 1] = ([], 2) := by rfl
theorem nm_p2 : planE swapB [0] = ([], 2) := by rfl
theorem nm_p3 : planE swapB [5] = ([], 2) := by rfl
theorem nm_p4 : planE ⟨[], []⟩ [] = ([], 0) := by rfl
theorem nm_r1 : rightE swapB [-1] [0] = (false, 2) := by decide +kernel
theorem nm_r2 : rightE swapB [-1] [1, -1] = (false, 2) := by decide +kernel
theorem nm_r3 : rightE swapB [-1] [-1, -1] = (false, 0) := by decide +kernel
theorem nm_w : workE swapB [-1] [-1, -1] = ([], 36) := by rfl
theorem nm_f1 : fewE swapB = ((0, 1), 0) := by decide +kernel
theorem nm_f2 : fewE turnB = ((0, 0), 6) := by decide +kernel
theorem nm_e1 : rpE 1 [] [] = (⟨[], []⟩, 36) := by rfl
theorem nm_e2 : rpE 1 [] [⟨false, 0⟩] = (⟨[], []⟩, 8) := by rfl
theorem nm_e3 : rpE 1 [1] [⟨false, 0⟩] = (⟨[], []⟩, 36) := by rfl
theorem nm_e4 : rpE 9 [] [] = (⟨[], []⟩, 2) := by rfl
theorem nm_e5 : rpE 1 [1] [⟨true, -1⟩] = (⟨[], []⟩, 8) := by rfl
theorem nm_many : brdE zeroB = 4 := by rfl
theorem brd_empty {x : Int} {w w' : World} {e : Ending} (h : brdOut (⟨[], []⟩, x) w e w') : ∃ A F c fc, e = .returned (.tuple #[.agg #[.slice A 0 c, .slice F 0 fc], .int .i64 x]) ∧ Below w.heap.size w w' := by
  obtain ⟨A, F, c, fc, h1, -, -, h2⟩ := brd_open h
  exact ⟨A, F, c, fc, h1, h2⟩
theorem SlI.al {W : World} {A : Option Addr} {l : List Int} (h : SlI W W.heap.size A l) (o : Obj) : SlI (W.alloc o) (W.alloc o).heap.size A l := (h.below ((Below.refl _ W).alloc (Nat.le_refl _) o)).more (by simp)
theorem SlPr.nil {w : World} {B : Nat} {A : Option Addr} : SlPr w B A [] := fun h => absurd rfl h
theorem SlPr.al {W : World} {A : Option Addr} {l : List (Int × Int)} (h : SlPr W W.heap.size A l) (o : Obj) : SlPr (W.alloc o) (W.alloc o).heap.size A l := (h.below ((Below.refl _ W).alloc (Nat.le_refl _) o)).more (by simp)
/-- A bad braid at place k of a block. -/
def BadAt (W : World) (p k : Nat) : Prop := ∃ (A F : Option Addr) (c fc : Nat) (b : Brd), W.cell? ⟨p, k * 2, none⟩ = some (.slice A b.to_.length c) ∧ W.cell? ⟨p, k * 2 + 1, none⟩ = some (.slice F b.fronts.length fc) ∧ SlI W W.heap.size A b.to_ ∧ SlPr W W.heap.size F b.fronts ∧ brdE b = 8 ∧ b.fronts.length ≤ 2
theorem BadAt.to {W W' : World} {p k : Nat} (h : BadAt W p k) (hb : Below W.heap.size W W') : BadAt W' p k := by
  obtain ⟨A, F, c, fc, b, h0, h1, h2, h3, h4, h5⟩ := h
  exact ⟨A, F, c, fc, b, (bcell hb (lt_of_cell h0) _).trans h0, (bcell hb (lt_of_cell h1) _).trans h1, (h2.below hb).more hb.size, (h3.below hb).more hb.size, h4, h5⟩
set_option maxHeartbeats 4000000 in
theorem bads_lie (w W : World) (e : W = (((((((((((w.alloc (.cells #[.int .i64 1] 3)).alloc (.cells #[.int .i64 0, .int .i64 0] 3)).alloc (.cells #[.int .i64 (-1)] 3)).alloc (.cells #[.int .i64 0, .int .i64 1] 3)).alloc (.cells #[.int .i64 0, .int .i64 1] 66)).alloc (.cells #[.int .i64 1, .int .i64 0] 3)).alloc (.cells #[.int .i64 1, .int .i64 0] 66)).alloc (.cells #[.int .i64 1, .int .i64 0] 3)).alloc (.cells #[.int .i64 0, .int .i64 1, .int .i64 0, .int .i64 1] 66)).alloc (.cells #[.int .i64 1, .int .i64 0] 3)).alloc (.cells #[.int .i64 0, .int .i64 2] 66)).alloc (.cells #[.slice (some ⟨w.heap.size, 0, none⟩) 1 1, .slice none 0 0, .slice (some ⟨w.heap.size + 1, 0, none⟩) 2 2, .slice none 0 0, .slice (some ⟨w.heap.size + 2, 0, none⟩) 1 1, .slice none 0 0, .slice (some ⟨w.heap.size + 3, 0, none⟩) 2 2, .slice (some ⟨w.heap.size + 4, 0, none⟩) 1 1, .slice (some ⟨w.heap.size + 5, 0, none⟩) 2 2, .slice (some ⟨w.heap.size + 6, 0, none⟩) 1 1, .slice (some ⟨w.heap.size + 7, 0, none⟩) 2 2, .slice (some ⟨w.heap.size + 8, 0, none⟩) 2 2, .slice (some ⟨w.heap.size + 9, 0, none⟩) 2 2, .slice (some ⟨w.heap.size + 10, 0, none⟩) 1 1] 26)) : Below w.heap.size w W ∧ ∀ k, k < 7 → BadAt W (w.heap.size + 11) k := by
  obtain ⟨w1, e1⟩ : ∃ x, x = w.alloc (.cells #[.int .i64 1] 3) := ⟨_, rfl⟩
  rw [← e1] at e
  obtain ⟨w2, e2⟩ : ∃ x, x = w1.alloc (.cells #[.int .i64 0, .int .i64 0] 3) := ⟨_, rfl⟩
  rw [← e2] at e
  obtain ⟨w3, e3⟩ : ∃ x, x = w2.alloc (.cells #[.int .i64 (-1)] 3) := ⟨_, rfl⟩
  rw [← e3] at e
  obtain ⟨w4, e4⟩ : ∃ x, x = w3.alloc (.cells #[.int .i64 0, .int .i64 1] 3) := ⟨_, rfl⟩
  rw [← e4] at e
  obtain ⟨w5, e5⟩ : ∃ x, x = w4.alloc (.cells #[.int .i64 0, .int .i64 1] 66) := ⟨_, rfl⟩
  rw [← e5] at e
  obtain ⟨w6, e6⟩ : ∃ x, x = w5.alloc (.cells #[.int .i64 1, .int .i64 0] 3) := ⟨_, rfl⟩
  rw [← e6] at e
  obtain ⟨w7, e7⟩ : ∃ x, x = w6.alloc (.cells #[.int .i64 1, .int .i64 0] 66) := ⟨_, rfl⟩
  rw [← e7] at e
  obtain ⟨w8, e8⟩ : ∃ x, x = w7.alloc (.cells #[.int .i64 1, .int .i64 0] 3) := ⟨_, rfl⟩
  rw [← e8] at e
  obtain ⟨w9, e9⟩ : ∃ x, x = w8.alloc (.cells #[.int .i64 0, .int .i64 1, .int .i64 0, .int .i64 1] 66) := ⟨_, rfl⟩
  rw [← e9] at e
  obtain ⟨w10, e10⟩ : ∃ x, x = w9.alloc (.cells #[.int .i64 1, .int .i64 0] 3) := ⟨_, rfl⟩
  rw [← e10] at e
  obtain ⟨w11, e11⟩ : ∃ x, x = w10.alloc (.cells #[.int .i64 0, .int .i64 2] 66) := ⟨_, rfl⟩
  rw [← e11] at e
  have z0 : w.heap.size = w.heap.size := rfl
  have z1 : w1.heap.size = w.heap.size + 1 := by rw [e1, World.size_alloc]
  have z2 : w2.heap.size = w.heap.size + 2 := by rw [e2, World.size_alloc, z1]
  have z3 : w3.heap.size = w.heap.size + 3 := by rw [e3, World.size_alloc, z2]
  have z4 : w4.heap.size = w.heap.size + 4 := by rw [e4, World.size_alloc, z3]
  have z5 : w5.heap.size = w.heap.size + 5 := by rw [e5, World.size_alloc, z4]
  have z6 : w6.heap.size = w.heap.size + 6 := by rw [e6, World.size_alloc, z5]
  have z7 : w7.heap.size = w.heap.size + 7 := by rw [e7, World.size_alloc, z6]
  have z8 : w8.heap.size = w.heap.size + 8 := by rw [e8, World.size_alloc, z7]
  have z9 : w9.heap.size = w.heap.size + 9 := by rw [e9, World.size_alloc, z8]
  have z10 : w10.heap.size = w.heap.size + 10 := by rw [e10, World.size_alloc, z9]
  have z11 : w11.heap.size = w.heap.size + 11 := by rw [e11, World.size_alloc, z10]
  have hb0 : Below w.heap.size w w := Below.refl _ _
  have hb1 : Below w.heap.size w w1 := by rw [e1]; exact hb0.alloc (by omega) _
  have hb2 : Below w.heap.size w w2 := by rw [e2]; exact hb1.alloc (by omega) _
  have hb3 : Below w.heap.size w w3 := by rw [e3]; exact hb2.alloc (by omega) _
  have hb4 : Below w.heap.size w w4 := by rw [e4]; exact hb3.alloc (by omega) _
  have hb5 : Below w.heap.size w w5 := by rw [e5]; exact hb4.alloc (by omega) _
  have hb6 : Below w.heap.size w w6 := by rw [e6]; exact hb5.alloc (by omega) _
  have hb7 : Below w.heap.size w w7 := by rw [e7]; exact hb6.alloc (by omega) _
  have hb8 : Below w.heap.size w w8 := by rw [e8]; exact hb7.alloc (by omega) _
  have hb9 : Below w.heap.size w w9 := by rw [e9]; exact hb8.alloc (by omega) _
  have hb10 : Below w.heap.size w w10 := by rw [e10]; exact hb9.alloc (by omega) _
  have hb11 : Below w.heap.size w w11 := by rw [e11]; exact hb10.alloc (by omega) _
  have f0 : SlI w1 w1.heap.size (some ⟨w.heap.size, 0, none⟩) [1] := by
    have h := sl_lit (W := w) (W' := w1) [1] e1 rfl
    exact h
  have f1 : SlI w2 w2.heap.size (some ⟨w.heap.size + 1, 0, none⟩) [0, 0] := by
    have h := sl_lit (W := w1) (W' := w2) [0, 0] e2 rfl
    rw [z1] at h
    exact h
  replace f0 := by have h := f0.al (.cells #[.int .i64 0, .int .i64 0] 3); rw [← e2] at h; exact h
  have f2 : SlI w3 w3.heap.size (some ⟨w.heap.size + 2, 0, none⟩) [-1] := by
    have h := sl_lit (W := w2) (W' := w3) [-1] e3 rfl
    rw [z2] at h
    exact h
  replace f0 := by have h := f0.al (.cells #[.int .i64 (-1)] 3); rw [← e3] at h; exact h
  replace f1 := by have h := f1.al (.cells #[.int .i64 (-1)] 3); rw [← e3] at h; exact h
  have f3 : SlI w4 w4.heap.size (some ⟨w.heap.size + 3, 0, none⟩) [0, 1] := by
    have h := sl_lit (W := w3) (W' := w4) [0, 1] e4 rfl
    rw [z3] at h
    exact h
  replace f0 := by have h := f0.al (.cells #[.int .i64 0, .int .i64 1] 3); rw [← e4] at h; exact h
  replace f1 := by have h := f1.al (.cells #[.int .i64 0, .int .i64 1] 3); rw [← e4] at h; exact h
  replace f2 := by have h := f2.al (.cells #[.int .i64 0, .int .i64 1] 3); rw [← e4] at h; exact h
  have f4 : SlPr w5 w5.heap.size (some ⟨w.heap.size + 4, 0, none⟩) [(0, 1)] := by
    have h := pr_lit (W := w4) (W' := w5) [(0, 1)] e5 rfl
    rw [z4] at h
    exact h
  replace f0 := by have h := f0.al (.cells #[.int .i64 0, .int .i64 1] 66); rw [← e5] at h; exact h
  replace f1 := by have h := f1.al (.cells #[.int .i64 0, .int .i64 1] 66); rw [← e5] at h; exact h
  replace f2 := by have h := f2.al (.cells #[.int .i64 0, .int .i64 1] 66); rw [← e5] at h; exact h
  replace f3 := by have h := f3.al (.cells #[.int .i64 0, .int .i64 1] 66); rw [← e5] at h; exact h
  have f5 : SlI w6 w6.heap.size (some ⟨w.heap.size + 5, 0, none⟩) [1, 0] := by
    have h := sl_lit (W := w5) (W' := w6) [1, 0] e6 rfl
    rw [z5] at h
    exact h
  replace f0 := by have h := f0.al (.cells #[.int .i64 1, .int .i64 0] 3); rw [← e6] at h; exact h
  replace f1 := by have h := f1.al (.cells #[.int .i64 1, .int .i64 0] 3); rw [← e6] at h; exact h
  replace f2 := by have h := f2.al (.cells #[.int .i64 1, .int .i64 0] 3); rw [← e6] at h; exact h
  replace f3 := by have h := f3.al (.cells #[.int .i64 1, .int .i64 0] 3); rw [← e6] at h; exact h
  replace f4 := by have h := f4.al (.cells #[.int .i64 1, .int .i64 0] 3); rw [← e6] at h; exact h
  have f6 : SlPr w7 w7.heap.size (some ⟨w.heap.size + 6, 0, none⟩) [(1, 0)] := by
    have h := pr_lit (W := w6) (W' := w7) [(1, 0)] e7 rfl
    rw [z6] at h
    exact h
  replace f0 := by have h := f0.al (.cells #[.int .i64 1, .int .i64 0] 66); rw [← e7] at h; exact h
  replace f1 := by have h := f1.al (.cells #[.int .i64 1, .int .i64 0] 66); rw [← e7] at h; exact h
  replace f2 := by have h := f2.al (.cells #[.int .i64 1, .int .i64 0] 66); rw [← e7] at h; exact h
  replace f3 := by have h := f3.al (.cells #[.int .i64 1, .int .i64 0] 66); rw [← e7] at h; exact h
  replace f4 := by have h := f4.al (.cells #[.int .i64 1, .int .i64 0] 66); rw [← e7] at h; exact h
  replace f5 := by have h := f5.al (.cells #[.int .i64 1, .int .i64 0] 66); rw [← e7] at h; exact h
  have f7 : SlI w8 w8.heap.size (some ⟨w.heap.size + 7, 0, none⟩) [1, 0] := by
    have h := sl_lit (W := w7) (W' := w8) [1, 0] e8 rfl
    rw [z7] at h
    exact h
  replace f0 := by have h := f0.al (.cells #[.int .i64 1, .int .i64 0] 3); rw [← e8] at h; exact h
  replace f1 := by have h := f1.al (.cells #[.int .i64 1, .int .i64 0] 3); rw [← e8] at h; exact h
  replace f2 := by have h := f2.al (.cells #[.int .i64 1, .int .i64 0] 3); rw [← e8] at h; exact h
  replace f3 := by have h := f3.al (.cells #[.int .i64 1, .int .i64 0] 3); rw [← e8] at h; exact h
  replace f4 := by have h := f4.al (.cells #[.int .i64 1, .int .i64 0] 3); rw [← e8] at h; exact h
  replace f5 := by have h := f5.al (.cells #[.int .i64 1, .int .i64 0] 3); rw [← e8] at h; exact h
  replace f6 := by have h := f6.al (.cells #[.int .i64 1, .int .i64 0] 3); rw [← e8] at h; exact h
  have f8 : SlPr w9 w9.heap.size (some ⟨w.heap.size + 8, 0, none⟩) [(0, 1), (0, 1)] := by
    have h := pr_lit (W := w8) (W' := w9) [(0, 1), (0, 1)] e9 rfl
    rw [z8] at h
    exact h
  replace f0 := by have h := f0.al (.cells #[.int .i64 0, .int .i64 1, .int .i64 0, .int .i64 1] 66); rw [← e9] at h; exact h
  replace f1 := by have h := f1.al (.cells #[.int .i64 0, .int .i64 1, .int .i64 0, .int .i64 1] 66); rw [← e9] at h; exact h
  replace f2 := by have h := f2.al (.cells #[.int .i64 0, .int .i64 1, .int .i64 0, .int .i64 1] 66); rw [← e9] at h; exact h
  replace f3 := by have h := f3.al (.cells #[.int .i64 0, .int .i64 1, .int .i64 0, .int .i64 1] 66); rw [← e9] at h; exact h
  replace f4 := by have h := f4.al (.cells #[.int .i64 0, .int .i64 1, .int .i64 0, .int .i64 1] 66); rw [← e9] at h; exact h
  replace f5 := by have h := f5.al (.cells #[.int .i64 0, .int .i64 1, .int .i64 0, .int .i64 1] 66); rw [← e9] at h; exact h
  replace f6 := by have h := f6.al (.cells #[.int .i64 0, .int .i64 1, .int .i64 0, .int .i64 1] 66); rw [← e9] at h; exact h
  replace f7 := by have h := f7.al (.cells #[.int .i64 0, .int .i64 1, .int .i64 0, .int .i64 1] 66); rw [← e9] at h; exact h
  have f9 : SlI w10 w10.heap.size (some ⟨w.heap.size + 9, 0, none⟩) [1, 0] := by
    have h := sl_lit (W := w9) (W' := w10) [1, 0] e10 rfl
    rw [z9] at h
    exact h
  replace f0 := by have h := f0.al (.cells #[.int .i64 1, .int .i64 0] 3); rw [← e10] at h; exact h
  replace f1 := by have h := f1.al (.cells #[.int .i64 1, .int .i64 0] 3); rw [← e10] at h; exact h
  replace f2 := by have h := f2.al (.cells #[.int .i64 1, .int .i64 0] 3); rw [← e10] at h; exact h
  replace f3 := by have h := f3.al (.cells #[.int .i64 1, .int .i64 0] 3); rw [← e10] at h; exact h
  replace f4 := by have h := f4.al (.cells #[.int .i64 1, .int .i64 0] 3); rw [← e10] at h; exact h
  replace f5 := by have h := f5.al (.cells #[.int .i64 1, .int .i64 0] 3); rw [← e10] at h; exact h
  replace f6 := by have h := f6.al (.cells #[.int .i64 1, .int .i64 0] 3); rw [← e10] at h; exact h
  replace f7 := by have h := f7.al (.cells #[.int .i64 1, .int .i64 0] 3); rw [← e10] at h; exact h
  replace f8 := by have h := f8.al (.cells #[.int .i64 1, .int .i64 0] 3); rw [← e10] at h; exact h
  have f10 : SlPr w11 w11.heap.size (some ⟨w.heap.size + 10, 0, none⟩) [(0, 2)] := by
    have h := pr_lit (W := w10) (W' := w11) [(0, 2)] e11 rfl
    rw [z10] at h
    exact h
  replace f0 := by have h := f0.al (.cells #[.int .i64 0, .int .i64 2] 66); rw [← e11] at h; exact h
  replace f1 := by have h := f1.al (.cells #[.int .i64 0, .int .i64 2] 66); rw [← e11] at h; exact h
  replace f2 := by have h := f2.al (.cells #[.int .i64 0, .int .i64 2] 66); rw [← e11] at h; exact h
  replace f3 := by have h := f3.al (.cells #[.int .i64 0, .int .i64 2] 66); rw [← e11] at h; exact h
  replace f4 := by have h := f4.al (.cells #[.int .i64 0, .int .i64 2] 66); rw [← e11] at h; exact h
  replace f5 := by have h := f5.al (.cells #[.int .i64 0, .int .i64 2] 66); rw [← e11] at h; exact h
  replace f6 := by have h := f6.al (.cells #[.int .i64 0, .int .i64 2] 66); rw [← e11] at h; exact h
  replace f7 := by have h := f7.al (.cells #[.int .i64 0, .int .i64 2] 66); rw [← e11] at h; exact h
  replace f8 := by have h := f8.al (.cells #[.int .i64 0, .int .i64 2] 66); rw [← e11] at h; exact h
  replace f9 := by have h := f9.al (.cells #[.int .i64 0, .int .i64 2] 66); rw [← e11] at h; exact h
  refine ⟨by rw [e]; exact hb11.alloc (by omega) _, ?_⟩
  replace f0 := by have h := f0.al (.cells #[.slice (some ⟨w.heap.size, 0, none⟩) 1 1, .slice none 0 0, .slice (some ⟨w.heap.size + 1, 0, none⟩) 2 2, .slice none 0 0, .slice (some ⟨w.heap.size + 2, 0, none⟩) 1 1, .slice none 0 0, .slice (some ⟨w.heap.size + 3, 0, none⟩) 2 2, .slice (some ⟨w.heap.size + 4, 0, none⟩) 1 1, .slice (some ⟨w.heap.size + 5, 0, none⟩) 2 2, .slice (some ⟨w.heap.size + 6, 0, none⟩) 1 1, .slice (some ⟨w.heap.size + 7, 0, none⟩) 2 2, .slice (some ⟨w.heap.size + 8, 0, none⟩) 2 2, .slice (some ⟨w.heap.size + 9, 0, none⟩) 2 2, .slice (some ⟨w.heap.size + 10, 0, none⟩) 1 1] 26); rw [← e] at h; exact h
  replace f1 := by have h := f1.al (.cells #[.slice (some ⟨w.heap.size, 0, none⟩) 1 1, .slice none 0 0, .slice (some ⟨w.heap.size + 1, 0, none⟩) 2 2, .slice none 0 0, .slice (some ⟨w.heap.size + 2, 0, none⟩) 1 1, .slice none 0 0, .slice (some ⟨w.heap.size + 3, 0, none⟩) 2 2, .slice (some ⟨w.heap.size + 4, 0, none⟩) 1 1, .slice (some ⟨w.heap.size + 5, 0, none⟩) 2 2, .slice (some ⟨w.heap.size + 6, 0, none⟩) 1 1, .slice (some ⟨w.heap.size + 7, 0, none⟩) 2 2, .slice (some ⟨w.heap.size + 8, 0, none⟩) 2 2, .slice (some ⟨w.heap.size + 9, 0, none⟩) 2 2, .slice (some ⟨w.heap.size + 10, 0, none⟩) 1 1] 26); rw [← e] at h; exact h
  replace f2 := by have h := f2.al (.cells #[.slice (some ⟨w.heap.size, 0, none⟩) 1 1, .slice none 0 0, .slice (some ⟨w.heap.size + 1, 0, none⟩) 2 2, .slice none 0 0, .slice (some ⟨w.heap.size + 2, 0, none⟩) 1 1, .slice none 0 0, .slice (some ⟨w.heap.size + 3, 0, none⟩) 2 2, .slice (some ⟨w.heap.size + 4, 0, none⟩) 1 1, .slice (some ⟨w.heap.size + 5, 0, none⟩) 2 2, .slice (some ⟨w.heap.size + 6, 0, none⟩) 1 1, .slice (some ⟨w.heap.size + 7, 0, none⟩) 2 2, .slice (some ⟨w.heap.size + 8, 0, none⟩) 2 2, .slice (some ⟨w.heap.size + 9, 0, none⟩) 2 2, .slice (some ⟨w.heap.size + 10, 0, none⟩) 1 1] 26); rw [← e] at h; exact h
  replace f3 := by have h := f3.al (.cells #[.slice (some ⟨w.heap.size, 0, none⟩) 1 1, .slice none 0 0, .slice (some ⟨w.heap.size + 1, 0, none⟩) 2 2, .slice none 0 0, .slice (some ⟨w.heap.size + 2, 0, none⟩) 1 1, .slice none 0 0, .slice (some ⟨w.heap.size + 3, 0, none⟩) 2 2, .slice (some ⟨w.heap.size + 4, 0, none⟩) 1 1, .slice (some ⟨w.heap.size + 5, 0, none⟩) 2 2, .slice (some ⟨w.heap.size + 6, 0, none⟩) 1 1, .slice (some ⟨w.heap.size + 7, 0, none⟩) 2 2, .slice (some ⟨w.heap.size + 8, 0, none⟩) 2 2, .slice (some ⟨w.heap.size + 9, 0, none⟩) 2 2, .slice (some ⟨w.heap.size + 10, 0, none⟩) 1 1] 26); rw [← e] at h; exact h
  replace f4 := by have h := f4.al (.cells #[.slice (some ⟨w.heap.size, 0, none⟩) 1 1, .slice none 0 0, .slice (some ⟨w.heap.size + 1, 0, none⟩) 2 2, .slice none 0 0, .slice (some ⟨w.heap.size + 2, 0, none⟩) 1 1, .slice none 0 0, .slice (some ⟨w.heap.size + 3, 0, none⟩) 2 2, .slice (some ⟨w.heap.size + 4, 0, none⟩) 1 1, .slice (some ⟨w.heap.size + 5, 0, none⟩) 2 2, .slice (some ⟨w.heap.size + 6, 0, none⟩) 1 1, .slice (some ⟨w.heap.size + 7, 0, none⟩) 2 2, .slice (some ⟨w.heap.size + 8, 0, none⟩) 2 2, .slice (some ⟨w.heap.size + 9, 0, none⟩) 2 2, .slice (some ⟨w.heap.size + 10, 0, none⟩) 1 1] 26); rw [← e] at h; exact h
  replace f5 := by have h := f5.al (.cells #[.slice (some ⟨w.heap.size, 0, none⟩) 1 1, .slice none 0 0, .slice (some ⟨w.heap.size + 1, 0, none⟩) 2 2, .slice none 0 0, .slice (some ⟨w.heap.size + 2, 0, none⟩) 1 1, .slice none 0 0, .slice (some ⟨w.heap.size + 3, 0, none⟩) 2 2, .slice (some ⟨w.heap.size + 4, 0, none⟩) 1 1, .slice (some ⟨w.heap.size + 5, 0, none⟩) 2 2, .slice (some ⟨w.heap.size + 6, 0, none⟩) 1 1, .slice (some ⟨w.heap.size + 7, 0, none⟩) 2 2, .slice (some ⟨w.heap.size + 8, 0, none⟩) 2 2, .slice (some ⟨w.heap.size + 9, 0, none⟩) 2 2, .slice (some ⟨w.heap.size + 10, 0, none⟩) 1 1] 26); rw [← e] at h; exact h
  replace f6 := by have h := f6.al (.cells #[.slice (some ⟨w.heap.size, 0, none⟩) 1 1, .slice none 0 0, .slice (some ⟨w.heap.size + 1, 0, none⟩) 2 2, .slice none 0 0, .slice (some ⟨w.heap.size + 2, 0, none⟩) 1 1, .slice none 0 0, .slice (some ⟨w.heap.size + 3, 0, none⟩) 2 2, .slice (some ⟨w.heap.size + 4, 0, none⟩) 1 1, .slice (some ⟨w.heap.size + 5, 0, none⟩) 2 2, .slice (some ⟨w.heap.size + 6, 0, none⟩) 1 1, .slice (some ⟨w.heap.size + 7, 0, none⟩) 2 2, .slice (some ⟨w.heap.size + 8, 0, none⟩) 2 2, .slice (some ⟨w.heap.size + 9, 0, none⟩) 2 2, .slice (some ⟨w.heap.size + 10, 0, none⟩) 1 1] 26); rw [← e] at h; exact h
  replace f7 := by have h := f7.al (.cells #[.slice (some ⟨w.heap.size, 0, none⟩) 1 1, .slice none 0 0, .slice (some ⟨w.heap.size + 1, 0, none⟩) 2 2, .slice none 0 0, .slice (some ⟨w.heap.size + 2, 0, none⟩) 1 1, .slice none 0 0, .slice (some ⟨w.heap.size + 3, 0, none⟩) 2 2, .slice (some ⟨w.heap.size + 4, 0, none⟩) 1 1, .slice (some ⟨w.heap.size + 5, 0, none⟩) 2 2, .slice (some ⟨w.heap.size + 6, 0, none⟩) 1 1, .slice (some ⟨w.heap.size + 7, 0, none⟩) 2 2, .slice (some ⟨w.heap.size + 8, 0, none⟩) 2 2, .slice (some ⟨w.heap.size + 9, 0, none⟩) 2 2, .slice (some ⟨w.heap.size + 10, 0, none⟩) 1 1] 26); rw [← e] at h; exact h
  replace f8 := by have h := f8.al (.cells #[.slice (some ⟨w.heap.size, 0, none⟩) 1 1, .slice none 0 0, .slice (some ⟨w.heap.size + 1, 0, none⟩) 2 2, .slice none 0 0, .slice (some ⟨w.heap.size + 2, 0, none⟩) 1 1, .slice none 0 0, .slice (some ⟨w.heap.size + 3, 0, none⟩) 2 2, .slice (some ⟨w.heap.size + 4, 0, none⟩) 1 1, .slice (some ⟨w.heap.size + 5, 0, none⟩) 2 2, .slice (some ⟨w.heap.size + 6, 0, none⟩) 1 1, .slice (some ⟨w.heap.size + 7, 0, none⟩) 2 2, .slice (some ⟨w.heap.size + 8, 0, none⟩) 2 2, .slice (some ⟨w.heap.size + 9, 0, none⟩) 2 2, .slice (some ⟨w.heap.size + 10, 0, none⟩) 1 1] 26); rw [← e] at h; exact h
  replace f9 := by have h := f9.al (.cells #[.slice (some ⟨w.heap.size, 0, none⟩) 1 1, .slice none 0 0, .slice (some ⟨w.heap.size + 1, 0, none⟩) 2 2, .slice none 0 0, .slice (some ⟨w.heap.size + 2, 0, none⟩) 1 1, .slice none 0 0, .slice (some ⟨w.heap.size + 3, 0, none⟩) 2 2, .slice (some ⟨w.heap.size + 4, 0, none⟩) 1 1, .slice (some ⟨w.heap.size + 5, 0, none⟩) 2 2, .slice (some ⟨w.heap.size + 6, 0, none⟩) 1 1, .slice (some ⟨w.heap.size + 7, 0, none⟩) 2 2, .slice (some ⟨w.heap.size + 8, 0, none⟩) 2 2, .slice (some ⟨w.heap.size + 9, 0, none⟩) 2 2, .slice (some ⟨w.heap.size + 10, 0, none⟩) 1 1] 26); rw [← e] at h; exact h
  replace f10 := by have h := f10.al (.cells #[.slice (some ⟨w.heap.size, 0, none⟩) 1 1, .slice none 0 0, .slice (some ⟨w.heap.size + 1, 0, none⟩) 2 2, .slice none 0 0, .slice (some ⟨w.heap.size + 2, 0, none⟩) 1 1, .slice none 0 0, .slice (some ⟨w.heap.size + 3, 0, none⟩) 2 2, .slice (some ⟨w.heap.size + 4, 0, none⟩) 1 1, .slice (some ⟨w.heap.size + 5, 0, none⟩) 2 2, .slice (some ⟨w.heap.size + 6, 0, none⟩) 1 1, .slice (some ⟨w.heap.size + 7, 0, none⟩) 2 2, .slice (some ⟨w.heap.size + 8, 0, none⟩) 2 2, .slice (some ⟨w.heap.size + 9, 0, none⟩) 2 2, .slice (some ⟨w.heap.size + 10, 0, none⟩) 1 1] 26); rw [← e] at h; exact h
  have hc : ∀ (j : Nat) (v : Value), (#[.slice (some ⟨w.heap.size, 0, none⟩) 1 1, .slice none 0 0, .slice (some ⟨w.heap.size + 1, 0, none⟩) 2 2, .slice none 0 0, .slice (some ⟨w.heap.size + 2, 0, none⟩) 1 1, .slice none 0 0, .slice (some ⟨w.heap.size + 3, 0, none⟩) 2 2, .slice (some ⟨w.heap.size + 4, 0, none⟩) 1 1, .slice (some ⟨w.heap.size + 5, 0, none⟩) 2 2, .slice (some ⟨w.heap.size + 6, 0, none⟩) 1 1, .slice (some ⟨w.heap.size + 7, 0, none⟩) 2 2, .slice (some ⟨w.heap.size + 8, 0, none⟩) 2 2, .slice (some ⟨w.heap.size + 9, 0, none⟩) 2 2, .slice (some ⟨w.heap.size + 10, 0, none⟩) 1 1] : Array Value)[j]? = some v → W.cell? ⟨w.heap.size + 11, j, none⟩ = some v := fun j v hv => by
    rw [← z11]
    exact cell_new e rfl hv
  intro k hk
  obtain rfl | rfl | rfl | rfl | rfl | rfl | rfl : k = 0 ∨ k = 1 ∨ k = 2 ∨ k = 3 ∨ k = 4 ∨ k = 5 ∨ k = 6 := by omega
  · exact ⟨(some ⟨w.heap.size, 0, none⟩), none, 1, 0, ⟨[1], []⟩, hc 0 _ rfl, hc 1 _ rfl, f0, SlPr.nil, by decide +kernel, by decide⟩
  · exact ⟨(some ⟨w.heap.size + 1, 0, none⟩), none, 2, 0, ⟨[0, 0], []⟩, hc 2 _ rfl, hc 3 _ rfl, f1, SlPr.nil, by decide +kernel, by decide⟩
  · exact ⟨(some ⟨w.heap.size + 2, 0, none⟩), none, 1, 0, ⟨[-1], []⟩, hc 4 _ rfl, hc 5 _ rfl, f2, SlPr.nil, by decide +kernel, by decide⟩
  · exact ⟨(some ⟨w.heap.size + 3, 0, none⟩), (some ⟨w.heap.size + 4, 0, none⟩), 2, 1, ⟨[0, 1], [(0, 1)]⟩, hc 6 _ rfl, hc 7 _ rfl, f3, f4, by decide +kernel, by decide⟩
  · exact ⟨(some ⟨w.heap.size + 5, 0, none⟩), (some ⟨w.heap.size + 6, 0, none⟩), 2, 1, ⟨[1, 0], [(1, 0)]⟩, hc 8 _ rfl, hc 9 _ rfl, f5, f6, by decide +kernel, by decide⟩
  · exact ⟨(some ⟨w.heap.size + 7, 0, none⟩), (some ⟨w.heap.size + 8, 0, none⟩), 2, 2, ⟨[1, 0], [(0, 1), (0, 1)]⟩, hc 10 _ rfl, hc 11 _ rfl, f7, f8, by decide +kernel, by decide⟩
  · exact ⟨(some ⟨w.heap.size + 9, 0, none⟩), (some ⟨w.heap.size + 10, 0, none⟩), 2, 1, ⟨[1, 0], [(0, 2)]⟩, hc 12 _ rfl, hc 13 _ rfl, f9, f10, by decide +kernel, by decide⟩
end Go.Proofs.Ytodjkifcbgmckaa
namespace Go.Proofs.Ytodjkifcbgmckaa
open Go.RowKit Go.Shelf Go.Sort
set_option maxRecDepth 100000

/-- What HandNames keeps: the swap in its box. -/
structure Nm (w : World) (W : World) : Prop where
  lo : Below w.heap.size w W
  br : BrBx (w.heap.size + 1) (some ⟨w.heap.size, 0, none⟩) none 2 0 [1, 0] [] W
theorem Nm.to {w W W' : World} (h : Nm w W) (hb : Below W.heap.size W W') : Nm w W' := ⟨h.lo.trans (hb.mono h.lo.size), h.br.to hb⟩
def BelowW (w W : World) : Prop := Below w.heap.size w W
theorem BelowW.to {w W W' : World} (h : BelowW w W) (hb : Below W.heap.size W W') : BelowW w W' := Below.trans h (hb.mono (Below.size h))
theorem lit_at {W : World} {B a b : Nat} {l : List Int} (e : a = b) (h : SlI W B (some ⟨a, 0, none⟩) l) : SlI W B (some ⟨b, 0, none⟩) l := by rw [← e]; exact h
theorem mlit_at {W : World} {B a b : Nat} {l : List Mv} (e : a = b) (h : SlMv W B (some ⟨a, 0, none⟩) l) : SlMv W B (some ⟨b, 0, none⟩) l := by rw [← e]; exact h
set_option maxHeartbeats 64000000 in
theorem names_walk (w : World) : Calls Try.prog 10 #[] w fun e w' => e = .returned (.bool true) ∧ Below w.heap.size w w' := by
  have hba := (Below.refl w.heap.size w).alloc (Nat.le_refl _) (.cells #[.int .i64 1, .int .i64 0] 3)
  have HX : Hid (Nm w ((w.alloc (.cells #[.int .i64 1, .int .i64 0] 3)).alloc (.cells #[.slice (some ⟨w.heap.size, 0, none⟩) 2 2, .slice none 0 0] 26))) := by
    refine ⟨hba.alloc (by simp) _, ?_⟩
    have h := BrBx.new (c := 2) (fc := 0) (sl_lit (W := w) [1, 0] rfl rfl) (SlPr.nil (A := none) (w := w.alloc (.cells #[.int .i64 1, .int .i64 0] 3)) (B := (w.alloc (.cells #[.int .i64 1, .int .i64 0] 3)).heap.size))
    rw [World.size_alloc] at h
    exact h
  clear hba
  go_enter Try.func10, Try.ntmps10
  go_upto_region 2 with fail
  refine abs_world (Q := fun W => Code.wp _ _ _ _ W) (F := fun W => Nm w W) _ HX.out ?_
  clear HX
  try simp only [World.size_alloc]
  rintro W2 hA2
  have HA2 := Lib.hid hA2
  clear hA2
  go_upto_region 3 with fail
  try simp only [Nat.add_assoc, Nat.reduceAdd]
  have hbad := bads_lie W2 _ rfl
  have HX : Hid (Nm w _ ∧ ∀ k, k < 7 → BadAt _ (W2.heap.size + 11) k) := ⟨HA2.out.to hbad.1, hbad.2⟩
  clear hbad
  refine abs_world (Q := fun W => Code.wp _ _ _ _ W) (F := fun W => Nm w W ∧ ∀ k, k < 7 → BadAt W (W2.heap.size + 11) k) _ HX.out ?_
  clear HX HA2
  obtain ⟨p, hp⟩ : ∃ p, p = W2.heap.size + 11 := ⟨_, rfl⟩
  try simp only [World.size_alloc, Nat.add_assoc, Nat.reduceAdd]
  rw [← hp]
  clear hp
  rintro W3 hA3
  have HA3 := Lib.hid hA3
  clear hA3
  go_wp2
  go_loopw [3] (fun s3 wr => ∃ k : Nat, k ≤ 7 ∧ s3 = .int .i64 (k : Int) ∧ Hid (Nm w wr ∧ ∀ k, k < 7 → BadAt wr p k)) (fun s3 _ => 7 - (intOf s3).toNat)
  case atStart => exact ⟨0, by omega, rfl, HA3.out⟩
  case round =>
    obtain ⟨k, hk, rfl, HW⟩ := hrel
    by_cases hlt : k < 7
    case pos =>
      obtain ⟨A, F, c, fc, b, h0, h1, h2, h3, h4, h5⟩ := HW.out.2 k hlt
      have h0' : wr.cell? ⟨p, 0 + k * 2, none⟩ = some (.slice A b.to_.length c) := by rw [Nat.zero_add]; exact h0
      have h1' : wr.cell? ⟨p, 0 + k * 2 + 1, none⟩ = some (.slice F b.fronts.length fc) := by rw [Nat.zero_add]; exact h1
      have HCk := Lib.hid (hcheck_any A F c fc b (Nat.le_trans h5 (by decide)) wr h2 h3)
      rw [h4] at HCk
      clear h2 h3 h4 h5
      have hd : decide ((k : Int) < 7) = true := decide_eq_true (by omega)
      go_wp2_with ((go_at_call 19; refine HCk.out.mono ?_; rintro e w5 ⟨rfl, hb5⟩))
      go_roundw
      case rel => exact ⟨k + 1, by omega, by first | rfl | go_num, HW.out.1.to hb5, fun j hj => (HW.out.2 j hj).to hb5⟩
      case measure => simp [intOf]; omega
    case neg =>
      obtain rfl : k = 7 := by omega
      have HA4 := Lib.hid HW.out.1
      clear hk HW hlt HA3
      obtain ⟨w9, hm, hrow, hb9⟩ := mk_ints wr 9 (by omega)
      have hmr : (Instr.makeSlice 22 (.int .i64 9) (.int .i64 9)).run Try.prog wr = .ok (.slice (some ⟨wr.heap.size, 0, none⟩) 9 9) w9 := hm
      have HC : Hid (Calls Try.prog 19 #[.agg #[.slice (some ⟨wr.heap.size, 0, none⟩) 9 9, .slice none 0 0]] w9 fun e w' => e = .returned (.int .i64 4) ∧ Below w9.heap.size w9 w') := by
        have h := hcheck_any (some ⟨wr.heap.size, 0, none⟩) none 9 0 zeroB (by show ([] : List (Int × Int)).length ≤ 4611686018427387904; decide) w9 (rowN_sl hrow rfl) SlPr.nil
        rw [nm_many] at h
        exact h
      clear hm hrow
      go_upto_region 9 with ((go_at_call 19; refine HC.out.mono ?_; rintro e w8 ⟨rfl, hb⟩))
      have HX := Lib.hid (HA4.out.to (hb9.trans (hb.mono hb9.size)))
      refine abs_world (Q := fun W => Code.wp _ _ _ _ W) (F := fun W => Nm w W) _ HX.out ?_
      clear HX hb hb9 HC HA4 hmr
      rintro W9 hA
      have HA9 := Lib.hid hA
      clear hA
      have hbn : Below W9.heap.size W9 W9 := Below.refl _ _
      have HC : Hid (Calls Try.prog 15 #[.agg #[.int .u8 1, .bool false, .int .i64 0, .int .i64 0]] W9 fun e w' => ∃ A0 F0 c0 fc0, e = .returned (.tuple #[.agg #[.slice A0 0 c0, .slice F0 0 fc0], .int .i64 2]) ∧ Below W9.heap.size W9 w') := by
        have hA := HA9.out.to hbn
        have h := hof_any ⟨1, false, 0, 0⟩ (by unfold Stc.wf; decide) W9
        rw [nm_of1] at h
        refine h.mono ?_
        intro e w' ho
        obtain ⟨A0, F0, c0, fc0, h1, h2⟩ := brd_empty ho
        exact ⟨A0, F0, c0, fc0, h1, hbn.trans (h2.mono hbn.size)⟩
      clear hbn
      go_upto_region 10 with ((go_at_call 15; refine HC.out.mono ?_; rintro e w10 ⟨A0, F0, c0, fc0, rfl, hb⟩))
      have hal : Below w10.heap.size w10 (w10.alloc (.cells #[.slice A0 0 c0, .slice F0 0 fc0] 26)) := (Below.refl _ _).alloc (Nat.le_refl _) _
      have HX := Lib.hid ((HA9.out.to hb).to hal)
      clear hal
      refine abs_world (Q := fun W => Code.wp _ _ _ _ W) (F := fun W => Nm w W) _ HX.out ?_
      clear HX hb HC HA9
      rintro W10 hA
      have HA10 := Lib.hid hA
      clear hA
      have hbn : Below W10.heap.size W10 W10 := Below.refl _ _
      have HC : Hid (Calls Try.prog 15 #[.agg #[.int .u8 6, .bool false, .int .i64 4, .int .i64 5]] W10 fun e w' => ∃ A0 F0 c0 fc0, e = .returned (.tuple #[.agg #[.slice A0 0 c0, .slice F0 0 fc0], .int .i64 4]) ∧ Below W10.heap.size W10 w') := by
        have hA := HA10.out.to hbn
        have h := hof_any ⟨6, false, 4, 5⟩ (by unfold Stc.wf; decide) W10
        rw [nm_of2] at h
        refine h.mono ?_
        intro e w' ho
        obtain ⟨A0, F0, c0, fc0, h1, h2⟩ := brd_empty ho
        exact ⟨A0, F0, c0, fc0, h1, hbn.trans (h2.mono hbn.size)⟩
      clear hbn
      go_upto_region 11 with ((go_at_call 15; refine HC.out.mono ?_; rintro e w11 ⟨A0, F0, c0, fc0, rfl, hb⟩))
      have hal : Below w11.heap.size w11 (w11.alloc (.cells #[.slice A0 0 c0, .slice F0 0 fc0] 26)) := (Below.refl _ _).alloc (Nat.le_refl _) _
      have HX := Lib.hid ((HA10.out.to hb).to hal)
      clear hal
      refine abs_world (Q := fun W => Code.wp _ _ _ _ W) (F := fun W => Nm w W) _ HX.out ?_
      clear HX hb HC HA10
      rintro W11 hA
      have HA11 := Lib.hid hA
      clear hA
      have hbn : Below W11.heap.size W11 W11 := Below.refl _ _
      have HC : Hid (Calls Try.prog 15 #[.agg #[.int .u8 0, .bool false, .int .i64 0, .int .i64 0]] W11 fun e w' => ∃ A0 F0 c0 fc0, e = .returned (.tuple #[.agg #[.slice A0 0 c0, .slice F0 0 fc0], .int .i64 8]) ∧ Below W11.heap.size W11 w') := by
        have hA := HA11.out.to hbn
        have h := hof_any ⟨0, false, 0, 0⟩ (by unfold Stc.wf; decide) W11
        rw [nm_of3] at h
        refine h.mono ?_
        intro e w' ho
        obtain ⟨A0, F0, c0, fc0, h1, h2⟩ := brd_empty ho
        exact ⟨A0, F0, c0, fc0, h1, hbn.trans (h2.mono hbn.size)⟩
      clear hbn
      go_upto_region 12 with ((go_at_call 15; refine HC.out.mono ?_; rintro e w12 ⟨A0, F0, c0, fc0, rfl, hb⟩))
      have hal : Below w12.heap.size w12 (w12.alloc (.cells #[.slice A0 0 c0, .slice F0 0 fc0] 26)) := (Below.refl _ _).alloc (Nat.le_refl _) _
      have HX := Lib.hid ((HA11.out.to hb).to hal)
      clear hal
      refine abs_world (Q := fun W => Code.wp _ _ _ _ W) (F := fun W => Nm w W) _ HX.out ?_
      clear HX hb HC HA11
      rintro W12 hA
      have HA12 := Lib.hid hA
      clear hA
      have hbn : Below W12.heap.size W12 (W12.alloc (.cells #[.int .i64 1, .int .i64 1] 3)) := (Below.refl _ _).alloc (Nat.le_refl _) _
      have g0 : W12.cell? ⟨w.heap.size + 1, 0, none⟩ = some (.slice (some ⟨w.heap.size, 0, none⟩) 2 2) := HA12.out.br.c0
      have g1 : W12.cell? ⟨w.heap.size + 1, 1, none⟩ = some (.slice none 0 0) := HA12.out.br.c1
      have HC : Hid (Calls Try.prog 21 #[.agg #[.slice (some ⟨w.heap.size, 0, none⟩) 2 2, .slice none 0 0], .slice (some ⟨W12.heap.size, 0, none⟩) 2 2] (W12.alloc (.cells #[.int .i64 1, .int .i64 1] 3)) fun e w' => ∃ A0 c0, e = .returned (.tuple #[.slice A0 0 c0, .int .i64 2]) ∧ Below W12.heap.size W12 w') := by
        have hA := HA12.out.to hbn
        have h := hplan_any (some ⟨w.heap.size, 0, none⟩) none 2 0 swapB (by show ([] : List (Int × Int)).length ≤ 4611686018427387904; decide) (some ⟨W12.heap.size, 0, none⟩) 2 [1, 1] (by decide) (W12.alloc (.cells #[.int .i64 1, .int .i64 1] 3)) hA.br.tz hA.br.fr (sl_lit [1, 1] rfl rfl)
        rw [nm_p1] at h
        refine h.mono ?_
        intro e w' ho
        obtain ⟨A0, c0, h1, -, h2⟩ := ho
        exact ⟨A0, c0, h1, hbn.trans (h2.mono hbn.size)⟩
      clear hbn
      go_upto_region 13 with ((go_at_call 21; refine HC.out.mono ?_; rintro e w13 ⟨A0, c0, rfl, hb⟩))
      have HX := Lib.hid (HA12.out.to hb)
      refine abs_world (Q := fun W => Code.wp _ _ _ _ W) (F := fun W => Nm w W) _ HX.out ?_
      clear HX hb HC HA12 g0 g1
      rintro W13 hA
      have HA13 := Lib.hid hA
      clear hA
      have hbn : Below W13.heap.size W13 (W13.alloc (.cells #[.int .i64 0] 3)) := (Below.refl _ _).alloc (Nat.le_refl _) _
      have g0 : W13.cell? ⟨w.heap.size + 1, 0, none⟩ = some (.slice (some ⟨w.heap.size, 0, none⟩) 2 2) := HA13.out.br.c0
      have g1 : W13.cell? ⟨w.heap.size + 1, 1, none⟩ = some (.slice none 0 0) := HA13.out.br.c1
      have HC : Hid (Calls Try.prog 21 #[.agg #[.slice (some ⟨w.heap.size, 0, none⟩) 2 2, .slice none 0 0], .slice (some ⟨W13.heap.size, 0, none⟩) 1 1] (W13.alloc (.cells #[.int .i64 0] 3)) fun e w' => ∃ A0 c0, e = .returned (.tuple #[.slice A0 0 c0, .int .i64 2]) ∧ Below W13.heap.size W13 w') := by
        have hA := HA13.out.to hbn
        have h := hplan_any (some ⟨w.heap.size, 0, none⟩) none 2 0 swapB (by show ([] : List (Int × Int)).length ≤ 4611686018427387904; decide) (some ⟨W13.heap.size, 0, none⟩) 1 [0] (by decide) (W13.alloc (.cells #[.int .i64 0] 3)) hA.br.tz hA.br.fr (sl_lit [0] rfl rfl)
        rw [nm_p2] at h
        refine h.mono ?_
        intro e w' ho
        obtain ⟨A0, c0, h1, -, h2⟩ := ho
        exact ⟨A0, c0, h1, hbn.trans (h2.mono hbn.size)⟩
      clear hbn
      go_upto_region 14 with ((go_at_call 21; refine HC.out.mono ?_; rintro e w14 ⟨A0, c0, rfl, hb⟩))
      have HX := Lib.hid (HA13.out.to hb)
      refine abs_world (Q := fun W => Code.wp _ _ _ _ W) (F := fun W => Nm w W) _ HX.out ?_
      clear HX hb HC HA13 g0 g1
      rintro W14 hA
      have HA14 := Lib.hid hA
      clear hA
      have hbn : Below W14.heap.size W14 (W14.alloc (.cells #[.int .i64 5] 3)) := (Below.refl _ _).alloc (Nat.le_refl _) _
      have g0 : W14.cell? ⟨w.heap.size + 1, 0, none⟩ = some (.slice (some ⟨w.heap.size, 0, none⟩) 2 2) := HA14.out.br.c0
      have g1 : W14.cell? ⟨w.heap.size + 1, 1, none⟩ = some (.slice none 0 0) := HA14.out.br.c1
      have HC : Hid (Calls Try.prog 21 #[.agg #[.slice (some ⟨w.heap.size, 0, none⟩) 2 2, .slice none 0 0], .slice (some ⟨W14.heap.size, 0, none⟩) 1 1] (W14.alloc (.cells #[.int .i64 5] 3)) fun e w' => ∃ A0 c0, e = .returned (.tuple #[.slice A0 0 c0, .int .i64 2]) ∧ Below W14.heap.size W14 w') := by
        have hA := HA14.out.to hbn
        have h := hplan_any (some ⟨w.heap.size, 0, none⟩) none 2 0 swapB (by show ([] : List (Int × Int)).length ≤ 4611686018427387904; decide) (some ⟨W14.heap.size, 0, none⟩) 1 [5] (by decide) (W14.alloc (.cells #[.int .i64 5] 3)) hA.br.tz hA.br.fr (sl_lit [5] rfl rfl)
        rw [nm_p3] at h
        refine h.mono ?_
        intro e w' ho
        obtain ⟨A0, c0, h1, -, h2⟩ := ho
        exact ⟨A0, c0, h1, hbn.trans (h2.mono hbn.size)⟩
      clear hbn
      go_upto_region 15 with ((go_at_call 21; refine HC.out.mono ?_; rintro e w15 ⟨A0, c0, rfl, hb⟩))
      have HX := Lib.hid (HA14.out.to hb)
      refine abs_world (Q := fun W => Code.wp _ _ _ _ W) (F := fun W => Nm w W) _ HX.out ?_
      clear HX hb HC HA14 g0 g1
      rintro W15 hA
      have HA15 := Lib.hid hA
      clear hA
      have hbn : Below W15.heap.size W15 ((W15.alloc (.cells #[.int .i64 (-1)] 3)).alloc (.cells #[.int .i64 0] 3)) := ((Below.refl _ _).alloc (Nat.le_refl _) _).alloc (by simp) _
      have g0 : W15.cell? ⟨w.heap.size + 1, 0, none⟩ = some (.slice (some ⟨w.heap.size, 0, none⟩) 2 2) := HA15.out.br.c0
      have g1 : W15.cell? ⟨w.heap.size + 1, 1, none⟩ = some (.slice none 0 0) := HA15.out.br.c1
      have HC : Hid (Calls Try.prog 17 #[.agg #[.slice (some ⟨w.heap.size, 0, none⟩) 2 2, .slice none 0 0], .slice (some ⟨W15.heap.size, 0, none⟩) 1 1, .slice (some ⟨W15.heap.size + 1, 0, none⟩) 1 1] ((W15.alloc (.cells #[.int .i64 (-1)] 3)).alloc (.cells #[.int .i64 0] 3)) fun e w' => e = .returned (.tuple #[.bool false, .int .i64 2]) ∧ Below W15.heap.size W15 w') := by
        have hA := HA15.out.to hbn
        have h := hright_any (some ⟨w.heap.size, 0, none⟩) none 2 0 swapB (by show ([] : List (Int × Int)).length ≤ 4611686018427387904; decide) (some ⟨W15.heap.size, 0, none⟩) 1 [-1] (by decide) (some ⟨W15.heap.size + 1, 0, none⟩) 1 [0] (by decide) (by decide) ((W15.alloc (.cells #[.int .i64 (-1)] 3)).alloc (.cells #[.int .i64 0] 3)) hA.br.tz hA.br.fr ((sl_lit (W := W15) [-1] rfl rfl).al (.cells #[.int .i64 0] 3)) (lit_at (by rw [World.size_alloc]) (sl_lit (W := (W15.alloc (.cells #[.int .i64 (-1)] 3))) [0] rfl rfl))
        rw [nm_r1] at h
        refine h.mono ?_
        intro e w' ho
        obtain ⟨h1, h2⟩ := ho
        exact ⟨h1, hbn.trans (h2.mono hbn.size)⟩
      clear hbn
      go_upto_region 16 with ((go_at_call 17; refine HC.out.mono ?_; rintro e w16 ⟨rfl, hb⟩))
      have HX := Lib.hid (HA15.out.to hb)
      refine abs_world (Q := fun W => Code.wp _ _ _ _ W) (F := fun W => Nm w W) _ HX.out ?_
      clear HX hb HC HA15 g0 g1
      rintro W16 hA
      have HA16 := Lib.hid hA
      clear hA
      have hbn : Below W16.heap.size W16 ((W16.alloc (.cells #[.int .i64 (-1)] 3)).alloc (.cells #[.int .i64 1, .int .i64 (-1)] 3)) := ((Below.refl _ _).alloc (Nat.le_refl _) _).alloc (by simp) _
      have g0 : W16.cell? ⟨w.heap.size + 1, 0, none⟩ = some (.slice (some ⟨w.heap.size, 0, none⟩) 2 2) := HA16.out.br.c0
      have g1 : W16.cell? ⟨w.heap.size + 1, 1, none⟩ = some (.slice none 0 0) := HA16.out.br.c1
      have HC : Hid (Calls Try.prog 17 #[.agg #[.slice (some ⟨w.heap.size, 0, none⟩) 2 2, .slice none 0 0], .slice (some ⟨W16.heap.size, 0, none⟩) 1 1, .slice (some ⟨W16.heap.size + 1, 0, none⟩) 2 2] ((W16.alloc (.cells #[.int .i64 (-1)] 3)).alloc (.cells #[.int .i64 1, .int .i64 (-1)] 3)) fun e w' => e = .returned (.tuple #[.bool false, .int .i64 2]) ∧ Below W16.heap.size W16 w') := by
        have hA := HA16.out.to hbn
        have h := hright_any (some ⟨w.heap.size, 0, none⟩) none 2 0 swapB (by show ([] : List (Int × Int)).length ≤ 4611686018427387904; decide) (some ⟨W16.heap.size, 0, none⟩) 1 [-1] (by decide) (some ⟨W16.heap.size + 1, 0, none⟩) 2 [1, -1] (by decide) (by decide) ((W16.alloc (.cells #[.int .i64 (-1)] 3)).alloc (.cells #[.int .i64 1, .int .i64 (-1)] 3)) hA.br.tz hA.br.fr ((sl_lit (W := W16) [-1] rfl rfl).al (.cells #[.int .i64 1, .int .i64 (-1)] 3)) (lit_at (by rw [World.size_alloc]) (sl_lit (W := (W16.alloc (.cells #[.int .i64 (-1)] 3))) [1, -1] rfl rfl))
        rw [nm_r2] at h
        refine h.mono ?_
        intro e w' ho
        obtain ⟨h1, h2⟩ := ho
        exact ⟨h1, hbn.trans (h2.mono hbn.size)⟩
      clear hbn
      go_upto_region 17 with ((go_at_call 17; refine HC.out.mono ?_; rintro e w17 ⟨rfl, hb⟩))
      have HX := Lib.hid (HA16.out.to hb)
      refine abs_world (Q := fun W => Code.wp _ _ _ _ W) (F := fun W => Nm w W) _ HX.out ?_
      clear HX hb HC HA16 g0 g1
      rintro W17 hA
      have HA17 := Lib.hid hA
      clear hA
      have hbn : Below W17.heap.size W17 ((W17.alloc (.cells #[.int .i64 (-1)] 3)).alloc (.cells #[.int .i64 (-1), .int .i64 (-1)] 3)) := ((Below.refl _ _).alloc (Nat.le_refl _) _).alloc (by simp) _
      have g0 : W17.cell? ⟨w.heap.size + 1, 0, none⟩ = some (.slice (some ⟨w.heap.size, 0, none⟩) 2 2) := HA17.out.br.c0
      have g1 : W17.cell? ⟨w.heap.size + 1, 1, none⟩ = some (.slice none 0 0) := HA17.out.br.c1
      have HC : Hid (Calls Try.prog 17 #[.agg #[.slice (some ⟨w.heap.size, 0, none⟩) 2 2, .slice none 0 0], .slice (some ⟨W17.heap.size, 0, none⟩) 1 1, .slice (some ⟨W17.heap.size + 1, 0, none⟩) 2 2] ((W17.alloc (.cells #[.int .i64 (-1)] 3)).alloc (.cells #[.int .i64 (-1), .int .i64 (-1)] 3)) fun e w' => e = .returned (.tuple #[.bool false, .int .i64 0]) ∧ Below W17.heap.size W17 w') := by
        have hA := HA17.out.to hbn
        have h := hright_any (some ⟨w.heap.size, 0, none⟩) none 2 0 swapB (by show ([] : List (Int × Int)).length ≤ 4611686018427387904; decide) (some ⟨W17.heap.size, 0, none⟩) 1 [-1] (by decide) (some ⟨W17.heap.size + 1, 0, none⟩) 2 [-1, -1] (by decide) (by decide) ((W17.alloc (.cells #[.int .i64 (-1)] 3)).alloc (.cells #[.int .i64 (-1), .int .i64 (-1)] 3)) hA.br.tz hA.br.fr ((sl_lit (W := W17) [-1] rfl rfl).al (.cells #[.int .i64 (-1), .int .i64 (-1)] 3)) (lit_at (by rw [World.size_alloc]) (sl_lit (W := (W17.alloc (.cells #[.int .i64 (-1)] 3))) [-1, -1] rfl rfl))
        rw [nm_r3] at h
        refine h.mono ?_
        intro e w' ho
        obtain ⟨h1, h2⟩ := ho
        exact ⟨h1, hbn.trans (h2.mono hbn.size)⟩
      clear hbn
      go_upto_region 18 with ((go_at_call 17; refine HC.out.mono ?_; rintro e w18 ⟨rfl, hb⟩))
      have HX := Lib.hid (HA17.out.to hb)
      refine abs_world (Q := fun W => Code.wp _ _ _ _ W) (F := fun W => Nm w W) _ HX.out ?_
      clear HX hb HC HA17 g0 g1
      rintro W18 hA
      have HA18 := Lib.hid hA
      clear hA
      have hbn : Below W18.heap.size W18 ((W18.alloc (.cells #[.int .i64 (-1)] 3)).alloc (.cells #[.int .i64 (-1), .int .i64 (-1)] 3)) := ((Below.refl _ _).alloc (Nat.le_refl _) _).alloc (by simp) _
      have g0 : W18.cell? ⟨w.heap.size + 1, 0, none⟩ = some (.slice (some ⟨w.heap.size, 0, none⟩) 2 2) := HA18.out.br.c0
      have g1 : W18.cell? ⟨w.heap.size + 1, 1, none⟩ = some (.slice none 0 0) := HA18.out.br.c1
      have HC : Hid (Calls Try.prog 25 #[.agg #[.slice (some ⟨w.heap.size, 0, none⟩) 2 2, .slice none 0 0], .slice (some ⟨W18.heap.size, 0, none⟩) 1 1, .slice (some ⟨W18.heap.size + 1, 0, none⟩) 2 2] ((W18.alloc (.cells #[.int .i64 (-1)] 3)).alloc (.cells #[.int .i64 (-1), .int .i64 (-1)] 3)) fun e w' => ∃ A0 c0, e = .returned (.tuple #[.slice A0 0 c0, .int .i64 36]) ∧ Below W18.heap.size W18 w') := by
        have hA := HA18.out.to hbn
        have h := hwork_any (some ⟨w.heap.size, 0, none⟩) none 2 0 swapB (by show ([] : List (Int × Int)).length ≤ 4611686018427387904; decide) (some ⟨W18.heap.size, 0, none⟩) 1 [-1] (by decide) (some ⟨W18.heap.size + 1, 0, none⟩) 2 [-1, -1] (by decide) (by decide) ((W18.alloc (.cells #[.int .i64 (-1)] 3)).alloc (.cells #[.int .i64 (-1), .int .i64 (-1)] 3)) hA.br.tz hA.br.fr ((sl_lit (W := W18) [-1] rfl rfl).al (.cells #[.int .i64 (-1), .int .i64 (-1)] 3)) (lit_at (by rw [World.size_alloc]) (sl_lit (W := (W18.alloc (.cells #[.int .i64 (-1)] 3))) [-1, -1] rfl rfl))
        rw [nm_w] at h
        refine h.mono ?_
        intro e w' ho
        obtain ⟨A0, c0, h1, -, h2⟩ := ho
        exact ⟨A0, c0, h1, hbn.trans (h2.mono hbn.size)⟩
      clear hbn
      go_upto_region 19 with ((go_at_call 25; refine HC.out.mono ?_; rintro e w19 ⟨A0, c0, rfl, hb⟩))
      have HX := Lib.hid (HA18.out.to hb)
      refine abs_world (Q := fun W => Code.wp _ _ _ _ W) (F := fun W => Nm w W) _ HX.out ?_
      clear HX hb HC HA18 g0 g1
      rintro W19 hA
      have HA19 := Lib.hid hA
      clear hA
      have hbn : Below W19.heap.size W19 W19 := Below.refl _ _
      have g0 : W19.cell? ⟨w.heap.size + 1, 0, none⟩ = some (.slice (some ⟨w.heap.size, 0, none⟩) 2 2) := HA19.out.br.c0
      have g1 : W19.cell? ⟨w.heap.size + 1, 1, none⟩ = some (.slice none 0 0) := HA19.out.br.c1
      have HC : Hid (Calls Try.prog 23 #[.agg #[.slice (some ⟨w.heap.size, 0, none⟩) 2 2, .slice none 0 0]] W19 fun e w' => e = .returned (.tuple #[.int .i64 0, .int .i64 1, .int .i64 0]) ∧ Below W19.heap.size W19 w') := by
        have hA := HA19.out.to hbn
        have h := hfewest_any (some ⟨w.heap.size, 0, none⟩) none 2 0 swapB (by show ([] : List (Int × Int)).length ≤ 4611686018427387904; decide) W19 hA.br.tz hA.br.fr
        rw [nm_f1] at h
        refine h.mono ?_
        intro e w' ho
        obtain ⟨h1, h2⟩ := ho
        exact ⟨h1, hbn.trans (h2.mono hbn.size)⟩
      clear hbn
      go_upto_region 20 with ((go_at_call 23; refine HC.out.mono ?_; rintro e w20 ⟨rfl, hb⟩))
      have HX := Lib.hid (HA19.out.to hb)
      refine abs_world (Q := fun W => Code.wp _ _ _ _ W) (F := fun W => Nm w W) _ HX.out ?_
      clear HX hb HC HA19 g0 g1
      rintro W20 hA
      have HA20 := Lib.hid hA
      clear hA
      have HX : Hid (Below w.heap.size w ((W20.alloc (.cells #[.int .i64 7, .int .i64 6, .int .i64 5, .int .i64 4, .int .i64 3, .int .i64 2, .int .i64 1, .int .i64 0] 3)).alloc (.cells #[.slice (some ⟨W20.heap.size, 0, none⟩) 8 8, .slice none 0 0] 26)) ∧ BrBx (W20.heap.size + 1) (some ⟨W20.heap.size, 0, none⟩) none 8 0 [7, 6, 5, 4, 3, 2, 1, 0] [] ((W20.alloc (.cells #[.int .i64 7, .int .i64 6, .int .i64 5, .int .i64 4, .int .i64 3, .int .i64 2, .int .i64 1, .int .i64 0] 3)).alloc (.cells #[.slice (some ⟨W20.heap.size, 0, none⟩) 8 8, .slice none 0 0] 26))) := by
        have hbn : Below W20.heap.size W20 ((W20.alloc (.cells #[.int .i64 7, .int .i64 6, .int .i64 5, .int .i64 4, .int .i64 3, .int .i64 2, .int .i64 1, .int .i64 0] 3)).alloc (.cells #[.slice (some ⟨W20.heap.size, 0, none⟩) 8 8, .slice none 0 0] 26)) := ((Below.refl _ _).alloc (Nat.le_refl _) _).alloc (by simp) _
        refine ⟨(HA20.out.to hbn).lo, ?_⟩
        have h := BrBx.new (c := 8) (fc := 0) (sl_lit (W := W20) [7, 6, 5, 4, 3, 2, 1, 0] rfl rfl) (SlPr.nil (A := none) (w := W20.alloc (.cells #[.int .i64 7, .int .i64 6, .int .i64 5, .int .i64 4, .int .i64 3, .int .i64 2, .int .i64 1, .int .i64 0] 3)) (B := (W20.alloc (.cells #[.int .i64 7, .int .i64 6, .int .i64 5, .int .i64 4, .int .i64 3, .int .i64 2, .int .i64 1, .int .i64 0] 3)).heap.size))
        rw [World.size_alloc] at h
        exact h
      go_upto_region 21 with fail
      refine abs_world (Q := fun W => Code.wp _ _ _ _ W) (F := fun W => Below w.heap.size w W ∧ BrBx (W20.heap.size + 1) (some ⟨W20.heap.size, 0, none⟩) none 8 0 [7, 6, 5, 4, 3, 2, 1, 0] [] W) _ HX.out ?_
      clear HX HA20
      obtain ⟨pt, hpt⟩ : ∃ pt, pt = W20.heap.size := ⟨_, rfl⟩
      try simp only [World.size_alloc]
      rw [← hpt]
      clear hpt
      rintro W21 hA
      have g0 : W21.cell? ⟨pt + 1, 0, none⟩ = some (.slice (some ⟨pt, 0, none⟩) 8 8) := hA.2.c0
      have g1 : W21.cell? ⟨pt + 1, 1, none⟩ = some (.slice none 0 0) := hA.2.c1
      have HC : Hid (Calls Try.prog 23 #[.agg #[.slice (some ⟨pt, 0, none⟩) 8 8, .slice none 0 0]] W21 fun e w' => e = .returned (.tuple #[.int .i64 0, .int .i64 0, .int .i64 6]) ∧ Below W21.heap.size W21 w') := by
        have h := hfewest_any (some ⟨pt, 0, none⟩) none 8 0 turnB (by show ([] : List (Int × Int)).length ≤ 4611686018427387904; decide) W21 hA.2.tz hA.2.fr
        rw [nm_f2] at h
        exact h
      have HA21 := Lib.hid hA.1
      clear hA
      go_upto_region 22 with ((go_at_call 23; refine HC.out.mono ?_; rintro e w21 ⟨rfl, hb⟩))
      have HX := Lib.hid (HA21.out.trans (hb.mono HA21.out.size))
      refine abs_world (Q := fun W => Code.wp _ _ _ _ W) (F := fun W => Below w.heap.size w W) _ HX.out ?_
      clear HX hb HC HA21 g0 g1
      rintro W22 hA
      have HB : Hid (BelowW w W22) := hA
      clear hA
      have hbn : Below W22.heap.size W22 W22 := Below.refl _ _
      have HC : Hid (Calls Try.prog 11 #[.int .i64 1, .slice none 0 0, .slice none 0 0] W22 fun e w' => ∃ A0 F0 c0 fc0, e = .returned (.tuple #[.agg #[.slice A0 0 c0, .slice F0 0 fc0], .int .i64 36]) ∧ Below W22.heap.size W22 w') := by
        have hA := HB.out.to hbn
        have h := hrep_any 1 none 0 [] (by decide) none 0 [] (by decide) W22 SlI.nil SlS.nil
        rw [nm_e1] at h
        refine h.mono ?_
        intro e w' ho
        obtain ⟨A0, F0, c0, fc0, h1, h2⟩ := brd_empty ho
        exact ⟨A0, F0, c0, fc0, h1, hbn.trans (h2.mono hbn.size)⟩
      clear hbn
      go_upto_region 23 with ((go_at_call 11; refine HC.out.mono ?_; rintro e w23 ⟨A0, F0, c0, fc0, rfl, hb⟩))
      have hal : Below w23.heap.size w23 (w23.alloc (.cells #[.slice A0 0 c0, .slice F0 0 fc0] 26)) := (Below.refl _ _).alloc (Nat.le_refl _) _
      have HX := Lib.hid ((HB.out.to hb).to hal)
      clear hal
      refine abs_world (Q := fun W => Code.wp _ _ _ _ W) (F := fun W => BelowW w W) _ HX.out ?_
      clear HX hb HC HB
      rintro W23 hA
      have HA23 := Lib.hid hA
      clear hA
      have hbn : Below W23.heap.size W23 (W23.alloc (.cells #[.bool false, .int .i64 0] 69)) := (Below.refl _ _).alloc (Nat.le_refl _) _
      have HC : Hid (Calls Try.prog 11 #[.int .i64 1, .slice none 0 0, .slice (some ⟨W23.heap.size, 0, none⟩) 1 1] (W23.alloc (.cells #[.bool false, .int .i64 0] 69)) fun e w' => ∃ A0 F0 c0 fc0, e = .returned (.tuple #[.agg #[.slice A0 0 c0, .slice F0 0 fc0], .int .i64 8]) ∧ Below W23.heap.size W23 w') := by
        have hA := HA23.out.to hbn
        have h := hrep_any 1 none 0 [] (by decide) (some ⟨W23.heap.size, 0, none⟩) 1 [⟨false, 0⟩] (by decide) (W23.alloc (.cells #[.bool false, .int .i64 0] 69)) SlI.nil (mv_lit [⟨false, 0⟩] rfl rfl)
        rw [nm_e2] at h
        refine h.mono ?_
        intro e w' ho
        obtain ⟨A0, F0, c0, fc0, h1, h2⟩ := brd_empty ho
        exact ⟨A0, F0, c0, fc0, h1, hbn.trans (h2.mono hbn.size)⟩
      clear hbn
      go_upto_region 24 with ((go_at_call 11; refine HC.out.mono ?_; rintro e w24 ⟨A0, F0, c0, fc0, rfl, hb⟩))
      have hal : Below w24.heap.size w24 (w24.alloc (.cells #[.slice A0 0 c0, .slice F0 0 fc0] 26)) := (Below.refl _ _).alloc (Nat.le_refl _) _
      have HX := Lib.hid ((HA23.out.to hb).to hal)
      clear hal
      refine abs_world (Q := fun W => Code.wp _ _ _ _ W) (F := fun W => BelowW w W) _ HX.out ?_
      clear HX hb HC HA23
      rintro W24 hA
      have HA24 := Lib.hid hA
      clear hA
      have hbn : Below W24.heap.size W24 ((W24.alloc (.cells #[.int .i64 1] 3)).alloc (.cells #[.bool false, .int .i64 0] 69)) := ((Below.refl _ _).alloc (Nat.le_refl _) _).alloc (by simp) _
      have HC : Hid (Calls Try.prog 11 #[.int .i64 1, .slice (some ⟨W24.heap.size, 0, none⟩) 1 1, .slice (some ⟨W24.heap.size + 1, 0, none⟩) 1 1] ((W24.alloc (.cells #[.int .i64 1] 3)).alloc (.cells #[.bool false, .int .i64 0] 69)) fun e w' => ∃ A0 F0 c0 fc0, e = .returned (.tuple #[.agg #[.slice A0 0 c0, .slice F0 0 fc0], .int .i64 36]) ∧ Below W24.heap.size W24 w') := by
        have hA := HA24.out.to hbn
        have h := hrep_any 1 (some ⟨W24.heap.size, 0, none⟩) 1 [1] (by decide) (some ⟨W24.heap.size + 1, 0, none⟩) 1 [⟨false, 0⟩] (by decide) ((W24.alloc (.cells #[.int .i64 1] 3)).alloc (.cells #[.bool false, .int .i64 0] 69)) ((sl_lit (W := W24) [1] rfl rfl).al (.cells #[.bool false, .int .i64 0] 69)) (mlit_at (by rw [World.size_alloc]) (mv_lit (W := (W24.alloc (.cells #[.int .i64 1] 3))) [⟨false, 0⟩] rfl rfl))
        rw [nm_e3] at h
        refine h.mono ?_
        intro e w' ho
        obtain ⟨A0, F0, c0, fc0, h1, h2⟩ := brd_empty ho
        exact ⟨A0, F0, c0, fc0, h1, hbn.trans (h2.mono hbn.size)⟩
      clear hbn
      go_upto_region 25 with ((go_at_call 11; refine HC.out.mono ?_; rintro e w25 ⟨A0, F0, c0, fc0, rfl, hb⟩))
      have hal : Below w25.heap.size w25 (w25.alloc (.cells #[.slice A0 0 c0, .slice F0 0 fc0] 26)) := (Below.refl _ _).alloc (Nat.le_refl _) _
      have HX := Lib.hid ((HA24.out.to hb).to hal)
      clear hal
      refine abs_world (Q := fun W => Code.wp _ _ _ _ W) (F := fun W => BelowW w W) _ HX.out ?_
      clear HX hb HC HA24
      rintro W25 hA
      have HA25 := Lib.hid hA
      clear hA
      have hbn : Below W25.heap.size W25 W25 := Below.refl _ _
      have HC : Hid (Calls Try.prog 11 #[.int .i64 9, .slice none 0 0, .slice none 0 0] W25 fun e w' => ∃ A0 F0 c0 fc0, e = .returned (.tuple #[.agg #[.slice A0 0 c0, .slice F0 0 fc0], .int .i64 2]) ∧ Below W25.heap.size W25 w') := by
        have hA := HA25.out.to hbn
        have h := hrep_any 9 none 0 [] (by decide) none 0 [] (by decide) W25 SlI.nil SlS.nil
        rw [nm_e4] at h
        refine h.mono ?_
        intro e w' ho
        obtain ⟨A0, F0, c0, fc0, h1, h2⟩ := brd_empty ho
        exact ⟨A0, F0, c0, fc0, h1, hbn.trans (h2.mono hbn.size)⟩
      clear hbn
      go_upto_region 26 with ((go_at_call 11; refine HC.out.mono ?_; rintro e w26 ⟨A0, F0, c0, fc0, rfl, hb⟩))
      have hal : Below w26.heap.size w26 (w26.alloc (.cells #[.slice A0 0 c0, .slice F0 0 fc0] 26)) := (Below.refl _ _).alloc (Nat.le_refl _) _
      have HX := Lib.hid ((HA25.out.to hb).to hal)
      clear hal
      refine abs_world (Q := fun W => Code.wp _ _ _ _ W) (F := fun W => BelowW w W) _ HX.out ?_
      clear HX hb HC HA25
      rintro W26 hA
      have HA26 := Lib.hid hA
      clear hA
      have hbn : Below W26.heap.size W26 ((W26.alloc (.cells #[.int .i64 1] 3)).alloc (.cells #[.bool true, .int .i64 (-1)] 69)) := ((Below.refl _ _).alloc (Nat.le_refl _) _).alloc (by simp) _
      have HC : Hid (Calls Try.prog 11 #[.int .i64 1, .slice (some ⟨W26.heap.size, 0, none⟩) 1 1, .slice (some ⟨W26.heap.size + 1, 0, none⟩) 1 1] ((W26.alloc (.cells #[.int .i64 1] 3)).alloc (.cells #[.bool true, .int .i64 (-1)] 69)) fun e w' => ∃ A0 F0 c0 fc0, e = .returned (.tuple #[.agg #[.slice A0 0 c0, .slice F0 0 fc0], .int .i64 8]) ∧ Below W26.heap.size W26 w') := by
        have hA := HA26.out.to hbn
        have h := hrep_any 1 (some ⟨W26.heap.size, 0, none⟩) 1 [1] (by decide) (some ⟨W26.heap.size + 1, 0, none⟩) 1 [⟨true, -1⟩] (by decide) ((W26.alloc (.cells #[.int .i64 1] 3)).alloc (.cells #[.bool true, .int .i64 (-1)] 69)) ((sl_lit (W := W26) [1] rfl rfl).al (.cells #[.bool true, .int .i64 (-1)] 69)) (mlit_at (by rw [World.size_alloc]) (mv_lit (W := (W26.alloc (.cells #[.int .i64 1] 3))) [⟨true, -1⟩] rfl rfl))
        rw [nm_e5] at h
        refine h.mono ?_
        intro e w' ho
        obtain ⟨A0, F0, c0, fc0, h1, h2⟩ := brd_empty ho
        exact ⟨A0, F0, c0, fc0, h1, hbn.trans (h2.mono hbn.size)⟩
      clear hbn
      go_upto_region 27 with ((go_at_call 11; refine HC.out.mono ?_; rintro e w27 ⟨A0, F0, c0, fc0, rfl, hb⟩))
      have hal : Below w27.heap.size w27 (w27.alloc (.cells #[.slice A0 0 c0, .slice F0 0 fc0] 26)) := (Below.refl _ _).alloc (Nat.le_refl _) _
      have HX := Lib.hid ((HA26.out.to hb).to hal)
      clear hal
      refine abs_world (Q := fun W => Code.wp _ _ _ _ W) (F := fun W => BelowW w W) _ HX.out ?_
      clear HX hb HC HA26
      rintro W27 hA
      have HA27 := Lib.hid hA
      clear hA
      have hbn : Below W27.heap.size W27 W27 := Below.refl _ _
      have HC : Hid (Calls Try.prog 21 #[.agg #[.slice none 0 0, .slice none 0 0], .slice none 0 0] W27 fun e w' => ∃ A0 c0, e = .returned (.tuple #[.slice A0 0 c0, .int .i64 0]) ∧ Below W27.heap.size W27 w') := by
        have hA := HA27.out.to hbn
        have h := hplan_any none none 0 0 ⟨[], []⟩ (by show ([] : List (Int × Int)).length ≤ 4611686018427387904; decide) none 0 [] (by decide) W27 SlI.nil SlPr.nil SlI.nil
        rw [nm_p4] at h
        refine h.mono ?_
        intro e w' ho
        obtain ⟨A0, c0, h1, -, h2⟩ := ho
        exact ⟨A0, c0, h1, hbn.trans (h2.mono hbn.size)⟩
      clear hbn
      go_upto_region 28 with ((go_at_call 21; refine HC.out.mono ?_; rintro e w28 ⟨A0, c0, rfl, hb⟩))
      have HX := Lib.hid (HA27.out.to hb)
      refine abs_world (Q := fun W => Code.wp _ _ _ _ W) (F := fun W => BelowW w W) _ HX.out ?_
      clear HX hb HC HA27
      rintro W28 hA
      have HA28 := Lib.hid hA
      clear hA
      have HAv := Lib.hid (alive29_any W28)
      go_upto_region 29 with ((go_at_call 29; refine HAv.out.mono ?_; rintro e w50 ⟨rfl, hb⟩))
      have HX := Lib.hid (HA28.out.to hb)
      refine abs_world (Q := fun W => Code.wp _ _ _ _ W) (F := fun W => BelowW w W) _ HX.out ?_
      clear HX hb HAv HA28
      rintro W51 hA
      have HA51 := Lib.hid hA
      clear hA
      go_wp2
      go_ret
      exact ⟨rfl, HA51.out⟩
end Go.Proofs.Ytodjkifcbgmckaa
