/- Layer 34, plain: what the calls of IntarsiaNames answer; pictures as literals. -/
import Derived.Test.YthedmiilkeclaaaGreatKRj
import Derived.Test.YthedmiilkeclaaaGreatKSh
import Derived.Test.YthedmiilkeclaaaGreatKRg
namespace Go.Proofs.YthedmiilkeclaaaGreat
open Go.RowKit Go.Shelf
open Go.Proofs.YthedmiilkeclaaaGreat.I34
set_option maxRecDepth 1000000

abbrev badP : List (List (List Int)) := [[[]], [[0]], [[7]], [[1, 1], [1]], [List.replicate 102 0]]
theorem bad_chk : ∀ p ∈ badP, chk p = 8 := by decide +kernel
theorem bad_plan : ∀ p ∈ badP, (planE p 1).2 = 8 := by decide +kernel
theorem many_chk : chk (List.replicate 101 []) = 4 := by decide +kernel
theorem fl_n1 : (flR ex1 1 1).2 = 2 := by decide +kernel
theorem fl_n2 : (flR ex1 0 7).2 = 2 := by decide +kernel
theorem bin_n : (binR ex1 0).2 = 2 := by decide +kernel
theorem plan_n : (planE ex1 41).2 = 2 := by decide +kernel
theorem plan_nil : (planE [] 1).1.length = 0 ∧ (planE [] 1).2 = 0 := by decide +kernel
abbrev nkI34 : Ins := ⟨3, false, 0, 0, 0, 1, 0⟩
abbrev nkB34 : Ins := ⟨3, false, 1, 0, 0, 2, 0⟩
abbrev ntI34 : Ins := ⟨4, false, 0, 0, 0, 3, 0⟩
theorem sh_many : showE (List.replicate 2001 zeroI) 1 = ([], 4) := by unfold showE; rw [if_pos (by rw [List.length_replicate]; omega)]
theorem sh_bad : showE [zeroI] 1 = ([], 8) := by decide +kernel
theorem sh_arg : showE [] 0 = ([], 2) := by decide +kernel
theorem sh_count : showE [nkI34] 2 = ([], 26) := by decide +kernel
theorem sh_ok : showE [nkI34, nkB34, ntI34] 1 = ([[1]], 0) := by decide +kernel
theorem sh_long : showE (List.replicate 101 nkI34) 1 = ([], 4) := by decide +kernel
theorem out_len : ∀ t k, t ≤ [rowN, rowN, rowN, rowN].length → k ≤ 6 → (outR [rowN, rowN, rowN, rowN] 1 t k).length ≤ 2000 := by
  intro t k ht hk
  have h : ∀ t ∈ List.range 5, ∀ k ∈ List.range 7, (outR [rowN, rowN, rowN, rowN] 1 t k).length ≤ 2000 := by decide +kernel
  exact h t (by rw [List.mem_range]; simp only [List.length_cons, List.length_nil] at ht; omega) k (by rw [List.mem_range]; omega)
theorem out_run : (runS bed0 (outR [rowN, rowN, rowN, rowN] 1 4 0)).2.2 = 0 := by decide +kernel
theorem out_wf : ∀ i ∈ outR [rowN, rowN, rowN, rowN] 1 4 0, i.wf := by
  have h : ∀ i ∈ outR [rowN, rowN, rowN, rowN] 1 4 0, 0 ≤ i.op ∧ i.op ≤ 255 ∧ 0 ≤ i.bed ∧ i.bed ≤ 255 := by decide +kernel
  exact h
theorem four_chk : chkL [rowN, rowN, rowN, rowN] 1 = 0 := by decide +kernel
theorem four_len : ∀ row ∈ [rowN, rowN, rowN, rowN], row.length ≤ 4611686018427387904 := by
  have h : ∀ row ∈ [rowN, rowN, rowN, rowN], row.length ≤ 1000 := by decide +kernel
  exact fun row hr => Nat.le_trans (h row hr) (by omega)
theorem bad_len : ∀ p ∈ badP, ∀ row ∈ p, row.length ≤ 4611686018427387904 := by
  have h : ∀ p ∈ badP, ∀ row ∈ p, row.length ≤ 1000 := by decide +kernel
  exact fun p hp row hr => Nat.le_trans (h p hp row hr) (by omega)
/-- A slice literal of slices. -/
theorem rows_lit {w : World} {T : TypeId} (vs : Array Value) (p : List (List Int)) (_ : p ≠ []) (h : ∀ (j : Nat) (row : List Int), p[j]? = some row → ∃ (A' : Option Addr) (C' : Nat), vs[j]? = some (Value.slice A' row.length C') ∧ row.length ≤ C' ∧ SlI w w.heap.size A' row) :
    SlRows (w.alloc (.cells vs T)) (w.alloc (.cells vs T)).heap.size (some ⟨w.heap.size, 0, none⟩) p := by
  have hal := (Below.refl w.heap.size w).alloc (Nat.le_refl _) (.cells vs T)
  refine fun _ => ⟨w.heap.size, 0, rfl, by simp, fun j row hr => ?_⟩
  obtain ⟨A', C', h1, h2, h3⟩ := h j row hr
  refine ⟨A', C', ?_, h2, (h3.below hal).more hal.size⟩
  rw [Nat.zero_add]
  exact cell_new rfl rfl h1
/-- A slice literal of numbers. -/
theorem ints_lit {w : World} {T : TypeId} (vs : Array Value) (l : List Int) (h : vs = (l.map (Value.int .i64)).toArray) :
    SlI (w.alloc (.cells vs T)) (w.alloc (.cells vs T)).heap.size (some ⟨w.heap.size, 0, none⟩) l := by
  subst h
  refine fun _ => ⟨w.heap.size, 0, rfl, by simp, fun j z hz => ?_⟩
  rw [Nat.zero_add]
  exact cell_new rfl rfl (by simp [hz])
end Go.Proofs.YthedmiilkeclaaaGreat
