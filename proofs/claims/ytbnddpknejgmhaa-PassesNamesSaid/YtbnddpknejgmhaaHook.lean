/- Layer 31: the set of hooks in a map. -/
import Derived.Test.YtbnddpknejgmhaaSlE
import Derived.Maps.OwnSet
import Derived.Maps.OwnIn
import Derived.DeepKeys4
namespace Go.Proofs.Ytbnddpknejgmhaa
open Go.RowKit
open Go.Maps
set_option maxRecDepth 100000

abbrev Hook := Int × Int
abbrev hval (u : Hook) : Value := .agg #[.int .u8 u.1, .int .i64 u.2]
def okU (u : Hook) : Prop := (Lit.int .u8 u.1).wf = true ∧ (Lit.int .i64 u.2).wf = true
theorem laidOutB : Go.laidOutB Try.prog = true := by kernel_rfl
theorem hook_row : 100 < Try.prog.types.size := of_decide_eq_true (by kernel_rfl)
theorem hook_law : WideMaps.KeyLaw Try.prog 100 := deep_law_laid laidOutB (m := 2) (by omega) hook_row (by kernel_rfl) (by kernel_rfl)
theorem hook_keyed : Keyed Try.prog 100 := Keyed.of_law hook_law
theorem hook_keyType : Try.prog.keyType 100 = true := by kernel_rfl
theorem hook_c5 : Try.prog.cellsOf 5 = 1 := by kernel_rfl
theorem hook_c3 : Try.prog.cellsOf 3 = 1 := by kernel_rfl
theorem hook_cells : Try.prog.cellsOf 100 = 2 := by kernel_rfl
theorem hook_size : ∃ n, Try.prog.types.size + 1 = n + 2 := ⟨Try.prog.types.size - 1, by have := hook_row; omega⟩
theorem hook_key {u : Hook} (h : okU u) : ∃ l, keyOf Try.prog 100 (hval u) = some l := by
  obtain ⟨h1, h2⟩ := h
  obtain ⟨n, hn⟩ := hook_size
  unfold keyOf
  rw [Try.underlying100]
  simp only [hook_keyType, Bool.true_and]
  have hf : (hval u).formed Try.prog 100 = true := by
    simp [Value.formed, Try.underlying100]
    exact hook_cells.symm
  rw [if_pos hf, hn]
  simp [Program.keyLits, Try.underlying100, Try.underlying5, Try.underlying3, hook_c5, hook_c3, hook_cells, h1, h2, Value.cells]

noncomputable def litU (u : Hook) : Lit := (keyOf Try.prog 100 (hval u)).getD (.bool false)
theorem litU_key {u : Hook} (h : okU u) : keyOf Try.prog 100 (hval u) = some (litU u) := by
  obtain ⟨l, hl⟩ := hook_key h
  unfold litU
  rw [hl]; rfl
theorem litU_inj {u v : Hook} (hu : okU u) (hv : okU v) (h : litU u = litU v) : u = v := by
  have := hook_law.inj (litU_key hu) (h ▸ litU_key hv)
  simp only [hval, Value.agg.injEq, Array.mk.injEq, List.cons.injEq, Value.int.injEq, true_and, and_true] at this
  exact Prod.ext this.1 this.2

/-- Block mb is a map that holds true at the hooks U, and nothing else. -/
def HookSet (w : World) (mb n : Nat) (U : List Hook) : Prop :=
  ∃ D : DataW Unit, w.ownsMap Try.prog 100 (plainElem Try.prog 4) mb n D ∧ IsMap D ∧ ∀ u, okU u → D.atKey (litU u) (.lit (.bool false)) = .lit (.bool (decide (u ∈ U)))
theorem plainElem_bool_inv {v : Value} {z : DataW Unit × List MemPlace} (h : plainElem Try.prog 4 v = some z) : ∃ b, v = .bool b ∧ z = (.lit (.bool b), []) := by
  unfold plainElem at h
  rw [Try.underlying4] at h
  cases v <;> simp at h
  exact ⟨_, rfl, h.symm⟩
theorem zero_bool (w : World) : (zeroValue 4).run Try.prog w = .ok (.bool false) w := by
  obtain ⟨i0, hi, hz0, -, -⟩ := info_parts (P := Try.prog) (e := 4) (z := .bool false) (size := 1) (bytes := 1) (by kernel_rfl)
  simp [zeroValue, typeInfo, hi, hz0]
theorem HookSet.made (w : World) : HookSet (w.alloc (.map #[] 0)) w.heap.size 0 [] :=
  ⟨.map [], World.ownsMap_made _ _ _ _, isMap_empty, fun u _ => by simp [DataW.atKey]⟩
theorem HookSet.kept {w w' : World} {mb n : Nat} {U : List Hook} {row : Option Nat} (h : HookSet w mb n U) (hg : w.grownBy w' row) (hne : some mb ≠ row) : HookSet w' mb n U := by
  obtain ⟨D, h1, h2, h3⟩ := h
  exact ⟨D, h1.kept hg hne, h2, h3⟩
theorem HookSet.below {w w' : World} {mb n B : Nat} {U : List Hook} (h : HookSet w mb n U) (hb : Below B w w') (hB : mb < B) : HookSet w' mb n U := by
  obtain ⟨D, ⟨es, clock, hh, r⟩, h2, h3⟩ := h
  exact ⟨D, ⟨es, clock, (hb.block mb hB).trans hh, r⟩, h2, h3⟩
theorem HookSet.lt {w : World} {mb n : Nat} {U : List Hook} (h : HookSet w mb n U) : mb < w.heap.size := by
  obtain ⟨D, h1, h2, h3⟩ := h
  exact h1.lt
theorem HookSet.mono {w : World} {mb n n' : Nat} {U : List Hook} (h : HookSet w mb n U) (hn : n ≤ n') : HookSet w mb n' U := by
  obtain ⟨D, h1, h2, h3⟩ := h
  exact ⟨D, h1.mono hn, h2, h3⟩
theorem HookSet.look {w : World} {mb n : Nat} {U : List Hook} (h : HookSet w mb n U) {u : Hook} (hu : okU u) :
    (Instr.lookup 92 (.map (some mb)) (hval u) false).run Try.prog w = .ok (.bool (decide (u ∈ U))) w := by
  obtain ⟨D, h1, h2, h3⟩ := h
  obtain ⟨v, ps, hrun, hv⟩ := h1.lookup hook_keyed Try.underlying92 (zero_bool w) (plainElem_bool Try.underlying4 false) (litU_key hu)
  obtain ⟨b, rfl, hz⟩ := plainElem_bool_inv hv
  rw [h3 u hu] at hz
  simp only [Prod.mk.injEq, DataW.lit.injEq, Lit.bool.injEq] at hz
  rw [hrun, hz.1]
theorem HookSet.put {w : World} {mb n : Nat} {U : List Hook} (h : HookSet w mb n U) {u : Hook} (hu : okU u) (hn : n < maxLen) :
    ∃ w', (Instr.mapUpdate 92 (.map (some mb)) (hval u) (.bool true)).run Try.prog w = .ok () w' ∧ HookSet w' mb (n + 1) (u :: U) ∧ w.mapTurned w' mb := by
  obtain ⟨D, h1, h2, h3⟩ := h
  obtain ⟨w', hrun, hown, ht⟩ := h1.store hook_keyed Try.underlying92 hn (litU_key hu) (plainElem_bool Try.underlying4 true)
  refine ⟨w', hrun, ⟨_, hown, h2.put _ _, fun u' hu' => ?_⟩, ht⟩
  by_cases e : u' = u
  · subst e
    rw [atKey_put_same h2 (hook_keyed.key (litU_key hu))]
    simp
  · rw [atKey_put_other (fun h => e (litU_inj hu' hu h)), h3 u' hu']
    simp [e]
theorem wpList_put_hook (w : World) {ops : Array Oper} {rest : List Oper} {o : Oper} {a : Act} {Q : Exit → Act → World → Prop}
    (hg : o.guard = none) (m x v : Operand) (hop : o.op = Op.mapUpdate 92 m x v) (mb n : Nat) (U : List Hook) (hm : a.eval m = .map (some mb)) (hset : HookSet w mb n U) (hn : n < maxLen)
    (u : Hook) (hu : okU u) (hx : a.eval x = hval u) (hv : a.eval v = .bool true)
    (hK : ∀ w', HookSet w' mb (n + 1) (u :: U) → w.grownBy w' (some mb) → wpList Try.prog ops Q rest (a.put o.dst undef) w') :
    wpList Try.prog ops Q (o :: rest) a w := by
  refine wpList_plain hg fun K' hK' => ?_
  obtain ⟨w', hrun, r1, r2⟩ := hset.put hu hn
  unfold Oper.wp
  simp [execOp, hop, hm, hx, hv, hrun, Result.andThen]
  exact hK' _ _ (hK w' r1 r2.grown)
end Go.Proofs.Ytbnddpknejgmhaa
