/- Layer 32: rows that a call owns: which loops have come; a list of numbers. Layer 32: a row of instructions that a call owns. -/
import Derived.Test.YtflpikickbellaaKRt4
import Derived.Test.YtflpikickbellaaKG3
import Derived.Test.YtflpikickbellaaKG4
import Derived.Test.YtflpikickbellaaKG1
namespace Go.Proofs.Ytflpikickbellaa
open Go.RowKit Go.Shelf Go.Sort
set_option maxRecDepth 100000

def pxB (g n : Nat) (come : Nat → Bool) : Own := ⟨4, 1, n, .slice (some ⟨g, 0, none⟩) n n, (List.range n).map fun k => .bool (come k)⟩
def pxJ (v : Value) (l : List Int) : Own := ⟨3, 1, l.length, v, l.map (Value.int .i64)⟩
theorem pxB_at {w : World} {B g n : Nat} {come : Nat → Bool} (h : (pxB g n come).lies w B) : CmAt g n come w ∧ (∀ k, w.frozen? ⟨g, k, none⟩ = false) ∧ B ≤ g := by
  have h0 : w.ownsRow B 4 1 (.slice (some ⟨g, 0, none⟩) n n) n ((List.range n).map fun k => Value.bool (come k)) := h
  have hl := World.ownsRow.lt h0 g rfl
  refine ⟨⟨hl.2, fun i hi => ?_⟩, fun k => World.ownsRow.frozenAt h0 k, hl.1⟩
  rw [World.ownsRow.cellAt h0 i (by omega), List.getElem?_map, List.getElem?_range hi]
  rfl
theorem pxB_put {w : World} {B g n : Nat} {come : Nat → Bool} {L : List Own} (h : Owns w B (pxB g n come :: L)) (k : Nat) : Owns (w.setCell ⟨g, k, none⟩ (.bool true)) B (pxB g n (putN come k) :: L) := by
  have h0 : w.ownsRow B 4 1 (.slice (some ⟨g, 0, none⟩) n n) n ((List.range n).map fun k => Value.bool (come k)) := h.head
  obtain ⟨h1, h2⟩ := World.ownsRow.stored h0 k (.bool true)
  have e : ((List.range n).map fun k => Value.bool (come k)).set k (.bool true) = (List.range n).map fun j => Value.bool (putN come k j) := by
    apply List.ext_getElem (by simp)
    intro j h1 h2
    rw [List.getElem_set]
    simp only [List.getElem_map, List.getElem_range]
    unfold putN
    by_cases hj : k = j
    · subst hj; simp
    · rw [if_neg hj, decide_eq_false (fun h => hj h.symm), Bool.or_false]
  rw [e] at h1
  exact h.turn (o' := pxB g n (putN come k)) h2 h1 (fun j hj => Or.inl hj)
theorem info_booT : (Try.prog.info? 4).map (fun i => (i.zero, i.size, i.bytes)) = some (some (.bool false), 1, 1) := by kernel_rfl
theorem mk_boolsT (w : World) (n : Nat) (hn : n ≤ 1000000) : ∃ w', (Instr.makeSlice 85 (.int .i64 (n : Int)) (.int .i64 (n : Int))).run Try.prog w = .ok (.slice (some ⟨w.heap.size, 0, none⟩) n n) w' ∧ Owns w' w.heap.size [pxB w.heap.size n (fun _ => false)] ∧ Below w.heap.size w w' := by
  obtain ⟨i1, hi', hz0', hz1', hz2'⟩ := info_parts info_booT
  obtain ⟨w3, hmr, hob, hgb⟩ := run_make_full (P := Try.prog) w w.heap.size 85 4 i1 (.bool false) 1 Try.underlying85 hi' hz0' hz1' .i64 .i64 n (by rw [hz2']; omega) (by unfold maxLen; omega) (Nat.le_refl _)
  have hb := (Below.refl w.heap.size w).grown hgb (Nat.le_refl _) (fun k e => by cases e)
  refine ⟨w3, hmr, Owns.nil.add hb (Nat.le_refl _) ?_, hb⟩
  have e : (madeCells (Value.bool false).cells (n * 1)).toList = (List.range n).map fun _ => Value.bool false := by
    rw [Nat.mul_one, List.map_const', List.length_range]
    exact toList_madeCells_one _ _
  rw [e] at hob
  exact hob
theorem pxJ_form {w : World} {B : Nat} {v : Value} {l : List Int} {L : List Own} (h : Owns w B (pxJ v l :: L)) : ∃ a c, v = .slice a l.length c := by
  have h0 : w.ownsRow B 3 1 v l.length (l.map (Value.int .i64)) := h.head
  rcases h0.2 with ⟨rfl, e⟩ | ⟨g, cap, cur, rfl, -⟩
  · rw [e]; exact ⟨none, 0, rfl⟩
  · exact ⟨_, _, rfl⟩
theorem pxJ_sl {w : World} {B : Nat} {a : Option Addr} {n c : Nat} {l : List Int} {L : List Own} (h : Owns w B (pxJ (.slice a n c) l :: L)) : SlI w w.heap.size a l := fun hne => by
  have h0 : w.ownsRow B 3 1 (.slice a n c) l.length (l.map (Value.int .i64)) := h.head
  have h1 := h0
  rcases h0.2 with ⟨-, e⟩ | ⟨g, cap, cur, hv, hg, hh, -⟩
  · exact absurd (List.length_eq_zero_iff.1 e) hne
  · cases hv
    refine ⟨g, 0, rfl, (Array.getElem?_eq_some_iff.1 hh).1, fun j z hz => ?_⟩
    have hj := (List.getElem?_eq_some_iff.1 hz).1
    rw [Nat.zero_add, World.ownsRow.cellAt h1 j (by omega), List.getElem?_map, hz]
    rfl
theorem pxJ_app {w : World} {B c : Nat} {a : Option Addr} {l : List Int} {L : List Own} (h : Owns w B (pxJ (.slice a l.length c) l :: L)) (hB : B ≤ w.heap.size) (hl : l.length ≤ 100000) (x : Int) :
    ∃ A' c' w', (Builtin.append_ #[22, 22] 22 #[.slice a l.length c, .slice (some ⟨w.heap.size, 0, none⟩) 1 1]).run Try.prog (w.alloc (.cells #[.int .i64 x] 3)) = .ok (.slice A' (l.length + 1) c') w' ∧ Owns w' B (pxJ (.slice A' (l.length + 1) c') (l ++ [x]) :: L) ∧ Below B w w' := by
  obtain ⟨ii, hii, hii0, hii1, hii2⟩ := info_parts info_int'
  have hal := al_t w (.cells #[.int .i64 x] 3)
  have h9 := h.to hal
  have h0 : (w.alloc (.cells #[.int .i64 x] 3)).ownsRow B 3 1 (.slice a l.length c) l.length (l.map (Value.int .i64)) := h9.head
  have hsz := hal.size
  obtain ⟨A', c', w', hr, ho, hg, hn⟩ := run_app_any Try.underlying22 hii hii0 hii1 hii2 rfl (by decide) h0 (some ⟨w.heap.size, 0, none⟩) 1 1 [.int .i64 x] rfl (fun e => by cases e) (fun ad e j u hu => by
    cases e
    have hj : j = 0 := by have := (List.getElem?_eq_some_iff.1 hu).1; simp at this; exact this
    subst hj
    have e : u = .int .i64 x := by simpa using hu.symm
    subst e
    exact cell_new rfl rfl rfl) (fun u hu => by rw [List.mem_singleton.1 hu]; rfl) (by unfold maxLen; omega) (by omega) (by omega)
  refine ⟨A', c', w', hr, ?_, (hal.mono hB).trans (Below.of_grown hg (by omega) (fun k e => (World.ownsRow.lt h0 k e).1))⟩
  refine h9.turn (o' := pxJ (.slice A' (l.length + 1) c') (l ++ [x])) hg ?_ hn
  unfold pxJ Own.lies
  rw [List.length_append, List.map_append]
  exact ho
end Go.Proofs.Ytflpikickbellaa
namespace Go.Proofs.Ytflpikickbellaa
open Go.RowKit Go.Shelf Go.Sort
set_option maxRecDepth 100000

theorem info_insT : (Try.prog.info? 61).map (fun i => (i.zero, i.size, i.bytes)) = some (some (.agg #[.int .u8 0, .bool false, .int .u8 0, .int .i64 0, .int .i64 0, .int .i64 0, .int .i64 0]), 7, 40) := by kernel_rfl
theorem cells_seven (l : List Ins) : ∀ cs ∈ l.map Ins.cells, cs.length = 7 := fun cs h => by
  obtain ⟨s, _, rfl⟩ := List.mem_map.1 h
  rfl
abbrev insB (i : Ins) : Obj := .cells #[.int .u8 i.op, .bool i.right, .int .u8 i.bed, .int .i64 i.at_, .int .i64 i.to_, .int .i64 i.car, .int .i64 i.rack] 61
def pxO (v : Value) (l : List Ins) : Own := ⟨61, 7, l.length, v, (l.map Ins.cells).flatten⟩
theorem pxO_app {w : World} {B c : Nat} {a : Option Addr} {l : List Ins} {L : List Own} (h : Owns w B (pxO (.slice a l.length c) l :: L)) (hB : B ≤ w.heap.size) (hl : l.length ≤ 100000) (x : Ins) :
    ∃ A' c' w', (Builtin.append_ #[32, 32] 32 #[.slice a l.length c, .slice (some ⟨w.heap.size, 0, none⟩) 1 1]).run Try.prog (w.alloc (insB x)) = .ok (.slice A' (l.length + 1) c') w' ∧ Owns w' B (pxO (.slice A' (l.length + 1) c') (l ++ [x]) :: L) ∧ Below B w w' := by
  obtain ⟨ii, hii, hii0, hii1, hii2⟩ := info_parts info_insT
  have hal := al_t w (insB x)
  have h9 := h.to hal
  have h0 : (w.alloc (insB x)).ownsRow B 61 7 (.slice a l.length c) l.length (l.map Ins.cells).flatten := h9.head
  have hsz := hal.size
  obtain ⟨A', c', w', hr, ho, hg, hn⟩ := run_app_any Try.underlying32 hii hii0 hii1 hii2 rfl (by decide) h0 (some ⟨w.heap.size, 0, none⟩) 1 1 x.cells rfl (fun e => by cases e) (fun ad e j u hu => by
    cases e
    have hj : j < 7 := (List.getElem?_eq_some_iff.1 hu).1
    have ha : (⟨w.heap.size, 0, none⟩ : Addr).add j = ⟨w.heap.size, j, none⟩ := by unfold Addr.add; split <;> simp_all
    rw [ha]
    refine cell_new rfl rfl ?_
    rw [← hu]
    rcases (by omega : j = 0 ∨ j = 1 ∨ j = 2 ∨ j = 3 ∨ j = 4 ∨ j = 5 ∨ j = 6) with rfl | rfl | rfl | rfl | rfl | rfl | rfl <;> rfl) (fun u hu => by
    obtain ⟨j, hj⟩ := List.mem_iff_getElem?.1 hu
    have hj7 : j < 7 := (List.getElem?_eq_some_iff.1 hj).1
    rcases (by omega : j = 0 ∨ j = 1 ∨ j = 2 ∨ j = 3 ∨ j = 4 ∨ j = 5 ∨ j = 6) with rfl | rfl | rfl | rfl | rfl | rfl | rfl <;> (cases hj; rfl)) (by unfold maxLen; omega) (by omega) (by omega)
  refine ⟨A', c', w', hr, ?_, (hal.mono hB).trans (Below.of_grown hg (by omega) (fun k e => (World.ownsRow.lt h0 k e).1))⟩
  refine h9.turn (o' := pxO (.slice A' (l.length + 1) c') (l ++ [x])) hg ?_ hn
  unfold pxO Own.lies
  rw [List.length_append, List.map_append, List.flatten_append]
  simpa using ho
theorem pxO_form {w : World} {B : Nat} {v : Value} {O : List Ins} {L : List Own} (h : Owns w B (pxO v O :: L)) : ∃ a c, v = .slice a O.length c := by
  have h0 : w.ownsRow B 61 7 v O.length (O.map Ins.cells).flatten := h.head
  rcases h0.2 with ⟨rfl, e⟩ | ⟨g, cap, cur, rfl, -⟩
  · rw [e]; exact ⟨none, 0, rfl⟩
  · exact ⟨_, _, rfl⟩
theorem pxO_sl {w : World} {B : Nat} {a : Option Addr} {c : Nat} {O : List Ins} {L : List Own} (h : Owns w B (pxO (.slice a O.length c) O :: L)) : SlX w w.heap.size a O := by
  have h0 : w.ownsRow B 61 7 (.slice a O.length c) O.length (O.map Ins.cells).flatten := h.head
  exact SlS.of_own (cells_seven O) (by rw [List.length_map]) h0
end Go.Proofs.Ytflpikickbellaa
