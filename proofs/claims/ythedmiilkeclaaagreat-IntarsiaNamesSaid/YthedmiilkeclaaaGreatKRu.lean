/- Layer 34: what the reference's Plan calls. -/
import Derived.Test.YthedmiilkeclaaaGreatKRj
import Derived.Test.YthedmiilkeclaaaGreatKRg
import Derived.Test.YthedmiilkeclaaaGreatKRc
import Derived.Test.YthedmiilkeclaaaGreatKRk
import Derived.Deep.OwnRows
namespace Go.Proofs.YthedmiilkeclaaaGreat
open Go.RowKit Go.Shelf Go.Sort
open Go.Proofs.YthedmiilkeclaaaGreat.I34
set_option maxRecDepth 100000

theorem bndQ_hit {l : List (Nat × Nat)} {m k j : Nat} {q : Bool} {f : Nat × Nat} (hf : l[j]? = some f) (h1 : f.1 < k) (h2 : k < f.2) (hb : ∀ i g, i < j → l[i]? = some g → (decide (g.1 < k) && decide (k < g.2)) = false) :
    bndQ l m k q = decide (distF q f k % m = 0) := by
  have : l.find? (fun f => decide (f.1 < k) && decide (k < f.2)) = some f := by
    obtain ⟨hj, e⟩ := List.getElem?_eq_some_iff.1 hf
    rw [List.find?_eq_some_iff_getElem]
    exact ⟨by simp [h1, h2], j, hj, e, fun i hi => by rw [hb i _ hi (List.getElem?_eq_getElem (by omega))]; simp⟩
  unfold bndQ
  rw [this]
theorem bndQ_none {l : List (Nat × Nat)} {m k : Nat} {q : Bool} (hb : ∀ i g, i < l.length → l[i]? = some g → (decide (g.1 < k) && decide (k < g.2)) = false) : bndQ l m k q = false := by
  have : l.find? (fun f => decide (f.1 < k) && decide (k < f.2)) = none := by
    rw [List.find?_eq_none]
    intro g hg
    obtain ⟨i, hi⟩ := List.mem_iff_getElem?.1 hg
    rw [hb i g (List.getElem?_eq_some_iff.1 hi).1 hi]; simp
  unfold bndQ
  rw [this]

set_option maxHeartbeats 4000000 in
theorem rbound_any (A : Option Addr) (c : Nat) (row : List Int) (x : Int) (lim k : Nat) (q : Bool) (w : World) (h : SlI w w.heap.size A row) (hn : row.length ≤ 1000) (hl : lim ≤ 40) (hk : k < row.length) :
    Calls Tryz.prog 71 #[.slice A row.length c, .int .i64 x, .int .i64 (lim : Int), .int .i64 (k : Int), .bool q] w fun e w' => e = .returned (.bool (bndQ (flo row x) (lim + 1) k q)) ∧ Below w.heap.size w w' := by
  obtain ⟨r, hr⟩ : ∃ r, r = bndQ (flo row x) (lim + 1) k q := ⟨_, rfl⟩
  rw [← hr]
  have HBB := Lib.hid hr
  have hcall := rfloats_any A c row x w h hn
  clear h
  go_enter Tryz.func71, Tryz.ntmps71
  go_wp2_with fail
  refine hcall.mono ?_
  rintro e w2 ⟨v, rfl, hown, hb2⟩
  clear hcall
  obtain ⟨fl, hfl⟩ : ∃ fl, flo row x = fl := ⟨_, rfl⟩
  have hfr := flo_row row x
  rw [hfl] at hown hfr HBB
  obtain ⟨av, cv, rfl⟩ := own_form hown
  have HFR := Lib.hid hfr
  have hfll : fl.length ≤ 1000 := by
    have := floTo_len row x row.length
    have e : (floTo row x row.length).1 = fl := hfl
    rw [e] at this; omega
  clear hfl hfr hr
  go_wp2
  go_loopw [12] (fun i wr => ∃ j : Nat, j ≤ fl.length ∧ i = .int .i64 j ∧ Below w.heap.size w wr ∧ wr.ownsRow w.heap.size 75 2 (.slice av fl.length cv) fl.length (pairCells fl) ∧
    Hid (∀ i g, i < j → fl[i]? = some g → (decide (g.1 < k) && decide (k < g.2)) = false)) (fun i _ => fl.length - (intOf i).toNat)
  case atStart => exact ⟨0, by omega, rfl, hb2, hown, fun i _ hi => absurd hi (Nat.not_lt_zero i)⟩
  case round =>
    obtain ⟨j, hj, rfl, hbw, hown, H⟩ := hrel
    by_cases hlt : j < fl.length
    · obtain ⟨g, rfl, hgB2, hgl, hcells⟩ := own_pos hown (by omega)
      have hf : fl[j]? = some fl[j] := List.getElem?_eq_getElem hlt
      generalize fl[j] = f at hf
      obtain ⟨hx, hy⟩ := pairCells_at hf
      have hcx : wr.cell? ⟨g, j * 2, none⟩ = some (.int .i64 (f.1 : Int)) := (hcells _ (by omega)).trans hx
      have hcy : wr.cell? ⟨g, j * 2 + 1, none⟩ = some (.int .i64 (f.2 : Int)) := (hcells _ (by omega)).trans hy
      have hbd := Row.bounds HFR.out hf
      have HFJ := Lib.hid hf
      have ho5 := Lib.hid hown
      clear hx hy hcells hf hown
      by_cases hin : f.1 < k ∧ k < f.2
      · obtain ⟨h1, h2⟩ := hin
        have HE := Lib.hid (HBB.out.trans (bndQ_hit HFJ.out h1 h2 H.out))
        have hlp : (1 : Int) ≤ (lim : Int) + 1 := by omega
        clear HBB
        cases q with
        | true =>
          have HQ : Hid ((k : Int) - (f.1 : Int) = ((k - f.1 : Nat) : Int)) := by show _ = _; omega
          clear H
          go_wp2
          go_quiet (fail)
          go_wp2
          go_ret
          refine ⟨ret_bool ?_, below_drewN hbw _⟩
          rw [HE.out, HQ.out, show ((k - f.1 : Nat) : Int) % ((lim : Int) + 1) = (((k - f.1) % (lim + 1) : Nat) : Int) by simp]
          rw [Bool.eq_iff_iff, beq_iff_eq, decide_eq_true_iff]
          show _ ↔ (k - f.1) % (lim + 1) = 0
          omega
        | false =>
          have HQ : Hid ((f.2 : Int) - (k : Int) = ((f.2 - k : Nat) : Int)) := by show _ = _; omega
          clear H
          go_wp2
          go_quiet (fail)
          go_wp2
          go_ret
          refine ⟨ret_bool ?_, below_drewN hbw _⟩
          rw [HE.out, HQ.out, show ((f.2 - k : Nat) : Int) % ((lim : Int) + 1) = (((f.2 - k) % (lim + 1) : Nat) : Int) by simp]
          rw [Bool.eq_iff_iff, beq_iff_eq, decide_eq_true_iff]
          show _ ↔ (f.2 - k) % (lim + 1) = 0
          omega
      · have hn : (decide (f.1 < k) && decide (k < f.2)) = false := by
          by_cases e : f.1 < k
          · have : ¬ k < f.2 := fun e2 => hin ⟨e, e2⟩
            simp [this]
          · simp [e]
        have HN := Lib.hid hn
        clear hn
        have hcases : k ≤ f.1 ∨ (f.1 < k ∧ f.2 ≤ k) := by omega
        clear hin
        rcases hcases with h1 | ⟨h1, h2⟩
        all_goals
          go_wp2
          go_quiet (fail)
          go_wp2
          go_roundw
          case rel =>
            refine ⟨j + 1, by omega, by go_num, below_drewN hbw _, ho5.out, fun i g hi hg => ?_⟩
            by_cases e : i = j
            · subst e; rw [HFJ.out] at hg; injection hg with hg; subst hg; exact HN.out
            · exact H.out i g (by omega) hg
          case measure => simp [intOf]; omega
    · have HE := Lib.hid (HBB.out.trans (bndQ_none (fun i g hi => H.out i g (by omega))))
      clear H hown
      go_wp2
      go_ret
      exact ⟨ret_bool HE.out.symm, hbw⟩

set_option maxHeartbeats 2000000 in
theorem has34_any (A : Option Addr) (c : Nat) (row : List Int) (x : Int) (w : World) (h : SlI w w.heap.size A row) (hn : row.length ≤ 1000) :
    Calls Tryz.prog 70 #[.slice A row.length c, .int .i64 x] w fun e w' => e = .returned (.bool (row.contains x)) ∧ w = w' := by
  obtain ⟨r, hr⟩ : ∃ r, r = row.contains x := ⟨_, rfl⟩
  rw [← hr]
  have HR := Lib.hid hr
  clear hr
  go_enter Tryz.func70, Tryz.ntmps70
  go_wp2
  go_loopw [5] (fun s5 wr => ∃ k : Nat, k ≤ row.length ∧ s5 = .int .i64 k ∧ w = wr ∧ Hid (∀ (j : Nat) (y : Int), j < k → row[j]? = some y → y ≠ x)) (fun s5 _ => row.length - (intOf s5).toNat)
  case atStart => exact ⟨0, Nat.zero_le _, rfl, rfl, fun j y hj => absurd hj (Nat.not_lt_zero j)⟩
  case round =>
    obtain ⟨k, hk, rfl, rfl, H⟩ := hrel
    by_cases hlt : k < row.length
    · obtain ⟨b, off, z, rfl, hB, hz, hc⟩ := h.at_ hlt
      have HZ : Hid (row[k]? = some z) := hz
      clear hz h
      by_cases he : z = x
      · have HE : Hid (r = true) := by
          show _ = _
          rw [HR.out, List.contains_iff_mem.2]
          rw [← he]
          exact List.mem_of_getElem? HZ.out
        subst he
        clear H
        go_wp2
        go_ret
        exact ⟨ret_bool HE.out.symm, rfl⟩
      · have hb : (z == x) = false := beq_eq_false_iff_ne.2 he
        have HN : Hid (∀ (j : Nat) (y : Int), j < k + 1 → row[j]? = some y → y ≠ x) := fun j y hj hy => by
          by_cases e : j = k
          · subst e; rw [HZ.out] at hy; cases hy; exact he
          · exact H.out j y (by omega) hy
        clear he H
        go_wp2
        go_roundw
        case rel => exact ⟨k + 1, by omega, by go_num, trivial, HN.out⟩
        case measure => simp [intOf]; omega
    · have HE : Hid (r = false) := by
        show _ = _
        rw [HR.out, Bool.eq_false_iff]
        intro hm
        obtain ⟨j, hj⟩ := List.mem_iff_getElem?.1 (List.contains_iff_mem.1 hm)
        exact H.out j x (by have := (List.getElem?_eq_some_iff.1 hj).1; omega) hj rfl
      clear H h
      go_wp2
      go_ret
      exact ⟨ret_bool HE.out.symm, rfl⟩

def pxL (g : Nat) (F : Nat → Bool) : Own := ⟨4, 1, 7, .slice (some ⟨g, 0, none⟩) 7 7, (List.range 7).map fun k => .bool (F k)⟩
theorem pxL_at {w : World} {B g : Nat} {F : Nat → Bool} (h : (pxL g F).lies w B) {k : Nat} (hk : k < 7) : w.cell? ⟨g, k, none⟩ = some (.bool (F k)) ∧ w.frozen? ⟨g, k, none⟩ = false ∧ B ≤ g ∧ g < w.heap.size := by
  have h0 : w.ownsRow B 4 1 (.slice (some ⟨g, 0, none⟩) 7 7) 7 ((List.range 7).map fun k => Value.bool (F k)) := h
  have hl := World.ownsRow.lt h0 g rfl
  refine ⟨?_, World.ownsRow.frozenAt h0 k, hl.1, hl.2⟩
  rw [World.ownsRow.cellAt h0 k (by omega), List.getElem?_map, List.getElem?_range hk]
  rfl
theorem pxL_set {w : World} {B g : Nat} {F : Nat → Bool} {L : List Own} (h : Owns w B (pxL g F :: L)) (k : Nat) (q : Bool) : Owns (w.setCell ⟨g, k, none⟩ (.bool q)) B (pxL g (fun j => if j = k then q else F j) :: L) := by
  have h0 : w.ownsRow B 4 1 (.slice (some ⟨g, 0, none⟩) 7 7) 7 ((List.range 7).map fun k => Value.bool (F k)) := h.head
  obtain ⟨h1, h2⟩ := World.ownsRow.stored h0 k (.bool q)
  have e : ((List.range 7).map fun k => Value.bool (F k)).set k (.bool q) = (List.range 7).map fun j => Value.bool (if j = k then q else F j) := by
    apply List.ext_getElem (by simp)
    intro j h1 h2
    rw [List.getElem_set]
    simp only [List.getElem_map, List.getElem_range]
    by_cases hj : k = j
    · subst hj; simp
    · rw [if_neg hj, if_neg (fun h => hj h.symm)]
  rw [e] at h1
  exact h.turn (o' := pxL g (fun j => if j = k then q else F j)) h2 h1 (fun j hj => Or.inl hj)
theorem left_new {w : World} {B : Nat} {L : List Own} (h : Owns w B L) (hB : B ≤ w.heap.size) : Owns (w.alloc (.cells #[.bool false, .bool false, .bool false, .bool false, .bool false, .bool false, .bool false] 4)) B (pxL w.heap.size (fun _ => false) :: L) :=
  h.add ((Below.refl _ w).alloc (Nat.le_refl _) _) hB (World.ownsRow_lit w _ 7 (Nat.le_refl _) (by decide) rfl)
theorem info_boolL : (Tryz.prog.info? 4).map (fun i => (i.zero, i.size, i.bytes)) = some (some (.bool false), 1, 1) := by kernel_rfl
theorem mk_left (W : World) : (Instr.makeSlice 111 (.int .i64 7) (.int .i64 7)).run Tryz.prog W = .ok (.slice (some ⟨W.heap.size, 0, none⟩) 7 7) (W.alloc (.cells #[.bool false, .bool false, .bool false, .bool false, .bool false, .bool false, .bool false] 4)) :=
  by
  have h := run_make_row' 111 4 (.bool false) 1 Tryz.underlying111 info_boolL rfl .i64 .i64 7 (by omega) (by omega) W
  have e : madeCells #[Value.bool false] 7 = #[.bool false, .bool false, .bool false, .bool false, .bool false, .bool false, .bool false] := Array.toList_inj.1 (by rw [toList_madeCells_one]; rfl)
  rw [e] at h
  exact h
theorem rowX_op {w : World} {B bx : Nat} {i : Ins} {L : List Own} (h : Owns w B (rowX bx i :: L)) (v : Int) : Owns (w.setCell ⟨bx, 0, none⟩ (.int .u8 v)) B (rowX bx { i with op := v } :: L) := by
  have h0 : w.ownsRow B 31 7 (.slice (some ⟨bx, 0, none⟩) 1 1) 1 i.cells := h.head
  obtain ⟨h1, h2⟩ := World.ownsRow.stored h0 0 (.int .u8 v)
  exact h.turn (o' := rowX bx { i with op := v }) h2 h1 (fun j hj => Or.inl hj)
theorem ins_box34 (w : World) (i : Ins) : SlX (w.alloc (insBox i)) (w.alloc (insBox i)).heap.size (some ⟨w.heap.size, 0, none⟩) [i] := by
  refine fun _ => ⟨w.heap.size, 0, rfl, by simp, fun j cs hz n v hv => ?_⟩
  have hj : j = 0 := by have := (List.getElem?_eq_some_iff.1 hz).1; simp at this; exact this
  subst hj
  have e : cs = i.cells := by simpa using hz.symm
  subst e
  have hi := (List.getElem?_eq_some_iff.1 hv).1
  rw [Ins.cells_length] at hi
  simp only [Nat.zero_mul, Nat.zero_add]
  refine cell_new rfl rfl ?_
  rw [← hv]
  rcases (by omega : n = 0 ∨ n = 1 ∨ n = 2 ∨ n = 3 ∨ n = 4 ∨ n = 5 ∨ n = 6) with rfl | rfl | rfl | rfl | rfl | rfl | rfl <;> rfl

end Go.Proofs.YthedmiilkeclaaaGreat
