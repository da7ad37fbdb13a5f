/- Layer 31: wide, walked. -/
import Derived.Test.YtbnddpknejgmhaaWide0
import Derived.Test.YtbnddpknejgmhaaComp1
import Derived.Test.YtbnddpknejgmhaaTurn3
namespace Go.Proofs.Ytbnddpknejgmhaa
open Go.RowKit Go.Shelf
set_option maxRecDepth 100000

def rowW (x : Nat × Nat) : List Value := [.bool false, .slice (some ⟨x.1, 0, none⟩) 101 x.2]
def knC (k : Nat) : List Value := ((List.replicate k kn1).map Stc.cells).flatten
theorem knC_succ (k : Nat) : knC (k + 1) = knC k ++ kn1.cells := by unfold knC; rw [List.replicate_succ', List.map_append, List.flatten_append]; simp
theorem knC_len (k : Nat) : (knC k).length = k * 4 := by unfold knC; rw [flat_len (cells4 _), List.length_map, List.length_replicate]
structure WideAt (w : World) (vo : Value) (L : List (Nat × Nat)) (W : World) : Prop where
  below : Below w.heap.size w W
  c0 : W.cell? ⟨w.heap.size, 0, none⟩ = some (.int .i64 101)
  c1 : W.cell? ⟨w.heap.size, 1, none⟩ = some vo
  fz : W.frozen? ⟨w.heap.size, 1, none⟩ = false
  own : W.ownsRow (w.heap.size + 1) 59 2 vo L.length (L.map rowW).flatten
  rows : ∀ x ∈ L, SlT W W.heap.size (some ⟨x.1, 0, none⟩) (List.replicate 101 kn1) ∧ vo.ownBlock ≠ some x.1 ∧ w.heap.size < x.1 ∧ 101 ≤ x.2
structure RowW (w : World) (vo vl : Value) (L : List (Nat × Nat)) (k : Nat) (W : World) : Prop where
  own : W.ownsRow (w.heap.size + 1) 56 4 vl k (knC k)
  neO : vo.ownBlock = none ∨ vo.ownBlock ≠ vl.ownBlock
  neL : ∀ x ∈ L, vl.ownBlock ≠ some x.1
theorem slt_lt {W : World} {B b : Nat} (h : SlT W B (some ⟨b, 0, none⟩) (List.replicate 101 kn1)) : b < B := by
  obtain ⟨b', off, e, hb, _⟩ := h (by decide)
  cases e; exact hb
theorem WideAt.lt {w : World} {vo : Value} {L : List (Nat × Nat)} {W : World} (h : WideAt w vo L W) : w.heap.size < W.heap.size := lt_of_cell h.c0
/-- Something else grows. -/
theorem WideAt.other {w : World} {vo : Value} {L : List (Nat × Nat)} {W W' : World} {row : Option Nat} (h : WideAt w vo L W) (hg : W.grownBy W' row) (h1 : ∀ k, row = some k → w.heap.size < k) (h2 : vo.ownBlock = none ∨ vo.ownBlock ≠ row) (h3 : ∀ x ∈ L, row ≠ some x.1) : WideAt w vo L W' := by
  have hl := h.lt
  have hne : row ≠ some w.heap.size := fun e => by have := h1 _ e; omega
  have hb : W'.heap[w.heap.size]? = W.heap[w.heap.size]? := hg.block _ hl (fun e => hne e.symm)
  refine ⟨h.below.grown hg h.below.size (fun k e => Nat.le_of_lt (h1 k e)), (World.cell?_of_block hb).trans h.c0, (World.cell?_of_block hb).trans h.c1, (World.frozen?_of_block hb).trans h.fz, h.own.kept hg h2, fun x hx => ?_⟩
  obtain ⟨a, b, c, d⟩ := h.rows x hx
  exact ⟨(SlS.grown a (Nat.le_refl _) hg (fun _ ad e => by cases e; exact h3 x hx)).more hg.size, b, c, d⟩
theorem WideAt.to {w : World} {vo : Value} {L : List (Nat × Nat)} {W W' : World} (h : WideAt w vo L W) (hb : Below W.heap.size W W') : WideAt w vo L W' :=
  h.other (row := none) ⟨hb.os, hb.tape, hb.output, hb.size, fun i hi _ => hb.block i hi⟩ (fun _ e => by cases e) (by cases vo.ownBlock with | none => exact Or.inl rfl | some g => exact Or.inr (by simp)) (fun _ _ e => by cases e)
theorem RowW.to {w : World} {vo vl : Value} {L : List (Nat × Nat)} {k : Nat} {W W' : World} (h : RowW w vo vl L k W) (hb : Below W.heap.size W W') : RowW w vo vl L k W' := ⟨own_below h.own hb (Nat.le_refl _), h.neO, h.neL⟩
theorem wide_in {w : World} {vo vl : Value} {L : List (Nat × Nat)} {k g cap : Nat} {W W' : World} {o : Obj} (h : WideAt w vo L W) (r : RowW w vo vl L k W)
    (ho : W'.ownsRow (w.heap.size + 1) 56 4 (.slice (some ⟨g, 0, none⟩) (k + 1) cap) (k + 1) (knC k ++ kn1.cells)) (hg : (W.alloc o).grownBy W' vl.ownBlock) (hn : vl.ownBlock = some g ∨ g = W.heap.size + 1) :
    WideAt w vo L W' ∧ RowW w vo (.slice (some ⟨g, 0, none⟩) (k + 1) cap) L (k + 1) W' := by
  have hb : Below W.heap.size W (W.alloc o) := (Below.refl _ W).alloc (Nat.le_refl _) o
  have h' := h.to hb
  refine ⟨h'.other hg (fun j e => by have := (r.own.lt j e).1; omega) r.neO (fun x hx => r.neL x hx), by rw [knC_succ]; exact ho, ?_, fun x hx e => ?_⟩
  · cases hv : vo.ownBlock with
    | none => exact Or.inl rfl
    | some q =>
      refine Or.inr fun e => ?_
      have e' : q = g := by have := Option.some.inj e; exact this
      rcases hn with e2 | e2
      · rcases r.neO with e3 | e3
        · rw [hv] at e3; cases e3
        · exact e3 (by rw [hv, e2, e'])
      · have := (h.own.lt q hv).2; omega
  · have e' : g = x.1 := Option.some.inj e
    rcases hn with e2 | e2
    · exact r.neL x hx (by rw [e2, e'])
    · have := slt_lt (h.rows x hx).1; omega
theorem rowsW_snoc (L : List (Nat × Nat)) (x : Nat × Nat) : ((L ++ [x]).map rowW).flatten = (L.map rowW).flatten ++ rowW x := by simp
theorem wide_out {w : World} {vo : Value} {L : List (Nat × Nat)} {g cap g2 cap2 : Nat} {W W' : World} {o : Obj} (h : WideAt w vo L W) (r : RowW w vo (.slice (some ⟨g, 0, none⟩) 101 cap) L 101 W)
    (ho : W'.ownsRow (w.heap.size + 1) 59 2 (.slice (some ⟨g2, 0, none⟩) (L.length + 1) cap2) (L.length + 1) ((L.map rowW).flatten ++ rowW (g, cap))) (hg : (W.alloc o).grownBy W' vo.ownBlock) (hn : vo.ownBlock = some g2 ∨ g2 = W.heap.size + 1) :
    WideAt w (.slice (some ⟨g2, 0, none⟩) (L.length + 1) cap2) (L ++ [(g, cap)]) (W'.setCell ⟨w.heap.size, 1, none⟩ (.slice (some ⟨g2, 0, none⟩) (L.length + 1) cap2)) := by
  have hl := h.lt
  have hz := hg.size
  rw [World.size_alloc] at hz
  have hlo : ∀ q, vo.ownBlock = some q → w.heap.size + 1 ≤ q ∧ q < W.heap.size := fun q e => h.own.lt q e
  have hb : W'.heap[w.heap.size]? = W.heap[w.heap.size]? := by
    rw [hg.block _ (by simp; omega) (fun e => by have := (hlo _ e.symm).1; omega)]
    exact ((Below.refl W.heap.size W).alloc (Nat.le_refl _) o).block _ hl
  have hg2 : w.heap.size < g2 := by
    rcases hn with e | e
    · have := (hlo _ e).1; omega
    · omega
  have hsl : ∀ b, vo.ownBlock ≠ some b → w.heap.size < b → SlT W W.heap.size (some ⟨b, 0, none⟩) (List.replicate 101 kn1) → SlT (W'.setCell ⟨w.heap.size, 1, none⟩ (.slice (some ⟨g2, 0, none⟩) (L.length + 1) cap2)) (W'.setCell ⟨w.heap.size, 1, none⟩ (.slice (some ⟨g2, 0, none⟩) (L.length + 1) cap2)).heap.size (some ⟨b, 0, none⟩) (List.replicate 101 kn1) := fun b hv hb hs => by
    have s1 := (hs.below ((Below.refl W.heap.size W).alloc (Nat.le_refl _) o)).more (B' := (W.alloc o).heap.size) (by simp)
    have s2 : SlT W' W'.heap.size (some ⟨b, 0, none⟩) (List.replicate 101 kn1) := (SlS.grown s1 (Nat.le_refl _) hg (fun _ ad e => by cases e; exact hv)).more hg.size
    exact (SlS.grown s2 (Nat.le_refl _) (grown_setAt W' w.heap.size 1 _) (fun _ ad e => by cases e; intro e2; have h3 : w.heap.size = b := Option.some.inj e2; omega)).more (by simp)
  refine ⟨?_, ?_, ?_, ?_, ?_, fun x hx => ?_⟩
  · exact ((h.below.alloc h.below.size o).grown hg (by simp; omega) (fun k e => by have := (hlo k e).1; omega)).setCell (p := ⟨w.heap.size, 1, none⟩) (Nat.le_refl _) _
  · exact (World.cell?_setCell_other W' _ _ _ (fun e => by cases e)).trans ((World.cell?_of_block hb).trans h.c0)
  · have : W'.cell? ⟨w.heap.size, 1, none⟩ = some vo := (World.cell?_of_block hb).trans h.c1
    exact set_same this
  · rw [World.frozen?_setCell]; exact (World.frozen?_of_block hb).trans h.fz
  · rw [List.length_append, rowsW_snoc]
    exact ho.kept (grown_setAt W' w.heap.size 1 _) (Or.inr fun e => by have e' : g2 = w.heap.size := Option.some.inj e; omega)
  · rcases List.mem_append.1 hx with hx | hx
    · obtain ⟨a, b, c, d⟩ := h.rows x hx
      refine ⟨hsl x.1 b c a, fun e => ?_, c, d⟩
      have e' : g2 = x.1 := Option.some.inj e
      rcases hn with e2 | e2
      · exact b (by rw [e2, e'])
      · have := slt_lt a; omega
    · rw [List.mem_singleton.1 hx]
      have hs : SlT W W.heap.size (some ⟨g, 0, none⟩) (List.replicate 101 kn1) := SlS.of_own (cells4 _) (by rw [List.length_map, List.length_replicate]) r.own
      have hgl := r.own.lt g rfl
      have hv : vo.ownBlock ≠ some g := fun e => by
        rcases r.neO with e2 | e2
        · rw [e] at e2; cases e2
        · exact e2 e
      have hcap : 101 ≤ cap := by
        obtain ⟨a, c, e, h⟩ := own_slice r.own
        cases e; exact h
      refine ⟨hsl g hv (by omega) hs, fun e => ?_, by show w.heap.size < g; omega, hcap⟩
      have e' : g2 = g := Option.some.inj e
      rcases hn with e2 | e2
      · exact hv (by rw [e2, e'])
      · omega
theorem wide_slC {base b cap : Nat} {L : List (Nat × Nat)} {W : World} {n : Nat} (hown : W.ownsRow base 59 2 (.slice (some ⟨b, 0, none⟩) n cap) L.length (L.map rowW).flatten) (hrows : ∀ x ∈ L, SlT W W.heap.size (some ⟨x.1, 0, none⟩) (List.replicate 101 kn1) ∧ 101 ≤ x.2) (hn : n = L.length) (m : Nat) (hm : m ≤ L.length) : SlC W W.heap.size (some ⟨b, 0, none⟩) (List.replicate m (wideR 101)) := fun _ => by
  subst hn
  have hlt := (hown.lt b rfl).2
  refine ⟨b, 0, rfl, hlt, fun j r hr => ?_⟩
  have hj : j < m := by
    have := (List.getElem?_eq_some_iff.1 hr).1
    rwa [List.length_replicate] at this
  have hr' : r = wideR 101 := List.eq_of_mem_replicate (List.mem_of_getElem? hr)
  subst hr'
  have hx : L[j]? = some (L[j]'(by omega)) := List.getElem?_eq_getElem (by omega)
  generalize L[j]'(by omega) = x at hx
  obtain ⟨a, d⟩ := hrows x (List.mem_of_getElem? hx)
  have hz : (L.map rowW)[j]? = some (rowW x) := by rw [List.getElem?_map, hx]; rfl
  have hl2 : ∀ cs ∈ L.map rowW, cs.length = 2 := fun cs hcs => by
    obtain ⟨y, _, rfl⟩ := List.mem_map.1 hcs; rfl
  have f0 := flat_at hl2 hz (i := 0) (v := .bool false) rfl
  have f1 := flat_at hl2 hz (i := 1) (v := .slice (some ⟨x.1, 0, none⟩) 101 x.2) rfl
  refine ⟨some ⟨x.1, 0, none⟩, x.2, ?_, ?_, by show (List.replicate 101 kn1).length ≤ x.2; rw [List.length_replicate]; exact d, a⟩
  · rw [Nat.zero_add]; exact (hown.cellAt (j * 2 + 0) (by omega)).trans f0
  · rw [Nat.zero_add]; exact (hown.cellAt (j * 2 + 1) (by omega)).trans f1
theorem info_row : (Try.prog.info? 59).map (fun i => (i.zero, i.size, i.bytes)) = some (some (.agg #[.bool false, .slice none 0 0]), 2, 32) := by kernel_rfl
theorem wideR_wf (m : Nat) : RowsWf (List.replicate m (wideR 101)) := fun r hr s hs => by
  rw [List.eq_of_mem_replicate hr] at hs
  have h : s ∈ List.replicate 101 kn1 := hs
  rw [List.eq_of_mem_replicate h]; exact ⟨by decide, by decide⟩
theorem one_row (x : Nat × Nat) : ∀ v ∈ rowW x, v.oneCell' = true := by
  intro u hu
  simp only [rowW, List.mem_cons, List.not_mem_nil, or_false] at hu
  rcases hu with rfl | rfl <;> rfl
set_option maxHeartbeats 8000000 in
theorem wide_any (w : World) : Calls Try.prog 25 #[] w fun e w' => e = .returned (.bool true) ∧ Below w.heap.size w w' := by
  obtain ⟨i0, hi, hz0, hz1, hz2⟩ := info_parts info_stc
  obtain ⟨i1, hi', hz0', hz1', hz2'⟩ := info_parts info_row
  go_enter Try.func25, Try.ntmps25
  go_wp2
  have h0 : WideAt w (.slice none 0 0) [] (w.alloc (.cells #[.int .i64 101, .slice none 0 0] 40)) := by
    refine ⟨(Below.refl _ w).alloc (Nat.le_refl _) _, cell_new rfl rfl rfl, cell_new rfl rfl rfl, thawed_new' _ _ _ _ rfl, World.ownsRow_nil _ _ _ _, fun x hx => by cases hx⟩
  have H0 := Lib.hid h0
  clear h0
  go_loopw [2, 3, 4] (fun s2 s3 s4 wr => ∃ (i : Nat) (v3 v4 vo : Value) (L : List (Nat × Nat)), i ≤ 20 ∧ s2 = .int .i64 i ∧ v3 = s3 ∧ v4 = s4 ∧ Hid (L.length = i) ∧ Hid (WideAt w vo L wr)) (fun s2 _ _ _ => 20 - (intOf s2).toNat)
  case atStart => exact ⟨0, _, _, _, [], by omega, rfl, rfl, rfl, rfl, H0⟩
  case round =>
    obtain ⟨i, v3, v4, vo, L, hi20, rfl, rfl, rfl, hL, HW⟩ := hrel
    clear H0
    by_cases hlt : i < 20
    case pos =>
      have hd20 : decide ((i : Int) < 20) = true := decide_eq_true (by omega)
      go_wp2
      have HR0 : Hid (RowW w vo (.slice none 0 0) L 0 wr) := ⟨World.ownsRow_nil _ _ _ _, (by cases vo.ownBlock with | none => exact Or.inl rfl | some g => exact Or.inr (fun e => by cases e)), fun x hx e => by cases e⟩
      go_loopw [3, 4] (fun s3 s4 wr => ∃ (k : Nat) (vl : Value), k ≤ 101 ∧ s4 = .int .i64 k ∧ vl = s3 ∧ Hid (WideAt w vo L wr) ∧ Hid (RowW w vo vl L k wr)) (fun _ s4 _ => 101 - (intOf s4).toNat)
      case atStart => exact ⟨0, _, by omega, rfl, rfl, HW, HR0⟩
      case round =>
        clear HW HR0
        obtain ⟨k, vl, hk, rfl, rfl, HW, HR⟩ := hrel
        obtain ⟨W, rfl⟩ : ∃ W, W = wr := ⟨wr, rfl⟩
        by_cases hk1 : k < 101
        case pos =>
          have hkl : k < 101 := hk1
          go_wp2_with (at_builtin; refine wpList_append_lies _ rfl _ _ 57 rfl (w.heap.size + 1) 56 i0 (.agg #[.int .u8 0, .bool false, .int .i64 0, .int .i64 0]) 4 24 Try.underlying57 hi hz0 hz1 hz2 rfl (by decide) vl k (knC k) rfl (HR.out.own.alloc _) ⟨W.heap.size, 0, none⟩ 1 1 kn1.cells rfl rfl (newsT W _ _ _ rfl) (oneT _) (by decide) (by unfold maxLen; omega) (by omega) (by have := HW.out.lt; simp; omega) (W.heap.size + 1) (by simp) ?_; intro g cap w4 hown4 hgrow4 hor4 _; have HP := Lib.hid (wide_in HW.out HR.out hown4 hgrow4 hor4); clear hown4 hgrow4 hor4)
          go_roundw
          case rel => exact ⟨k + 1, .slice (some ⟨g, 0, none⟩) (k + 1) cap, by omega, by go_num, rfl, HP.out.1, HP.out.2⟩
          case measure => simp [intOf]; omega
        case neg =>
          obtain rfl : k = 101 := by omega
          obtain ⟨g, cap, rfl⟩ : ∃ g cap, vl = .slice (some ⟨g, 0, none⟩) 101 cap := by
            rcases HR.out.own.2 with ⟨_, h⟩ | ⟨g, cap, cur, h, _⟩
            · omega
            · exact ⟨g, cap, h⟩
          have hc0 := HW.out.c0
          have hc1 := HW.out.c1
          have hfz := HW.out.fz
          have HLt := Lib.hid (lt_of_cell hc0)
          go_wp2_with (at_builtin; refine wpList_append_lies _ rfl _ _ 38 rfl (w.heap.size + 1) 59 i1 (.agg #[.bool false, .slice none 0 0]) 2 32 Try.underlying38 hi' hz0' hz1' hz2' rfl (by decide) vo L.length (L.map rowW).flatten rfl (HW.out.own.alloc _) ⟨W.heap.size, 0, none⟩ 1 1 (rowW (g, cap)) rfl rfl (newsT W _ _ _ rfl) (one_row _) (by decide) (by have := hL.out; unfold maxLen; omega) (by have := hL.out; omega) (by have := HLt.out; simp; omega) (W.heap.size + 1) (by simp) ?_; intro g2 cap2 w4 hown4 hgrow4 hor4 _; have HP := Lib.hid (wide_out HW.out HR.out hown4 hgrow4 hor4); have hc4 : w4.cell? ⟨w.heap.size, 1, none⟩ = some vo := (World.cell?_of_block (hgrow4.block w.heap.size (by have := HLt.out; simp; omega) (fun e => by have := (HW.out.own.lt _ e.symm).1; omega))).trans (cell_al hc1 _); have hf4 : w4.frozen? ⟨w.heap.size, 1, none⟩ = false := (World.frozen?_of_block (hgrow4.block w.heap.size (by have := HLt.out; simp; omega) (fun e => by have := (HW.out.own.lt _ e.symm).1; omega))).trans ((Below.frozen ((Below.refl W.heap.size W).alloc (Nat.le_refl _) _) (p := ⟨w.heap.size, 1, none⟩) HLt.out).trans hfz); clear hown4 hgrow4 hor4)
          go_roundw
          case rel => exact ⟨i + 1, _, _, .slice (some ⟨g2, 0, none⟩) (L.length + 1) cap2, L ++ [(g, cap)], by omega, by go_num, rfl, rfl, (by have := hL.out; unfold Hid; rw [List.length_append]; simp; omega), HP⟩
          case measure => simp [intOf]; omega
    case neg =>
      obtain rfl : i = 20 := by omega
      obtain ⟨b, cap, rfl⟩ : ∃ b cap, vo = .slice (some ⟨b, 0, none⟩) 20 cap := by
        rcases HW.out.own.2 with ⟨_, h⟩ | ⟨g, cap, cur, h, _⟩
        · have := hL.out; omega
        · exact ⟨g, cap, by rw [h, hL.out]⟩
      have HS : Hid (∀ m, m ≤ 20 → SlC wr wr.heap.size (some ⟨b, 0, none⟩) (List.replicate m (wideR 101))) := fun m hm => wide_slC HW.out.own (fun x hx => ⟨(HW.out.rows x hx).1, (HW.out.rows x hx).2.2.2⟩) hL.out.symm m (by have := hL.out; omega)
      have hc0 := HW.out.c0
      have hc1 := HW.out.c1
      have hfz := HW.out.fz
      have hlt0 := HW.out.lt
      have hcap : 20 ≤ cap := by
        have ho := HW.out.own
        rw [hL.out] at ho
        obtain ⟨a, c, e, h⟩ := own_slice ho
        cases e; exact h
      have HB := Lib.hid HW.out.below
      clear hlt
      have h20 := compile_any 101 (some ⟨b, 0, none⟩) cap (List.replicate 20 (wideR 101)) (wideR_wf 20) (Or.inr turn_any) wr (HS.out 20 (by omega))
      rw [List.length_replicate] at h20
      have H20 := Lib.hid h20
      clear h20
      go_wp2_with fail
      refine H20.out.mono ?_
      rintro e w1 ⟨A1, c1, rfl, _, _, hb1⟩
      rw [wide_20]
      have hd0 := (bcell hb1 hlt0 _).trans hc0
      have hd1 := (bcell hb1 hlt0 _).trans hc1
      have hdf := (Below.frozen hb1 (p := ⟨w.heap.size, 1, none⟩) hlt0).trans hfz
      have hz1 := hb1.size
      have HB1 := Lib.hid hb1
      clear hc0 hc1 hfz hb1 H20
      generalize (compO 101 (List.replicate 20 (wideR 101))).length = L20
      go_wp2_with fail
      have hb0 : w.heap.size + 1 ≤ b := ((HW.out.to HB1.out).own.lt b rfl).1
      have hg := grown_setAt w1 w.heap.size 1 (.slice (some ⟨b, 0, none⟩) 18 cap)
      have hS2 : SlC (w1.setCell ⟨w.heap.size, 1, none⟩ (.slice (some ⟨b, 0, none⟩) 18 cap)) (w1.setCell ⟨w.heap.size, 1, none⟩ (.slice (some ⟨b, 0, none⟩) 18 cap)).heap.size (some ⟨b, 0, none⟩) (List.replicate 18 (wideR 101)) := by
        refine wide_slC ((HW.out.to HB1.out).own.kept hg (Or.inr fun e => by have e' : b = w.heap.size := Option.some.inj e; omega)) (fun x hx => ?_) hL.out.symm 18 (by have := hL.out; omega)
        obtain ⟨a, _, c, d⟩ := (HW.out.to HB1.out).rows x hx
        exact ⟨(SlS.grown a (Nat.le_refl _) hg (fun _ ad e => by cases e; intro e2; have e3 : w.heap.size = x.1 := Option.some.inj e2; omega)).more hg.size, d⟩
      have h18 := compile_any 101 (some ⟨b, 0, none⟩) cap (List.replicate 18 (wideR 101)) (wideR_wf 18) (Or.inr turn_any) _ hS2
      rw [List.length_replicate] at h18
      have hbs : Below w.heap.size w (w1.setCell ⟨w.heap.size, 1, none⟩ (.slice (some ⟨b, 0, none⟩) 18 cap)) := (HB.out.trans (HB1.out.mono (Nat.le_of_lt hlt0))).setCell (p := ⟨w.heap.size, 1, none⟩) (Nat.le_refl _) _
      have HBs := Lib.hid hbs
      clear hS2 hg hbs HW hL HS HB HB1
      refine h18.mono ?_
      rintro e w2 ⟨A2, c2, rfl, _, _, hb2⟩
      rw [wide_18.1, wide_18.2]
      have HB2 := Lib.hid (HBs.out.trans (hb2.mono HBs.out.size))
      clear hb2 h18 HBs hd0 hd1 hdf
      go_wp2
      go_ret
      exact ⟨ret_bool (by simp [*]), HB2.out⟩
end Go.Proofs.Ytbnddpknejgmhaa
