/- Layer 26: Check of a chart. -/
import Derived.Test.YtbnddpknejgmhaaCh1
namespace Go.Proofs.Ytbnddpknejgmhaa
open Go.RowKit Go.Shelf
attribute [local go_sem] Oper.semAt_some
set_option maxRecDepth 100000

theorem items_ok : ∀ (i : Nat) (n : Int) (p : List RowC), (∀ x ∈ itemsF i n p, x.e = 0) → errR n p = 0
  | _, _, [], _ => rfl
  | i, n, r :: t, h => by
    have h0 : rowE n r.2 = 0 := h _ (by simp only [itemsF]; exact List.mem_cons_self)
    simp only [errR]
    rw [if_pos h0]
    refine items_ok (i + 1) _ t fun x hx => h x ?_
    simp only [itemsF]
    rw [if_pos h0]
    exact List.mem_cons_of_mem _ hx
theorem items_stop : ∀ (i : Nat) (n : Int) (p : List RowC) (pre : List Cnt) (x : Cnt), pre ++ [x] <+: itemsF i n p → x.e ≠ 0 → errR n p = x.e
  | _, _, [], pre, x, h, _ => by
    have := h.length_le
    simp [itemsF] at this
  | i, n, r :: t, pre, x, h, hx => by
    simp only [itemsF] at h
    simp only [errR]
    cases pre with
    | nil =>
      rw [List.nil_append, List.cons_prefix_cons] at h
      have e : x.e = rowE n r.2 := by rw [h.1]
      rw [if_neg (by rw [← e]; exact hx), e]
    | cons y pre =>
      rw [List.cons_append, List.cons_prefix_cons] at h
      by_cases h0 : rowE n r.2 = 0
      · rw [if_pos h0] at h ⊢
        exact items_stop (i + 1) _ t pre x h.2 hx
      · rw [if_neg h0] at h
        have := h.2.length_le
        simp at this

theorem set_cell_own {W : World} {B : Nat} {row : Option Nat} {W' : World} {o : Nat} {v : Value} (h : W.cell? ⟨B, o, none⟩ = some v) (hg : W.grownBy W' row) (hr : ∀ r, row = some r → ∃ o : Obj, W.heap[r]? = some o ∧ o.isCells = false) : W'.cell? ⟨B, o, none⟩ = some v := cell_kept h hg hr

/-- What the frame holds in a round of Check's. -/
def CheckAx (w : World) (start : Int) (A : Option Addr) (n c : Nat) (x : Cnt) (a' : Act) (W : World) : Prop :=
  ∃ xb : Nat, a' = { tmps := #[.agg #[.int .i64 start, .slice A n c], .pointer (some ⟨w.heap.size, 0, none⟩), .pointer (some ⟨w.heap.size + 1, 0, none⟩), undef, .pointer (some ⟨xb, 0, none⟩), .pointer (some ⟨w.heap.size, 1, none⟩), .slice A n c, .int .i64 n, .bool false, .pointer (some ⟨w.heap.size, 0, none⟩), .int .i64 start, .bool false, .bool false, .pointer (some ⟨w.heap.size, 0, none⟩), .int .i64 start, .bool false, .bool false, .agg #[.int .i64 start, .slice A n c], .func (.func 69) #[] #[.pointer (some ⟨w.heap.size + 1 + 1, 0, none⟩)], .int .i64 x.i, .agg #[.int .i64 x.before, .int .i64 x.after, .int .i64 x.e], undef, undef, undef, undef, undef], defers := [] } ∧
    W.cell? ⟨xb, 2, none⟩ = some (.int .i64 x.e) ∧ w.heap.size + 2 < xb

theorem res_check {tmps : Array Value} {W : World} {b : Nat} {e : Int} (h2 : tmps[2]?.getD undef = .pointer (some ⟨b, 0, none⟩)) (hc : W.cell? ⟨b, 0, none⟩ = some (.int .i64 e)) :
    (results Try.f33 tmps).run Try.prog W = .ok (.int .i64 e) W := by
  simp [results, Try.results33, go_sem, h2, hc]
set_option maxHeartbeats 4000000 in
theorem ccheck_any (start : Int) (A : Option Addr) (c : Nat) (p : List RowC) (hw : RowsWf p) (w : World) (hs : SlC w w.heap.size A p) :
    Calls Try.prog 33 #[.agg #[.int .i64 start, .slice A p.length c]] w fun e w' => RetE (chartE start p) w e w' := by
  have hbl := Lib.hid (fun o o2 => ((Below.refl w.heap.size w).alloc (Nat.le_refl _) o).alloc (by simp) o2)
  by_cases h1 : 100 < p.length
  · have HE : Hid (chartE start p = 4) := by unfold Hid chartE; rw [if_pos h1]
    clear hs hw
    go_enter Try.func33, Try.ntmps33
    go_wp2
    exact bodyPost_ret (v := .int .i64 4) (by simp [results, Try.results33, go_sem]) rfl (RetE.mk' HE.out (hbl.out _ _))
  by_cases h2 : start < 0
  · have HE : Hid (chartE start p = 8) := by unfold Hid chartE; rw [if_neg h1, if_pos (Or.inl h2)]
    clear hs hw
    go_enter Try.func33, Try.ntmps33
    go_wp2
    exact bodyPost_ret (v := .int .i64 8) (by simp [results, Try.results33, go_sem]) rfl (RetE.mk' HE.out (hbl.out _ _))
  by_cases h3 : 200 < start
  · have HE : Hid (chartE start p = 8) := by unfold Hid chartE; rw [if_neg h1, if_pos (Or.inr h3)]
    clear hs hw
    go_enter Try.func33, Try.ntmps33
    go_wp2
    exact bodyPost_ret (v := .int .i64 8) (by simp [results, Try.results33, go_sem]) rfl (RetE.mk' HE.out (hbl.out _ _))
  have HE : Hid (chartE start p = errR start p) := by unfold Hid chartE; rw [if_neg h1, if_neg (by omega)]
  refine (callsIn_wide (n := 3)).1 ?_
  refine callsIn_of_wp_marks Try.func33 rfl trivial ?_ rfl
  simp only [Try.ntmps33, List.size_toArray, List.length_cons, List.length_nil, Nat.reduceAdd, Nat.reduceSub, Array.replicate_succ, Array.replicate_zero, List.push_toArray, List.append_toArray, List.nil_append, List.cons_append]
  have h100 : decide (100 < (p.length : Int)) = false := decide_eq_false (by omega)
  have HS := Lib.hid hs
  have HW := Lib.hid hw
  clear hs hw
  gi_wp2_with fail
  refine ⟨trivial, (wide_calls (counted_any start A p.length c _)).mono ?_⟩
  rintro e w' ⟨rfl, rfl⟩
  gi_wp2
  refine abs_world (Q := fun W => Code.wpIn _ _ _ _ _ _ W) (F := fun W => W.heap.size = w.heap.size + 3 ∧ W.cell? ⟨w.heap.size + 1, 0, none⟩ = some (.int .i64 0) ∧ W.frozen? ⟨w.heap.size + 1, 0, none⟩ = false ∧ W.cell? ⟨w.heap.size + 1 + 1, 0, none⟩ = some (.int .i64 start) ∧ W.cell? ⟨w.heap.size + 1 + 1, 1, none⟩ = some (.slice A p.length c) ∧ Below w.heap.size w W) _ ?_ ?_
  · exact ⟨by simp, cell_old rfl (cell_new rfl (by simp) rfl), (Below.frozen (B := w.heap.size + 2) ((Below.refl _ _).alloc (by simp) _) (by show w.heap.size + 1 < _; omega)).trans (thawed_new' _ _ _ 0 (by simp)), cell_new rfl (by simp) rfl, cell_new rfl (by simp) rfl, (((Below.refl _ w).alloc (Nat.le_refl _) _).alloc (by simp) _).alloc (by simp; omega) _⟩
  rintro w3 ⟨hz3, hr0, hrf, hb0, hb1, hB3⟩
  have HR0 := Lib.hid hr0
  have HRF := Lib.hid hrf
  have HB3 := Lib.hid hB3
  have HZ3 := Lib.hid hz3
  refine wpIn_rangeFunc_ownH rfl (by omega) (gf := 69) (lb := #[.pointer (some ⟨w.heap.size + 1 + 1, 0, none⟩)]) rfl trivial (enters_of Try.func69 (by kernel_rfl) rfl)
    (counted_stops (3 - 1) (by omega) (w.heap.size + 1 + 1) w.heap.size (w.heap.size + 1) start A c p HW.out (by omega) w3 (by omega) (by omega) (by omega) hb0 hb1 (HS.out.below hB3)) KC.trans (fun W l o o' _ hl ho _ => KC.put W l o o' hl ho) (Below.refl _ _) (fun _ => rfl)
    (fun pre W => Below w3.heap.size w3 W ∧ ∀ x ∈ pre, x.e = 0)
    (fun c pre W => (c = .ret ∧ ∃ pre' x, pre = pre' ++ [x] ∧ x.e ≠ 0 ∧ W.cell? ⟨w.heap.size + 1, 0, none⟩ = some (.int .i64 x.e)) ∧ Below w.heap.size w W)
    (OwnFrom.and (ownFrom_below (Nat.le_refl _) (Nat.le_refl _)) (ownFrom_pure _ _))
    (fun _ => OwnFrom.and (Own.from (fun s A B row hs hg hr => by
      obtain ⟨h1, pre', x, h2, h3, h4⟩ := hs
      exact ⟨h1, pre', x, h2, h3, cell_kept h4 hg hr⟩) _) (ownFrom_below (Nat.le_refl _) (by omega)))
    ⟨Below.refl _ _, fun x hx => by cases hx⟩
    (CheckAx w start A p.length c)
    (fun x a' s W W' row hs hg hr => by
      obtain ⟨xb, h1, h2, h3⟩ := hs
      exact ⟨xb, h1, cell_kept h2 hg (fun r e => (hr r e).2), h3⟩) ?assign ?body ?done ?stop
  case assign =>
    intro l pre x W K hi hK
    have HI := Lib.hid hi
    clear hi
    unfold encC
    gi_wp2
    refine hK _ _ (KeepsFrom.of_grownBy (World.grownBy_alloc W _ none) (fun r e => by cases e)) (KC.of_below ((Below.refl _ W).alloc (Nat.le_refl _) _)) ⟨HI.out.1.alloc HI.out.1.size _, HI.out.2⟩ ⟨W.heap.size, rfl, cell_new rfl rfl rfl, ?_⟩
    have := HI.out.1.size
    have := HZ3.out
    omega
  case body =>
    rintro l pre x a' W _ _ ⟨hBW, hall⟩ ⟨xb, rfl, hc2, hxb⟩ _
    have hrc := (bcell hBW (by omega) _).trans hr0
    have hrfz := (Below.frozen hBW (by show w.heap.size + 1 < _; omega)).trans hrf
    have HBW := Lib.hid hBW
    clear hBW hr0 hrf hb0 hb1 hB3 hz3
    by_cases he : x.e = 0
    · have HAll : Hid (∀ y ∈ pre ++ [x], y.e = 0) := fun y hy => by
        rcases List.mem_append.1 hy with h | h
        · exact hall y h
        · rw [List.mem_singleton.1 h]; exact he
      rw [he] at hc2
      clear hall
      generalize x.e = xe at he
      gi_wp2
      exact ⟨KeepsFrom.refl _ _, KC.refl _ _, HBW.out, HAll.out⟩
    · have heb : (x.e != 0) = true := by simp [he]
      have heb2 : (x.e == 0) = false := by simp [he]
      have HNe := Lib.hid he
      clear hall he
      gi_wp2
      refine ⟨KeepsFrom.of_grownBy (grownBy_setCell' W (w.heap.size + 1) _) (fun r e => by cases e; have := HZ3.out; omega), ⟨rfl, pre, x, rfl, HNe.out, ?_⟩, (HB3.out.trans (HBW.out.mono (by have := HZ3.out; omega))).setCell (p := ⟨w.heap.size + 1, 0, none⟩) (by simp) _⟩
      exact World.cell?_setCell_same' _ _ _ (by rw [hrc]; rfl)
  case done =>
    rintro D xs W hD rfl ⟨hBW, hall⟩ hK
    have HF : Hid (chartE start p = 0) := by unfold Hid; rw [HE.out]; exact items_ok _ _ _ hall
    have hrc := (bcell hBW (by omega) _).trans hr0
    have hrfz := (Below.frozen hBW (by show w.heap.size + 1 < _; omega)).trans hrf
    have HBW := Lib.hid hBW
    have HZ := Lib.hid hz3
    clear hBW hr0 hrf hb0 hb1 hB3 hz3 hall
    gi_wp2
    have hK' : (W.setCell ⟨w.heap.size + 1, 0, none⟩ (.int .i64 0)).heap[D]? = some (.deferred (some [])) := (Below.heap_setCell W _ _ D (by have := HZ.out; simp; omega)).trans hK
    refine ⟨by simp, .inl ⟨_, _, rfl, run_takeDeferred hK', ?_⟩⟩
    refine ⟨_, res_check rfl ((World.cell?_of_block (World.putObj_heap_other (by have := HZ.out; simp; omega))).trans (World.cell?_setCell_same' _ _ _ (by rw [hrc]; rfl))), RetE.mk' HF.out ?_⟩
    exact ((HB3.out.trans (HBW.out.mono (by have := HZ.out; omega))).setCell (p := ⟨w.heap.size + 1, 0, none⟩) (by simp) _).trans (belowK_b (w := w) (Nat.le_refl _) _ D _ _ (by have := HZ.out; omega) hK' rfl rfl)
  case stop =>
    rintro D c' pre W hD hSp ⟨⟨rfl, pre', x, rfl, hne, hc⟩, hB⟩ hK
    have HF : Hid (chartE start p = x.e) := by unfold Hid; rw [HE.out]; exact items_stop _ _ _ _ _ hSp hne
    gi_wp2
    refine ⟨by simp, .inl ⟨_, _, rfl, run_takeDeferred hK, ?_⟩⟩
    refine ⟨_, res_check rfl ((World.cell?_of_block (World.putObj_heap_other (by simp; omega))).trans hc), RetE.mk' HF.out ?_⟩
    exact hB.trans (belowK_b (w := w) (Nat.le_refl _) _ D _ _ (by omega) hK rfl rfl)
end Go.Proofs.Ytbnddpknejgmhaa
