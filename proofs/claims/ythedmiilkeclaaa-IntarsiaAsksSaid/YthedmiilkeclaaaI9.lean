/- Layer 34, contracts: Longest, checked, Bindings of the program. -/
import Derived.Test.YthedmiilkeclaaaI8
namespace Go.Proofs.Ythedmiilkeclaaa
open Go.RowKit Go.Shelf
open Go.Proofs.Ythedmiilkeclaaa.I34
attribute [local go_sem] Oper.semAt_some
set_option maxRecDepth 100000

def maxF (l : List F101) : Nat := (l.map (·.1)).foldl max 0
theorem maxF_snoc (l : List F101) (x : F101) : maxF (l ++ [x]) = max (maxF l) x.1 := by simp [maxF]
theorem lens_bound {p : List (List Int)} (hp : chk p = 0) : ∀ n ∈ lens p, n ≤ 100 := by
  intro n hn
  unfold lens at hn
  rw [List.mem_flatMap] at hn
  obtain ⟨row, hr, hn⟩ := hn
  rw [List.mem_flatMap] at hn
  obtain ⟨c, _, hn⟩ := hn
  unfold rowLens at hn
  rw [List.mem_map] at hn
  obtain ⟨f, hf, rfl⟩ := hn
  obtain ⟨j, hj⟩ := List.mem_iff_getElem?.1 hf
  have := Row.bounds (flo_row row _) hj
  have := ((chk_zero hp).2 row hr).2
  unfold lenOf; omega
theorem toF_val {l : List Nat} (h : ∀ n ∈ l, n ≤ 100) : (toF l).map (·.1) = l := by
  unfold toF
  rw [List.map_map]
  conv => rhs; rw [← List.map_id l]
  apply List.map_congr_left
  intro n hn
  have := h n hn
  simp only [Function.comp, id]
  omega
theorem maxF_lens {p : List (List Int)} (hp : chk p = 0) : maxF (toF (lens p)) = longest p := by
  unfold maxF longest
  rw [toF_val (lens_bound hp)]

def lonR (p : List (List Int)) : Int × Int := if chk p ≠ 0 then (0, chk p) else ((longest p : Int), 0)
theorem lonR_e {p : List (List Int)} (h : chk p ≠ 0) : lonR p = (0, chk p) := by rw [lonR, if_pos h]
theorem lonR_ok {p : List (List Int)} (h : chk p = 0) : lonR p = ((longest p : Int), 0) := by rw [lonR, if_neg (by simpa using h)]

set_option maxHeartbeats 2000000 in
theorem Longest_any (A : Option Addr) (c : Nat) (p : List (List Int)) (w : World) (h : SlRows w w.heap.size A p) (hrl : ∀ row ∈ p, row.length ≤ 4611686018427387904) :
    Calls Try.prog 10 #[.slice A p.length c] w fun e w' => e = .returned (.tuple #[.int .i64 (lonR p).1, .int .i64 (lonR p).2]) ∧ Below w.heap.size w w' := by
  have hcall := check_any A c p w h hrl
  by_cases he : chk p = 0
  · rw [he] at hcall
    have HF := Lib.hid (lonR_ok he)
    refine (callsIn_wide (n := 3)).1 ?_
    refine callsIn_of_wp_marks Try.func10 rfl trivial ?_ rfl
    simp only [Try.ntmps10, List.size_toArray, List.length_cons, List.length_nil, Nat.reduceAdd, Nat.reduceSub, Array.replicate_succ, Array.replicate_zero, List.push_toArray, List.append_toArray, List.nil_append, List.cons_append]
    have HC := Lib.hid hcall
    clear hcall
    gi_wp2_with fail
    refine ⟨trivial, (wide_calls HC.out).mono ?_⟩
    rintro e w' ⟨rfl, rfl⟩
    gi_wp2_with fail
    refine ⟨trivial, (wide_calls (lengths_any A p.length c _)).mono ?_⟩
    rintro e w' ⟨rfl, rfl⟩
    gi_wp2
    have hcn := cell_new_l w (.int .i64 0) 3
    have hbn := cell_new_l (w.alloc (.cells #[.int .i64 0] 3)) (.slice A p.length c) 22
    rw [World.size_alloc] at hbn
    have hBw : Below w.heap.size w ((w.alloc (.cells #[.int .i64 0] 3)).alloc (.cells #[.slice A p.length c] 22)) := ((Below.refl _ w).alloc (Nat.le_refl _) _).alloc (by simp) _
    refine wpIn_rangeFunc_ownF rfl (by omega) (gf := 36) (lb := #[.pointer (some ⟨w.heap.size + 1, 0, none⟩)]) rfl trivial (enters_of Try.func36 (by kernel_rfl) rfl)
      (lengths_stops (3 - 1) (by omega) (w.heap.size + 1) w.heap.size w.heap.size A c p he _ (by simp) (by simp; omega) (Nat.le_refl _) hbn.1 (h.below hBw)) KC.trans (fun W l o o' _ hl ho _ => KC.put W l o o' hl ho) (Below.refl _ _) (fun _ => rfl)
      (fun pre W => (W.cell? ⟨w.heap.size, 0, none⟩ = some (.int .i64 (maxF pre : Nat)) ∧ W.frozen? ⟨w.heap.size, 0, none⟩ = false) ∧ Below w.heap.size w W)
      (fun _ _ _ => False)
      (OwnFrom.and (Own.from (fun s A B row hs hg hr => ⟨cell_kept hs.1 hg hr, (frozen_kept hs.1 hg hr).trans hs.2⟩) _) (ownFrom_below (Nat.le_refl _) (by simp; omega)))
      (fun _ _ _ _ _ hs _ _ => hs)
      ⟨⟨cell_alloc_l _ hcn.1, frozen_alloc_l _ hcn.1 hcn.2⟩, hBw⟩
      (fun x => { tmps := #[.slice A p.length c, undef, .int .i64 0, .int .i64 0, .int .i64 0, .pointer (some ⟨w.heap.size, 0, none⟩), .int .i64 ((x.1 : Nat) : Int), .slice A p.length c, .int .i64 0, .int .i64 0, .bool false, undef, .slice A p.length c,
        .func (.func 36) #[] #[.pointer (some ⟨w.heap.size + 1, 0, none⟩)], .int .i64 ((x.1 : Nat) : Int), undef, undef, undef, undef], defers := [] }) ?assign ?body ?done ?stop
    case assign =>
      intro l x W K hK
      unfold encF
      gi_wp2
      exact hK
    case body =>
      rintro l pre x W ⟨⟨hc, hf⟩, hB⟩ _
      have HB := Lib.hid hB
      clear hB
      have hset : ∀ v, (W.setCell ⟨w.heap.size, 0, none⟩ v).cell? ⟨w.heap.size, 0, none⟩ = some v := fun v => World.cell?_setCell_same' _ _ _ (by rw [hc]; rfl)
      have HS := Lib.hid hset
      clear hset
      gi_wp2
      all_goals
        refine ⟨KeepsOthers.setCell _ _ _, KC.set_ _ _ _, ⟨?_, by rw [World.frozen?_setCell]; exact hf⟩, HB.out.setCell (p := ⟨w.heap.size, 0, none⟩) (Nat.le_refl _) _⟩
        rw [HS.out, maxF_snoc]
        congr 2
        omega
    case done =>
      rintro D ys W hD rfl ⟨⟨hc, _⟩, hB⟩ hK
      rw [maxF_lens he] at hc
      gi_wp2
      refine ⟨by simp, .inl ⟨_, _, rfl, run_takeDeferred hK, ?_⟩⟩
      exact ⟨_, results_tmp2 rfl _ _ _, by rw [HF.out]; rfl, hB.trans (belowK_b (w := w) (Nat.le_refl _) W D _ _ (by simp at hD; omega) hK rfl rfl)⟩
    case stop =>
      rintro D c pre W _ _ h _
      exact h.elim
  · have HF := Lib.hid (lonR_e he)
    have hb0 : (chk p == 0) = false := beq_eq_false_iff_ne.2 he
    clear he h hrl
    generalize chk p = ec at hcall HF hb0
    go_enter Try.func10, Try.ntmps10
    go_wp2_with (go_at_call 14; refine hcall.mono ?_; rintro e w' ⟨rfl, rfl⟩)
    go_ret2
    exact ⟨by rw [HF.out]; rfl, Below.refl _ _⟩
end Go.Proofs.Ythedmiilkeclaaa
