/- slices.Delete at needles and carriers. -/
import Derived.Test.YtbnddpknejgmhaaGreatKP2
namespace Go.Proofs.YtbnddpknejgmhaaGreat
open Go.RowKit Go.Shelf
set_option maxRecDepth 100000
theorem ret_sl {a : Option Addr} {n m c : Nat} (h : n = m) : Ending.returned (.slice a n c) = .returned (.slice a m c) := by rw [h]

theorem info_H : (Tryz.prog.info? 87).map (fun i => (i.zero, i.size, i.bytes)) = some (some (.agg #[.int .u8 0, .int .i64 0, .slice none 0 0]), 3, 40) := by kernel_rfl
theorem size_H : (Tryz.prog.info? 87).map (·.size) = some 3 := by kernel_rfl
theorem zero_H (w : World) : (zeroValue 87).run Tryz.prog w = .ok (.agg #[.int .u8 0, .int .i64 0, .slice none 0 0]) w := by kernel_rfl
set_option maxHeartbeats 4000000 in
theorem deleteH_any (B g n c i : Nat) (xs : List Value) (h1 : ∀ v ∈ xs, v.oneCell' = true) (hn : n ≤ 10000) (w : World) (hl : w.ownsRow B 87 3 (.slice (some ⟨g, 0, none⟩) n c) n xs) (hi : i < n) (j : Nat) (hj : j = i + 1) :
    Calls Tryz.prog 69 #[.slice (some ⟨g, 0, none⟩) n c, .int .i64 i, .int .i64 j] w fun e w' =>
      e = .returned (.slice (some ⟨g, 0, none⟩) (n - 1) c) ∧ w'.ownsRow B 87 3 (.slice (some ⟨g, 0, none⟩) (n - 1) c) (n - 1) (xs.take (i * 3) ++ xs.drop (j * 3)) ∧ w.grownBy w' (some g) := by
  obtain ⟨cur, hg, hBg, hnc, hcm, hcs, htk, hxl⟩ := own_whole hl
  obtain ⟨i0, hi0, hz0, hz1, hz2⟩ := info_parts info_H
  unfold maxLen at hcm
  have hdl : (xs.drop (j * 3)).length = (n - j) * 3 := by rw [List.length_drop, hxl]; omega
  have hsrc : ∀ off, (c = j ∧ off = 0 ∨ off = j * 3) → ∀ t u, (xs.drop (j * 3))[t]? = some u → w.drew.cell? ((⟨g, off, none⟩ : Addr).add t) = some u := fun off ho t u hu => by
    have ht := (List.getElem?_eq_some_iff.1 hu).1
    rw [hdl] at ht
    rcases ho with ⟨h, _⟩ | rfl
    · omega
    · rw [addr_plus]
      rw [List.getElem?_drop, ← htk, List.getElem?_take] at hu
      split at hu
      · show w.cell? _ = some u
        rw [cell_whole hg]; simpa using hu
      · cases hu
  have hnw : ∀ u ∈ xs.drop (j * 3), u.oneCell' = true := fun u hu => h1 u (List.mem_of_mem_drop hu)
  obtain ⟨c1, hc1⟩ : ∃ c1, c1 = (cur.toList.take (i * 3) ++ xs.drop (j * 3) ++ cur.toList.drop (i * 3 + (xs.drop (j * 3)).length)).toArray := ⟨_, rfl⟩
  have hrun : ∀ ty off cc, (c = j ∧ off = 0 ∨ off = j * 3) → (Builtin.append_ #[35, 35] ty #[.slice (some ⟨g, 0, none⟩) i c, .slice (some ⟨g, off, none⟩) (n - j) cc]).run Tryz.prog w.drew =
      .ok (.slice (some ⟨g, 0, none⟩) (i + (n - j)) c) (w.drew.setRow g c1) := fun ty off cc ho => by
    rw [hc1]
    have := run_append_room (P := Tryz.prog) w.drew 35 ty 87 i0 Tryz.underlying35 hi0 g i c cur hg ⟨g, off, none⟩ (n - j) cc (xs.drop (j * 3)) (by rw [hz1]; exact hdl) (hsrc off ho) hnw (by omega) (by rw [hz1, hdl, hcs]; omega)
    rw [hz1] at this
    exact this
  have hc1s : c1.size = c * 3 := by
    rw [hc1]; simp; rw [hxl]; omega
  have hc1t : c1.toList.take ((n - 1) * 3) = xs.take (i * 3) ++ xs.drop (j * 3) := by
    rw [hc1]
    have e1 : cur.toList.take (i * 3) = xs.take (i * 3) := by rw [← htk, List.take_take, Nat.min_eq_left (by omega)]
    rw [e1, List.take_append_of_le_length (by rw [List.length_append, hdl, List.length_take, hxl]; omega), List.take_of_length_le (by rw [List.length_append, hdl, List.length_take, hxl]; omega)]
  have hg1 : (w.drew.setRow g c1).heap[g]? = some (.cells c1 87 (0, 0)) := heap_setRow (w := w.drew) hg
  have hcl : ∀ ty, (Builtin.clear_ #[35] ty #[.slice (some ⟨g, (i + (n - j)) * 3, none⟩) (n - (i + (n - j))) (c - (i + (n - j)))]).run Tryz.prog (w.drew.setRow g c1) = .ok (.tuple #[]) ((w.drew.setRow g c1).setRow g (splice c1.toList ((n - 1) * 3) [Value.int .u8 0, .int .i64 0, .slice none 0 0]).toArray) := fun ty => by
    rw [show i + (n - j) = n - 1 by omega, show n - (n - 1) = 1 by omega]
    exact run_clear_rowk (P := Tryz.prog) _ 35 87 ty _ Tryz.underlying35 zero_H g ((n - 1) * 3) _ c1 _ [Value.int .u8 0, .int .i64 0, .slice none 0 0] hg1 (by kernel_rfl) (by rw [hc1s]; show (n - 1) * 3 + 3 ≤ _; omega) (by intro v hv; simp only [List.mem_cons, List.not_mem_nil, or_false] at hv; rcases hv with rfl | rfl | rfl <;> rfl)
  have HF : Hid ((((w.drew.setRow g c1).setRow g (splice c1.toList ((n - 1) * 3) [Value.int .u8 0, .int .i64 0, .slice none 0 0]).toArray)).ownsRow B 87 3 (.slice (some ⟨g, 0, none⟩) (n - 1) c) (n - 1) (xs.take (i * 3) ++ xs.drop (j * 3)) ∧ w.grownBy ((w.drew.setRow g c1).setRow g (splice c1.toList ((n - 1) * 3) [Value.int .u8 0, .int .i64 0, .slice none 0 0]).toArray) (some g)) := by
    have h3 : ((n - 1) * 3) + ([Value.int .u8 0, .int .i64 0, .slice none 0 0] : List Value).length ≤ c1.toList.length := by show (n - 1) * 3 + 3 ≤ _; rw [Array.length_toList, hc1s]; omega
    refine ⟨?_, grown_trans (w' := w.drew) ⟨rfl, rfl, rfl, Nat.le_refl _, fun _ _ _ => rfl⟩ (grown_trans (grown_setRow w.drew g c1) (grown_setRow _ g _))⟩
    have := own_of_whole (B := B) (n := n - 1) (c := c) (sz := 3) (heap_setRow (cs := (splice c1.toList ((n - 1) * 3) [Value.int .u8 0, .int .i64 0, .slice none 0 0]).toArray) hg1) hBg (by omega) (by unfold maxLen; omega) (by rw [splice_len h3, Array.length_toList, hc1s])
    rw [splice_take (by omega) (Nat.le_refl _), hc1t] at this
    exact this
  have HR : Hid (∀ ty off cc, (c = j ∧ off = 0 ∨ off = j * 3) → (Builtin.append_ #[35, 35] ty #[.slice (some ⟨g, 0, none⟩) i c, .slice (some ⟨g, off, none⟩) (n - j) cc]).run Tryz.prog w.drew =
      .ok (.slice (some ⟨g, 0, none⟩) (i + (n - j)) c) (w.drew.setRow g c1)) := hrun
  have hic : ¬ c = i := by omega
  have hq1 : i ≤ c := by omega
  have hq2 : j ≤ c := by omega
  have hq3 : j ≤ n := by omega
  have hq4 : i ≤ n := by omega
  have hq5 : i ≤ j := by omega
  have hnc1 : ¬ c = i + (n - j) := by omega
  have hij : ¬ i = j := by omega
  have hle : i + (n - j) ≤ n := by omega
  have HE : Hid (i + (n - j) = n - 1) := by unfold Hid; omega
  have hself : c = j → w.drew.setRow g c1 = w.drew := fun e => by
    have e2 : c1 = cur := by
      rw [hc1]
      apply Array.toList_inj.1
      have e3 : (xs.drop (j * 3)) = [] := List.drop_eq_nil_of_le (by rw [hxl]; omega)
      rw [e3]; simp
    rw [e2]
    exact setRow_self w.drew g cur _ _ hg
  clear hrun hc1 hc1s hc1t hg1 hsrc hnw hdl hl h1 hg hcs htk hxl hz0 hz1 hz2 hi0
  have HJ := Lib.hid hj
  clear hj
  by_cases hc : c = j
  · subst hc
    have e0 : w.drew.setRow g c1 = w.drew := hself rfl
    rw [e0] at hcl HF
    clear e0 HR hself
    have hn0 : n - c = 0 := by omega
    simp only [hn0, Nat.add_zero] at hcl
    go_enter Tryz.func69, Tryz.ntmps69
    go_wp2_with fail
    go_region
    go_wp2_with (refine wpList_clear_run _ rfl _ 35 rfl _ (by rfl) (hcl _) ?_)
    go_ret
    have := HJ.out
    exact ⟨ret_sl (by omega), HF.out⟩
  · have hrun := Lib.hid (fun ty => HR.out ty (j * 3) (c - j) (Or.inr rfl))
    clear hself
    go_enter Tryz.func69, Tryz.ntmps69
    go_wp2_with fail
    go_region_law (refine step_append_run rfl _ _ 35 35 rfl _ _ (by simp [Act.eval, Act.put]) (by simp [Act.eval, Act.put]) (hrun.out _) ?_)
    go_wp2_with (refine wpList_clear_run _ rfl _ 35 rfl _ (by rfl) (hcl _) ?_)
    go_ret
    exact ⟨ret_sl HE.out, HF.out⟩

theorem info_F : (Tryz.prog.info? 90).map (fun i => (i.zero, i.size, i.bytes)) = some (some (.agg #[.int .i64 0, .bool false, .int .i64 0]), 3, 24) := by kernel_rfl
theorem size_F : (Tryz.prog.info? 90).map (·.size) = some 3 := by kernel_rfl
theorem zero_F (w : World) : (zeroValue 90).run Tryz.prog w = .ok (.agg #[.int .i64 0, .bool false, .int .i64 0]) w := by kernel_rfl
set_option maxHeartbeats 4000000 in
theorem deleteF_any (B g n c i : Nat) (xs : List Value) (h1 : ∀ v ∈ xs, v.oneCell' = true) (hn : n ≤ 10000) (w : World) (hl : w.ownsRow B 90 3 (.slice (some ⟨g, 0, none⟩) n c) n xs) (hi : i < n) (j : Nat) (hj : j = i + 1) :
    Calls Tryz.prog 95 #[.slice (some ⟨g, 0, none⟩) n c, .int .i64 i, .int .i64 j] w fun e w' =>
      e = .returned (.slice (some ⟨g, 0, none⟩) (n - 1) c) ∧ w'.ownsRow B 90 3 (.slice (some ⟨g, 0, none⟩) (n - 1) c) (n - 1) (xs.take (i * 3) ++ xs.drop (j * 3)) ∧ w.grownBy w' (some g) := by
  obtain ⟨cur, hg, hBg, hnc, hcm, hcs, htk, hxl⟩ := own_whole hl
  obtain ⟨i0, hi0, hz0, hz1, hz2⟩ := info_parts info_F
  unfold maxLen at hcm
  have hdl : (xs.drop (j * 3)).length = (n - j) * 3 := by rw [List.length_drop, hxl]; omega
  have hsrc : ∀ off, (c = j ∧ off = 0 ∨ off = j * 3) → ∀ t u, (xs.drop (j * 3))[t]? = some u → w.drew.cell? ((⟨g, off, none⟩ : Addr).add t) = some u := fun off ho t u hu => by
    have ht := (List.getElem?_eq_some_iff.1 hu).1
    rw [hdl] at ht
    rcases ho with ⟨h, _⟩ | rfl
    · omega
    · rw [addr_plus]
      rw [List.getElem?_drop, ← htk, List.getElem?_take] at hu
      split at hu
      · show w.cell? _ = some u
        rw [cell_whole hg]; simpa using hu
      · cases hu
  have hnw : ∀ u ∈ xs.drop (j * 3), u.oneCell' = true := fun u hu => h1 u (List.mem_of_mem_drop hu)
  obtain ⟨c1, hc1⟩ : ∃ c1, c1 = (cur.toList.take (i * 3) ++ xs.drop (j * 3) ++ cur.toList.drop (i * 3 + (xs.drop (j * 3)).length)).toArray := ⟨_, rfl⟩
  have hrun : ∀ ty off cc, (c = j ∧ off = 0 ∨ off = j * 3) → (Builtin.append_ #[36, 36] ty #[.slice (some ⟨g, 0, none⟩) i c, .slice (some ⟨g, off, none⟩) (n - j) cc]).run Tryz.prog w.drew =
      .ok (.slice (some ⟨g, 0, none⟩) (i + (n - j)) c) (w.drew.setRow g c1) := fun ty off cc ho => by
    rw [hc1]
    have := run_append_room (P := Tryz.prog) w.drew 36 ty 90 i0 Tryz.underlying36 hi0 g i c cur hg ⟨g, off, none⟩ (n - j) cc (xs.drop (j * 3)) (by rw [hz1]; exact hdl) (hsrc off ho) hnw (by omega) (by rw [hz1, hdl, hcs]; omega)
    rw [hz1] at this
    exact this
  have hc1s : c1.size = c * 3 := by
    rw [hc1]; simp; rw [hxl]; omega
  have hc1t : c1.toList.take ((n - 1) * 3) = xs.take (i * 3) ++ xs.drop (j * 3) := by
    rw [hc1]
    have e1 : cur.toList.take (i * 3) = xs.take (i * 3) := by rw [← htk, List.take_take, Nat.min_eq_left (by omega)]
    rw [e1, List.take_append_of_le_length (by rw [List.length_append, hdl, List.length_take, hxl]; omega), List.take_of_length_le (by rw [List.length_append, hdl, List.length_take, hxl]; omega)]
  have hg1 : (w.drew.setRow g c1).heap[g]? = some (.cells c1 90 (0, 0)) := heap_setRow (w := w.drew) hg
  have hcl : ∀ ty, (Builtin.clear_ #[36] ty #[.slice (some ⟨g, (i + (n - j)) * 3, none⟩) (n - (i + (n - j))) (c - (i + (n - j)))]).run Tryz.prog (w.drew.setRow g c1) = .ok (.tuple #[]) ((w.drew.setRow g c1).setRow g (splice c1.toList ((n - 1) * 3) [Value.int .i64 0, .bool false, .int .i64 0]).toArray) := fun ty => by
    rw [show i + (n - j) = n - 1 by omega, show n - (n - 1) = 1 by omega]
    exact run_clear_rowk (P := Tryz.prog) _ 36 90 ty _ Tryz.underlying36 zero_F g ((n - 1) * 3) _ c1 _ [Value.int .i64 0, .bool false, .int .i64 0] hg1 (by kernel_rfl) (by rw [hc1s]; show (n - 1) * 3 + 3 ≤ _; omega) (by intro v hv; simp only [List.mem_cons, List.not_mem_nil, or_false] at hv; rcases hv with rfl | rfl | rfl <;> rfl)
  have HF : Hid ((((w.drew.setRow g c1).setRow g (splice c1.toList ((n - 1) * 3) [Value.int .i64 0, .bool false, .int .i64 0]).toArray)).ownsRow B 90 3 (.slice (some ⟨g, 0, none⟩) (n - 1) c) (n - 1) (xs.take (i * 3) ++ xs.drop (j * 3)) ∧ w.grownBy ((w.drew.setRow g c1).setRow g (splice c1.toList ((n - 1) * 3) [Value.int .i64 0, .bool false, .int .i64 0]).toArray) (some g)) := by
    have h3 : ((n - 1) * 3) + ([Value.int .i64 0, .bool false, .int .i64 0] : List Value).length ≤ c1.toList.length := by show (n - 1) * 3 + 3 ≤ _; rw [Array.length_toList, hc1s]; omega
    refine ⟨?_, grown_trans (w' := w.drew) ⟨rfl, rfl, rfl, Nat.le_refl _, fun _ _ _ => rfl⟩ (grown_trans (grown_setRow w.drew g c1) (grown_setRow _ g _))⟩
    have := own_of_whole (B := B) (n := n - 1) (c := c) (sz := 3) (heap_setRow (cs := (splice c1.toList ((n - 1) * 3) [Value.int .i64 0, .bool false, .int .i64 0]).toArray) hg1) hBg (by omega) (by unfold maxLen; omega) (by rw [splice_len h3, Array.length_toList, hc1s])
    rw [splice_take (by omega) (Nat.le_refl _), hc1t] at this
    exact this
  have HR : Hid (∀ ty off cc, (c = j ∧ off = 0 ∨ off = j * 3) → (Builtin.append_ #[36, 36] ty #[.slice (some ⟨g, 0, none⟩) i c, .slice (some ⟨g, off, none⟩) (n - j) cc]).run Tryz.prog w.drew =
      .ok (.slice (some ⟨g, 0, none⟩) (i + (n - j)) c) (w.drew.setRow g c1)) := hrun
  have hic : ¬ c = i := by omega
  have hq1 : i ≤ c := by omega
  have hq2 : j ≤ c := by omega
  have hq3 : j ≤ n := by omega
  have hq4 : i ≤ n := by omega
  have hq5 : i ≤ j := by omega
  have hnc1 : ¬ c = i + (n - j) := by omega
  have hij : ¬ i = j := by omega
  have hle : i + (n - j) ≤ n := by omega
  have HE : Hid (i + (n - j) = n - 1) := by unfold Hid; omega
  have hself : c = j → w.drew.setRow g c1 = w.drew := fun e => by
    have e2 : c1 = cur := by
      rw [hc1]
      apply Array.toList_inj.1
      have e3 : (xs.drop (j * 3)) = [] := List.drop_eq_nil_of_le (by rw [hxl]; omega)
      rw [e3]; simp
    rw [e2]
    exact setRow_self w.drew g cur _ _ hg
  clear hrun hc1 hc1s hc1t hg1 hsrc hnw hdl hl h1 hg hcs htk hxl hz0 hz1 hz2 hi0
  have HJ := Lib.hid hj
  clear hj
  by_cases hc : c = j
  · subst hc
    have e0 : w.drew.setRow g c1 = w.drew := hself rfl
    rw [e0] at hcl HF
    clear e0 HR hself
    have hn0 : n - c = 0 := by omega
    simp only [hn0, Nat.add_zero] at hcl
    go_enter Tryz.func95, Tryz.ntmps95
    go_wp2_with fail
    go_region
    go_wp2_with (refine wpList_clear_run _ rfl _ 36 rfl _ (by rfl) (hcl _) ?_)
    go_ret
    have := HJ.out
    exact ⟨ret_sl (by omega), HF.out⟩
  · have hrun := Lib.hid (fun ty => HR.out ty (j * 3) (c - j) (Or.inr rfl))
    clear hself
    go_enter Tryz.func95, Tryz.ntmps95
    go_wp2_with fail
    go_region_law (refine step_append_run rfl _ _ 36 36 rfl _ _ (by simp [Act.eval, Act.put]) (by simp [Act.eval, Act.put]) (hrun.out _) ?_)
    go_wp2_with (refine wpList_clear_run _ rfl _ 36 rfl _ (by rfl) (hcl _) ?_)
    go_ret
    exact ⟨ret_sl HE.out, HF.out⟩
end Go.Proofs.YtbnddpknejgmhaaGreat
