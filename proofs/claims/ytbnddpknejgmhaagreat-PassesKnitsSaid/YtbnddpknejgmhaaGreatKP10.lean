/- slices.Insert of one element at needles and carriers. -/
import Derived.Test.YtbnddpknejgmhaaGreatKP9
namespace Go.Proofs.YtbnddpknejgmhaaGreat
open Go.RowKit Go.Shelf
set_option maxRecDepth 100000
theorem take_mid {A V D : List Value} {i n : Nat} (ha : A.length = i * 3) (hv : V.length = 3) (hi : i ≤ n) : (A ++ (V ++ D)).take ((n + 1) * 3) = A ++ (V ++ D.take ((n - i) * 3)) := by
  rw [List.take_append, List.take_of_length_le (l := A) (by omega), List.take_append, List.take_of_length_le (l := V) (by omega), ha, hv, show (n + 1) * 3 - i * 3 - 3 = (n - i) * 3 by omega]

/-- What Insert hands back. -/
def insOutH (B n : Nat) (v : Value) (xs : List Value) (w : World) (e : Ending) (w' : World) : Prop := ∃ g c, e = .returned (.slice (some ⟨g, 0, none⟩) (n + 1) c) ∧ w'.ownsRow B 87 3 (.slice (some ⟨g, 0, none⟩) (n + 1) c) (n + 1) xs ∧ w.grownBy w' v.ownBlock ∧ (v.ownBlock = some g ∨ g = w.heap.size)
theorem insOutH.mk' {B n : Nat} {v : Value} {xs : List Value} {w w' : World} {g c m : Nat} (hm : m = n + 1) (h1 : w'.ownsRow B 87 3 (.slice (some ⟨g, 0, none⟩) m c) m xs) (h2 : w.grownBy w' v.ownBlock) (h3 : v.ownBlock = some g ∨ g = w.heap.size) : insOutH B n v xs w (.returned (.slice (some ⟨g, 0, none⟩) m c)) w' := by
  subst hm
  exact ⟨g, c, rfl, h1, h2, h3⟩
set_option maxHeartbeats 4000000 in
/-- At the end. -/
theorem insertEndH_any (B n : Nat) (v : Value) (xs : List Value) (hn : n ≤ 10000) (w : World) (hl : w.ownsRow B 87 3 v n xs) (hBw : B ≤ w.heap.size) (vb vc : Nat) (vs : List Value) (hv3 : vs.length = 3) (hvs : ∀ j u, vs[j]? = some u → w.cell? ⟨vb, j, none⟩ = some u) (h1v : ∀ u ∈ vs, u.oneCell' = true) :
    Calls Tryz.prog 114 #[v, .int .i64 n, .slice (some ⟨vb, 0, none⟩) 1 vc] w fun e w' => insOutH B n v (xs ++ vs) w e w' := by
  obtain ⟨i0, hi0, hz0, hz1, hz2⟩ := info_parts info_H
  have hnews : ∀ j u, vs[j]? = some u → w.cell? ((⟨vb, 0, none⟩ : Addr).add j) = some u := fun j u hu => by rw [addr_plus, Nat.zero_add]; exact hvs j u hu
  have HL := Lib.hid hl
  have hform : (v = .slice none 0 0 ∧ n = 0) ∨ ∃ g c, v = .slice (some ⟨g, 0, none⟩) n c ∧ n ≤ c ∧ c ≤ maxLen := by
    rcases hl.2 with ⟨h1, h2⟩ | ⟨g, c, cur, h1, _, _, h2, h3, _⟩
    · exact Or.inl ⟨h1, h2⟩
    · exact Or.inr ⟨g, c, h1, h2, h3⟩
  have HN := Lib.hid hnews
  clear hl hvs hnews
  rcases hform with ⟨rfl, rfl⟩ | ⟨g, c, rfl, hnc, hcm⟩
  · go_enter Tryz.func114, Tryz.ntmps114
    go_wp2_with (at_builtin; refine wpList_append_lies _ rfl _ _ _ rfl B 87 i0 _ 3 40 Tryz.underlying35 hi0 hz0 hz1 hz2 rfl (by omega) _ 0 xs rfl HL.out ⟨vb, 0, none⟩ 1 vc vs rfl (by rw [hv3]) HN.out h1v (by omega) (by unfold maxLen; omega) (by omega) hBw w.heap.size rfl ?_; intro g cap w1 hown hgrow hat hlt; have HOw := Lib.hid hown; have HG := Lib.hid hgrow; have HA := Lib.hid hat; clear hown hgrow hat)
    go_ret
    exact insOutH.mk' rfl HOw.out HG.out HA.out
  · unfold maxLen at hcm
    go_enter Tryz.func114, Tryz.ntmps114
    go_wp2_with (at_builtin; refine wpList_append_lies _ rfl _ _ _ rfl B 87 i0 _ 3 40 Tryz.underlying35 hi0 hz0 hz1 hz2 rfl (by omega) _ n xs rfl HL.out ⟨vb, 0, none⟩ 1 vc vs rfl (by rw [hv3]) HN.out h1v (by omega) (by unfold maxLen; omega) (by omega) hBw w.heap.size rfl ?_; intro g cap w1 hown hgrow hat hlt; have HOw := Lib.hid hown; have HG := Lib.hid hgrow; have HA := Lib.hid hat; clear hown hgrow hat)
    all_goals
      go_ret
      exact insOutH.mk' rfl HOw.out HG.out HA.out
theorem overlapsH (w : World) (vb g o vc lb cb : Nat) (hne : vb ≠ g) (vs : List Value) (hv : vs.length = 3) (hvb : w.heap[vb]? = some (.cells vs.toArray 87 (0, 0))) (cur : Array Value) (hg : w.heap[g]? = some (.cells cur 87 (0, 0))) (hc : cur.size ≠ 0) :
    (callFunc 126 #[.slice (some ⟨vb, 0, none⟩) 1 vc, .slice (some ⟨g, o, none⟩) lb cb]).run Tryz.prog w = .ok (.value (.bool false)) w := by
  rw [run_callFunc_extern Tryz.func126 (by kernel_rfl) (by kernel_rfl) (by kernel_rfl) (e := Extern.SlicesOverlaps.overlaps #[35, 35] #[4]) (by kernel_rfl),
    Lib.run_overlaps_apart w 35 4 87 Tryz.underlying35 3 (fun _ => by kernel_rfl) ⟨vb, 0, none⟩ ⟨g, o, none⟩ 1 vc lb cb hne 87 87 3 cur.size
      (by simp [World.shape?, hvb, hv]) (by simp [World.shape?, hg]) hc (by simp [World.frozen?, hvb]) (by simp [World.frozen?, hvb])]
  rfl
set_option maxHeartbeats 4000000 in
/-- In the midst, where there is room. -/
theorem insertMidH_any (B g n c i : Nat) (xs : List Value) (h1 : ∀ v ∈ xs, v.oneCell' = true) (hn : n ≤ 10000) (w : World) (hl : w.ownsRow B 87 3 (.slice (some ⟨g, 0, none⟩) n c) n xs) (hi : i < n) (hroom : n + 1 ≤ c) (vb vc : Nat) (vs : List Value) (hv3 : vs.length = 3) (hvb : w.heap[vb]? = some (.cells vs.toArray 87 (0, 0))) (h1v : ∀ u ∈ vs, u.oneCell' = true) (hne : vb ≠ g) :
    Calls Tryz.prog 114 #[.slice (some ⟨g, 0, none⟩) n c, .int .i64 i, .slice (some ⟨vb, 0, none⟩) 1 vc] w fun e w' => insOutH B n (.slice (some ⟨g, 0, none⟩) n c) (xs.take (i * 3) ++ (vs ++ xs.drop (i * 3))) w e w' := by
  obtain ⟨cur, hg, hBg, hnc, hcm, hcs, htk, hxl⟩ := own_whole hl
  unfold maxLen at hcm
  have hov := fun lb cb o => overlapsH w vb g o vc lb cb hne vs hv3 hvb cur hg (by omega)
  have hdl : (xs.drop (i * 3)).length = (n - i) * 3 := by rw [List.length_drop, hxl]; omega
  obtain ⟨c1, hc1⟩ : ∃ c1, c1 = (splice cur.toList ((i + 1) * 3) (xs.drop (i * 3))).toArray := ⟨_, rfl⟩
  have hc1s : c1.size = c * 3 := by rw [hc1, splice_len (by rw [hdl, Array.length_toList, hcs]; omega), Array.length_toList, hcs]
  have hcp1 : ∀ ty dc sc, (Builtin.copy_ #[35, 35] ty #[.slice (some ⟨g, (i + 1) * 3, none⟩) (n + 1 - (i + 1)) dc, .slice (some ⟨g, i * 3, none⟩) (n + 1 - i) sc]).run Tryz.prog w.drew = .ok (goInt ((n - i : Nat) : Int)) (w.drew.setRow g c1) := fun ty dc sc => by
    rw [hc1]
    refine run_copy_rowk (P := Tryz.prog) w.drew _ _ ty 87 g ((i + 1) * 3) _ dc ⟨g, i * 3, none⟩ _ sc cur 87 (xs.drop (i * 3)) 3 (n - i) Tryz.underlying35 size_H hg (by simp only [Nat.min_def]; split <;> omega) hdl (fun j u hu => ?_) (by rw [hdl, hcs]; omega) (fun v hv => h1 v (List.mem_of_mem_drop hv))
    have hj := (List.getElem?_eq_some_iff.1 hu).1
    rw [hdl] at hj
    rw [addr_plus]
    rw [List.getElem?_drop, ← htk, List.getElem?_take] at hu
    split at hu
    · show w.cell? _ = some u
      rw [cell_whole hg]; simpa using hu
    · cases hu
  have hg1 : (w.drew.setRow g c1).heap[g]? = some (.cells c1 87 (0, 0)) := heap_setRow (w := w.drew) hg
  have hcp2 : ∀ ty dc, (Builtin.copy_ #[35, 35] ty #[.slice (some ⟨g, i * 3, none⟩) (n + 1 - i) dc, .slice (some ⟨vb, 0, none⟩) 1 vc]).run Tryz.prog (w.drew.setRow g c1) = .ok (goInt 1) ((w.drew.setRow g c1).setRow g (splice c1.toList (i * 3) vs).toArray) := fun ty dc =>
    run_copy_rowk (P := Tryz.prog) _ _ _ ty 87 g (i * 3) _ dc ⟨vb, 0, none⟩ 1 vc c1 87 vs 3 1 Tryz.underlying35 size_H hg1 (by simp only [Nat.min_def]; split <;> omega) hv3 (fun j u hu => by
      rw [addr_plus, Nat.zero_add]
      have e : (w.drew.setRow g c1).heap[vb]? = some (.cells vs.toArray 87 (0, 0)) := (setRow_other w.drew g vb c1 hne).trans hvb
      rw [cell_whole e]; simpa using hu) (by rw [hv3, hc1s]; omega) h1v
  have HF : Hid (((w.drew.setRow g c1).setRow g (splice c1.toList (i * 3) vs).toArray).ownsRow B 87 3 (.slice (some ⟨g, 0, none⟩) (n + 1) c) (n + 1) (xs.take (i * 3) ++ (vs ++ xs.drop (i * 3))) ∧ w.grownBy ((w.drew.setRow g c1).setRow g (splice c1.toList (i * 3) vs).toArray) (some g)) := by
    have hlen : i * 3 + vs.length ≤ c1.toList.length := by rw [hv3, Array.length_toList, hc1s]; omega
    refine ⟨?_, grown_trans (w' := w.drew) ⟨rfl, rfl, rfl, Nat.le_refl _, fun _ _ _ => rfl⟩ (grown_trans (grown_setRow w.drew g c1) (grown_setRow _ g _))⟩
    have := own_of_whole (B := B) (n := n + 1) (c := c) (sz := 3) (heap_setRow (cs := (splice c1.toList (i * 3) vs).toArray) hg1) hBg hroom (by unfold maxLen; omega) (by rw [splice_len hlen, Array.length_toList, hc1s])
    have e : (splice c1.toList (i * 3) vs).take ((n + 1) * 3) = xs.take (i * 3) ++ (vs ++ xs.drop (i * 3)) := by
      unfold splice
      have e1 : c1.toList.take (i * 3) = xs.take (i * 3) := by
        rw [hc1]
        show (splice cur.toList ((i + 1) * 3) (xs.drop (i * 3))).take (i * 3) = _
        rw [splice_take (by rw [Array.length_toList, hcs]; omega) (by omega), ← htk, List.take_take, Nat.min_eq_left (by omega)]
      have e2 : (c1.toList.drop (i * 3 + vs.length)).take ((n - i) * 3) = xs.drop (i * 3) := by
        rw [hc1, hv3]
        show ((splice cur.toList ((i + 1) * 3) (xs.drop (i * 3))).drop (i * 3 + 3)).take ((n - i) * 3) = _
        unfold splice
        have hl3 : (cur.toList.take ((i + 1) * 3)).length = i * 3 + 3 := by rw [List.length_take, Array.length_toList, hcs]; omega
        rw [← hl3, List.drop_left, List.take_append_of_le_length (by rw [hdl]; omega), List.take_of_length_le (by rw [hdl]; omega)]
      have hl1 : (xs.take (i * 3)).length = i * 3 := by rw [List.length_take, hxl]; omega
      rw [e1, take_mid hl1 hv3 (show i ≤ n by omega), e2]
    rw [← e]
    exact this
  have hq1 : ¬ ((i : Int) = (n : Int)) := by omega
  have hq2 : i ≤ n := by omega
  have hq3 : ¬ c = i := by omega
  have hq4 : ¬ c = i + 1 := by omega
  have hq5 : i ≤ c := by omega
  have hq6 : ¬ ((c : Int) < (n : Int) + 1) := by omega
  have hq7 : (0 : Int) ≤ (n : Int) + 1 := by omega
  have hq8 : (n : Int) + 1 ≤ (c : Int) := by omega
  have hq9 : ((n : Int) + 1).toNat = n + 1 := by omega
  have hq10 : ((i : Int) + 1).toNat = i + 1 := by omega
  have hq11 : (0 : Int) ≤ (i : Int) + 1 := by omega
  have hq12 : (i : Int) + 1 ≤ (n : Int) + 1 := by omega
  have hq13 : (i : Int) ≤ (n : Int) + 1 := by omega
  have hq14 : i ≤ n + 1 := by omega
  have hw1 : IntKind.i64.wrap ((i : Int) + 1) = (i : Int) + 1 := by rw [IntKind.wrap_i64]; omega
  clear hc1 hc1s hg1 hdl hl h1 hg hcs htk hxl hvb h1v
  go_enter Tryz.func114, Tryz.ntmps114
  go_wp2_with (simp only [hov])
  go_region_law (refine step_copy_run rfl _ _ 35 35 rfl _ _ (by simp [Act.eval, Act.put]) (by simp [Act.eval, Act.put]) (hcp1 _ (c - (i + 1)) (c - i)) ?_)
  go_wp2_with (at_builtin; refine wpList_copy_run _ rfl _ _ 35 35 rfl _ _ rfl rfl (hcp2 _ _) ?_)
  go_ret
  exact insOutH.mk' rfl HF.out.1 HF.out.2 (Or.inl rfl)

set_option maxHeartbeats 4000000 in
/-- In the midst, where there is no room. -/
theorem insertGrowH_any (B g n i : Nat) (xs : List Value) (h1 : ∀ v ∈ xs, v.oneCell' = true) (hn : n ≤ 10000) (w : World) (hl : w.ownsRow B 87 3 (.slice (some ⟨g, 0, none⟩) n n) n xs) (hi : i < n) (hBw : B ≤ w.heap.size) (vb vc : Nat) (vs : List Value) (hv3 : vs.length = 3) (hvs : ∀ j u, vs[j]? = some u → w.cell? ⟨vb, j, none⟩ = some u) (h1v : ∀ u ∈ vs, u.oneCell' = true) :
    Calls Tryz.prog 114 #[.slice (some ⟨g, 0, none⟩) n n, .int .i64 i, .slice (some ⟨vb, 0, none⟩) 1 vc] w fun e w' => insOutH B n (.slice (some ⟨g, 0, none⟩) n n) (xs.take (i * 3) ++ (vs ++ xs.drop (i * 3))) w e w' := by
  obtain ⟨cur, hg, hBg, hnc, hcm, hcs, htk, hxl⟩ := own_whole hl
  unfold maxLen at hcm
  obtain ⟨i0, hi0, hz0, hz1, hz2⟩ := info_parts info_H
  have hgw : g < w.heap.size := (Array.getElem?_eq_some_iff.1 hg).1
  have hvw : vb < w.heap.size := lt_of_cell (hvs 0 (vs[0]'(by omega)) (List.getElem?_eq_getElem (by omega)))
  have hdl : (xs.drop (i * 3)).length = (n - i) * 3 := by rw [List.length_drop, hxl]; omega
  have htl : (xs.take (i * 3)).length = i * 3 := by rw [List.length_take, hxl]; omega
  have hxat : ∀ j u, xs[j]? = some u → w.cell? ⟨g, j, none⟩ = some u := fun j u hu => by
    rw [← htk, List.getElem?_take] at hu
    split at hu
    · rw [cell_whole hg]; simpa using hu
    · cases hu
  have hold : (Builtin.firstCells i0.size i (.slice (some ⟨g, 0, none⟩) i n)).run Tryz.prog w.drew = .ok (xs.take (i * 3)).toArray w.drew := by
    rw [hz1]
    exact run_firstCells_some w.drew 3 i ⟨g, 0, none⟩ i n (xs.take (i * 3)) htl (fun j u hu => by
      rw [addr_plus, Nat.zero_add]
      rw [List.getElem?_take] at hu
      split at hu
      · exact hxat j u hu
      · cases hu)
  have hik : i + (n + 1 - i) = n + 1 := by omega
  have hkk : (n : Int) + 1 - (i : Int) = ((n + 1 - i : Nat) : Int) := by omega
  obtain ⟨G, hG⟩ : ∃ G, G = grownCap w (n + 1) n 87 := ⟨_, rfl⟩
  obtain ⟨ROW, hROW⟩ : ∃ ROW : Array Value, ROW = (xs.take (i * 3)).toArray ++ Builtin.zeroCells (Value.agg #[.int .u8 0, .int .i64 0, .slice none 0 0]).cells (n + 1 - i) ++ Builtin.zeroCells (Value.agg #[.int .u8 0, .int .i64 0, .slice none 0 0]).cells (G - (n + 1)) := ⟨_, rfl⟩
  have hrz : ∀ ty, (Builtin.append_ #[35, 3] ty #[.slice (some ⟨g, 0, none⟩) i n, .int .i64 ((n : Int) + 1 - (i : Int))]).run Tryz.prog w = .ok (.slice (some ⟨w.heap.size, 0, none⟩) (n + 1) G) (w.drew.alloc (.cells ROW 87)) := fun ty => by
    have h := Lib.run_append_grow_zeros (P := Tryz.prog) w 35 3 ty 87 i0 _ .i64 .i64 Tryz.underlying35 Tryz.underlying3 hi0 hz0 (some ⟨g, 0, none⟩) i n (xs.take (i * 3)) hold (n + 1 - i) (by omega) (by omega) (by omega) (by omega) (by rw [hz2]; omega) (by rw [hz2, hik]; exact growslice_fits (by omega) (by omega))
    rw [hik] at h
    rw [hkk, hROW, hG]
    exact h
  have hGn : n + 1 ≤ G := by rw [hG]; exact grownCap_ge w _ _ _
  have hGm : G ≤ maxLen := by rw [hG]; exact grownCap_le_maxLen w (n + 1) n _ (by unfold maxLen; omega)
  have hzc : ∀ k, (Builtin.zeroCells (Value.agg #[.int .u8 0, .int .i64 0, .slice none 0 0]).cells k).size = k * 3 := fun k => by rw [size_zeroCells]; rfl
  have hRs : ROW.size = G * 3 := by
    rw [hROW]
    simp only [Array.size_append, hzc, List.size_toArray, htl]
    omega
  have hRt : ROW.toList.take (i * 3) = xs.take (i * 3) := by
    rw [hROW, Array.toList_append, Array.toList_append, List.append_assoc, List.take_append_of_le_length (by rw [htl]; exact Nat.le_refl _), List.take_of_length_le (by rw [htl]; exact Nat.le_refl _)]
  obtain ⟨W1, hW1⟩ : ∃ W1, W1 = w.drew.alloc (.cells ROW 87) := ⟨_, rfl⟩
  rw [← hW1] at hrz
  obtain ⟨N, hN⟩ : ∃ N, N = w.heap.size := ⟨_, rfl⟩
  have hg1 : W1.heap[N]? = some (.cells ROW 87 (0, 0)) := by rw [hW1, hN]; exact heap_alloc_new w.drew _
  have hbW : Below w.heap.size w W1 := by rw [hW1]; exact (Below.drew (Below.refl _ w)).alloc (Nat.le_refl _) _
  obtain ⟨c2, hc2⟩ : ∃ c2, c2 = (splice ROW.toList (i * 3) vs).toArray := ⟨_, rfl⟩
  have hc2s : c2.size = G * 3 := by rw [hc2, splice_len (by rw [hv3, Array.length_toList, hRs]; omega), Array.length_toList, hRs]
  have hcpA : ∀ ty dc, (Builtin.copy_ #[35, 35] ty #[.slice (some ⟨N, i * 3, none⟩) (n + 1 - i) dc, .slice (some ⟨vb, 0, none⟩) 1 vc]).run Tryz.prog W1 = .ok (goInt 1) (W1.setRow N c2) := fun ty dc => by
    rw [hc2]
    exact run_copy_rowk (P := Tryz.prog) _ _ _ ty 87 N (i * 3) _ dc ⟨vb, 0, none⟩ 1 vc ROW 87 vs 3 1 Tryz.underlying35 size_H hg1 (by simp only [Nat.min_def]; split <;> omega) hv3 (fun j u hu => by
      rw [addr_plus, Nat.zero_add]
      exact (bcell hbW hvw _).trans (hvs j u hu)) (by rw [hv3, hRs]; omega) h1v
  have hg2 : ((W1.setRow N c2).drew).heap[N]? = some (.cells c2 87 (0, 0)) := heap_setRow (w := W1) hg1
  have hcpB : ∀ ty dc sc, (Builtin.copy_ #[35, 35] ty #[.slice (some ⟨N, (i + 1) * 3, none⟩) (n + 1 - (i + 1)) dc, .slice (some ⟨g, i * 3, none⟩) (n - i) sc]).run Tryz.prog (W1.setRow N c2).drew = .ok (goInt ((n - i : Nat) : Int)) ((W1.setRow N c2).drew.setRow N (splice c2.toList ((i + 1) * 3) (xs.drop (i * 3))).toArray) := fun ty dc sc =>
    run_copy_rowk (P := Tryz.prog) _ _ _ ty 87 N ((i + 1) * 3) _ dc ⟨g, i * 3, none⟩ _ sc c2 87 (xs.drop (i * 3)) 3 (n - i) Tryz.underlying35 size_H hg2 (by simp only [Nat.min_def]; split <;> omega) hdl (fun j u hu => by
      rw [addr_plus]
      rw [List.getElem?_drop] at hu
      have e1 : (W1.setRow N c2).drew.cell? ⟨g, i * 3 + j, none⟩ = W1.cell? ⟨g, i * 3 + j, none⟩ := World.cell?_of_block (a := ⟨g, i * 3 + j, none⟩) (setRow_other W1 N g c2 (by omega))
      rw [e1]
      exact (bcell hbW hgw _).trans (hxat _ u hu)) (by rw [hdl, hc2s]; omega) (fun v hv => h1 v (List.mem_of_mem_drop hv))
  have HF : Hid (((W1.setRow N c2).drew.setRow N (splice c2.toList ((i + 1) * 3) (xs.drop (i * 3))).toArray).ownsRow B 87 3 (.slice (some ⟨N, 0, none⟩) (n + 1) G) (n + 1) (xs.take (i * 3) ++ (vs ++ xs.drop (i * 3))) ∧ w.grownBy ((W1.setRow N c2).drew.setRow N (splice c2.toList ((i + 1) * 3) (xs.drop (i * 3))).toArray) (some g) ∧ N = w.heap.size) := by
    have hlen : (i + 1) * 3 + (xs.drop (i * 3)).length ≤ c2.toList.length := by rw [hdl, Array.length_toList, hc2s]; omega
    refine ⟨?_, ?_, hN⟩
    · have := own_of_whole (B := B) (n := n + 1) (c := G) (sz := 3) (heap_setRow (cs := (splice c2.toList ((i + 1) * 3) (xs.drop (i * 3))).toArray) hg2) (by omega) hGn hGm (by rw [splice_len hlen, Array.length_toList, hc2s])
      have e : (splice c2.toList ((i + 1) * 3) (xs.drop (i * 3))).take ((n + 1) * 3) = xs.take (i * 3) ++ (vs ++ xs.drop (i * 3)) := by
        have e1 : c2.toList.take ((i + 1) * 3) = xs.take (i * 3) ++ vs := by
          rw [hc2]
          show (splice ROW.toList (i * 3) vs).take ((i + 1) * 3) = _
          unfold splice
          rw [hRt, ← List.append_assoc, List.take_append_of_le_length (by rw [List.length_append, htl, hv3]; omega), List.take_of_length_le (by rw [List.length_append, htl, hv3]; omega)]
        rw [splice, e1, ← List.append_assoc, List.take_append_of_le_length (by simp only [List.length_append, htl, hv3, hdl]; omega), List.take_of_length_le (by simp only [List.length_append, htl, hv3, hdl]; omega), List.append_assoc]
      rw [← e]
      exact this
    · have b1 : Below w.heap.size W1 (W1.setRow N c2) := ⟨rfl, rfl, rfl, by simp [World.setRow], fun k hk => setRow_other W1 N k c2 (by omega)⟩
      have b2 : ∀ cs, Below w.heap.size (W1.setRow N c2).drew ((W1.setRow N c2).drew.setRow N cs) := fun cs => ⟨rfl, rfl, rfl, by simp [World.setRow], fun k hk => setRow_other _ N k _ (by omega)⟩
      exact grown_below (((hbW.trans b1).drew).trans (b2 _))
  have hq1 : ¬ ((i : Int) = (n : Int)) := by omega
  have hq2 : i ≤ n := by omega
  have hq3 : ¬ n = i := by omega
  have hq4 : ¬ G = i := by omega
  have hq5 : ¬ G = i + 1 := by omega
  have hq7 : (0 : Int) ≤ (n : Int) + 1 := by omega
  have hq8 : (n : Int) < (n : Int) + 1 := by omega
  have hq9 : ((n : Int) + 1).toNat = n + 1 := by omega
  have hq10 : ((i : Int) + 1).toNat = i + 1 := by omega
  have hq11 : (0 : Int) ≤ (i : Int) + 1 := by omega
  have hq12 : (i : Int) + 1 ≤ (n : Int) + 1 := by omega
  have hq13 : (i : Int) ≤ (n : Int) + 1 := by omega
  have hq14 : i ≤ n + 1 := by omega
  have hw1 : IntKind.i64.wrap ((i : Int) + 1) = (i : Int) + 1 := by rw [IntKind.wrap_i64]; omega
  have HN := Lib.hid hN
  clear hROW hG hc2 hc2s hg1 hg2 hdl htl hl h1 hg hcs htk hxl h1v hxat hold hRs hRt hzc hW1 hbW hvs hik hkk hi0 hz0 hz1 hz2 hGm hN
  rw [← HN.out] at hrz
  go_enter Tryz.func114, Tryz.ntmps114
  go_wp2_with (first | (at_builtin; refine Lib.wpList_append_run _ rfl _ _ _ _ rfl _ _ rfl rfl _ _ (hrz _) ?_) | (refine wpList_copy_run _ rfl _ _ 35 35 rfl _ _ rfl rfl (hcpA _ _) ?_))
  go_region_law (refine step_copy_run rfl _ _ 35 35 rfl _ _ (by simp [Act.eval, Act.put]) (by simp [Act.eval, Act.put]) (hcpB _ (G - (i + 1)) (n - i)) ?_)
  go_wp2
  go_ret
  exact insOutH.mk' rfl HF.out.1 HF.out.2.1 (Or.inr HF.out.2.2)

theorem insertH_any (B n i : Nat) (v : Value) (xs : List Value) (h1 : ∀ v ∈ xs, v.oneCell' = true) (hn : n ≤ 10000) (w : World) (hl : w.ownsRow B 87 3 v n xs) (hi : i ≤ n) (hBw : B ≤ w.heap.size) (vb vc : Nat) (vs : List Value) (hv3 : vs.length = 3) (hvb : w.heap[vb]? = some (.cells vs.toArray 87 (0, 0))) (h1v : ∀ u ∈ vs, u.oneCell' = true) (hne : v.ownBlock ≠ some vb) :
    Calls Tryz.prog 114 #[v, .int .i64 i, .slice (some ⟨vb, 0, none⟩) 1 vc] w fun e w' => insOutH B n v (xs.take (i * 3) ++ (vs ++ xs.drop (i * 3))) w e w' := by
  have hvs : ∀ j u, vs[j]? = some u → w.cell? ⟨vb, j, none⟩ = some u := fun j u hu => by rw [cell_whole hvb]; simpa using hu
  by_cases e : i = n
  · subst e
    rw [List.take_of_length_le (by rw [hl.1]; exact Nat.le_refl _), List.drop_eq_nil_of_le (by rw [hl.1]; exact Nat.le_refl _), List.append_nil]
    exact insertEndH_any B i v xs hn w hl hBw vb vc vs hv3 hvs h1v
  · rcases hl.2 with ⟨_, h0⟩ | ⟨g, c, cur, rfl, hBg, hg, hnc, _⟩
    · omega
    · by_cases hc : n + 1 ≤ c
      · exact insertMidH_any B g n c i xs h1 hn w hl (by omega) hc vb vc vs hv3 hvb h1v (fun e => hne (by rw [e]; rfl))
      · obtain rfl : c = n := by omega
        exact insertGrowH_any B g c i xs h1 hn w hl (by omega) hBw vb vc vs hv3 hvs h1v

/-- What Insert hands back. -/
def insOutF (B n : Nat) (v : Value) (xs : List Value) (w : World) (e : Ending) (w' : World) : Prop := ∃ g c, e = .returned (.slice (some ⟨g, 0, none⟩) (n + 1) c) ∧ w'.ownsRow B 90 3 (.slice (some ⟨g, 0, none⟩) (n + 1) c) (n + 1) xs ∧ w.grownBy w' v.ownBlock ∧ (v.ownBlock = some g ∨ g = w.heap.size)
theorem insOutF.mk' {B n : Nat} {v : Value} {xs : List Value} {w w' : World} {g c m : Nat} (hm : m = n + 1) (h1 : w'.ownsRow B 90 3 (.slice (some ⟨g, 0, none⟩) m c) m xs) (h2 : w.grownBy w' v.ownBlock) (h3 : v.ownBlock = some g ∨ g = w.heap.size) : insOutF B n v xs w (.returned (.slice (some ⟨g, 0, none⟩) m c)) w' := by
  subst hm
  exact ⟨g, c, rfl, h1, h2, h3⟩
set_option maxHeartbeats 4000000 in
/-- At the end. -/
theorem insertEndF_any (B n : Nat) (v : Value) (xs : List Value) (hn : n ≤ 10000) (w : World) (hl : w.ownsRow B 90 3 v n xs) (hBw : B ≤ w.heap.size) (vb vc : Nat) (vs : List Value) (hv3 : vs.length = 3) (hvs : ∀ j u, vs[j]? = some u → w.cell? ⟨vb, j, none⟩ = some u) (h1v : ∀ u ∈ vs, u.oneCell' = true) :
    Calls Tryz.prog 96 #[v, .int .i64 n, .slice (some ⟨vb, 0, none⟩) 1 vc] w fun e w' => insOutF B n v (xs ++ vs) w e w' := by
  obtain ⟨i0, hi0, hz0, hz1, hz2⟩ := info_parts info_F
  have hnews : ∀ j u, vs[j]? = some u → w.cell? ((⟨vb, 0, none⟩ : Addr).add j) = some u := fun j u hu => by rw [addr_plus, Nat.zero_add]; exact hvs j u hu
  have HL := Lib.hid hl
  have hform : (v = .slice none 0 0 ∧ n = 0) ∨ ∃ g c, v = .slice (some ⟨g, 0, none⟩) n c ∧ n ≤ c ∧ c ≤ maxLen := by
    rcases hl.2 with ⟨h1, h2⟩ | ⟨g, c, cur, h1, _, _, h2, h3, _⟩
    · exact Or.inl ⟨h1, h2⟩
    · exact Or.inr ⟨g, c, h1, h2, h3⟩
  have HN := Lib.hid hnews
  clear hl hvs hnews
  rcases hform with ⟨rfl, rfl⟩ | ⟨g, c, rfl, hnc, hcm⟩
  · go_enter Tryz.func96, Tryz.ntmps96
    go_wp2_with (at_builtin; refine wpList_append_lies _ rfl _ _ _ rfl B 90 i0 _ 3 24 Tryz.underlying36 hi0 hz0 hz1 hz2 rfl (by omega) _ 0 xs rfl HL.out ⟨vb, 0, none⟩ 1 vc vs rfl (by rw [hv3]) HN.out h1v (by omega) (by unfold maxLen; omega) (by omega) hBw w.heap.size rfl ?_; intro g cap w1 hown hgrow hat hlt; have HOw := Lib.hid hown; have HG := Lib.hid hgrow; have HA := Lib.hid hat; clear hown hgrow hat)
    go_ret
    exact insOutF.mk' rfl HOw.out HG.out HA.out
  · unfold maxLen at hcm
    go_enter Tryz.func96, Tryz.ntmps96
    go_wp2_with (at_builtin; refine wpList_append_lies _ rfl _ _ _ rfl B 90 i0 _ 3 24 Tryz.underlying36 hi0 hz0 hz1 hz2 rfl (by omega) _ n xs rfl HL.out ⟨vb, 0, none⟩ 1 vc vs rfl (by rw [hv3]) HN.out h1v (by omega) (by unfold maxLen; omega) (by omega) hBw w.heap.size rfl ?_; intro g cap w1 hown hgrow hat hlt; have HOw := Lib.hid hown; have HG := Lib.hid hgrow; have HA := Lib.hid hat; clear hown hgrow hat)
    all_goals
      go_ret
      exact insOutF.mk' rfl HOw.out HG.out HA.out
theorem overlapsF (w : World) (vb g o vc lb cb : Nat) (hne : vb ≠ g) (vs : List Value) (hv : vs.length = 3) (hvb : w.heap[vb]? = some (.cells vs.toArray 90 (0, 0))) (cur : Array Value) (hg : w.heap[g]? = some (.cells cur 90 (0, 0))) (hc : cur.size ≠ 0) :
    (callFunc 117 #[.slice (some ⟨vb, 0, none⟩) 1 vc, .slice (some ⟨g, o, none⟩) lb cb]).run Tryz.prog w = .ok (.value (.bool false)) w := by
  rw [run_callFunc_extern Tryz.func117 (by kernel_rfl) (by kernel_rfl) (by kernel_rfl) (e := Extern.SlicesOverlaps.overlaps #[36, 36] #[4]) (by kernel_rfl),
    Lib.run_overlaps_apart w 36 4 90 Tryz.underlying36 3 (fun _ => by kernel_rfl) ⟨vb, 0, none⟩ ⟨g, o, none⟩ 1 vc lb cb hne 90 90 3 cur.size
      (by simp [World.shape?, hvb, hv]) (by simp [World.shape?, hg]) hc (by simp [World.frozen?, hvb]) (by simp [World.frozen?, hvb])]
  rfl
set_option maxHeartbeats 4000000 in
/-- In the midst, where there is room. -/
theorem insertMidF_any (B g n c i : Nat) (xs : List Value) (h1 : ∀ v ∈ xs, v.oneCell' = true) (hn : n ≤ 10000) (w : World) (hl : w.ownsRow B 90 3 (.slice (some ⟨g, 0, none⟩) n c) n xs) (hi : i < n) (hroom : n + 1 ≤ c) (vb vc : Nat) (vs : List Value) (hv3 : vs.length = 3) (hvb : w.heap[vb]? = some (.cells vs.toArray 90 (0, 0))) (h1v : ∀ u ∈ vs, u.oneCell' = true) (hne : vb ≠ g) :
    Calls Tryz.prog 96 #[.slice (some ⟨g, 0, none⟩) n c, .int .i64 i, .slice (some ⟨vb, 0, none⟩) 1 vc] w fun e w' => insOutF B n (.slice (some ⟨g, 0, none⟩) n c) (xs.take (i * 3) ++ (vs ++ xs.drop (i * 3))) w e w' := by
  obtain ⟨cur, hg, hBg, hnc, hcm, hcs, htk, hxl⟩ := own_whole hl
  unfold maxLen at hcm
  have hov := fun lb cb o => overlapsF w vb g o vc lb cb hne vs hv3 hvb cur hg (by omega)
  have hdl : (xs.drop (i * 3)).length = (n - i) * 3 := by rw [List.length_drop, hxl]; omega
  obtain ⟨c1, hc1⟩ : ∃ c1, c1 = (splice cur.toList ((i + 1) * 3) (xs.drop (i * 3))).toArray := ⟨_, rfl⟩
  have hc1s : c1.size = c * 3 := by rw [hc1, splice_len (by rw [hdl, Array.length_toList, hcs]; omega), Array.length_toList, hcs]
  have hcp1 : ∀ ty dc sc, (Builtin.copy_ #[36, 36] ty #[.slice (some ⟨g, (i + 1) * 3, none⟩) (n + 1 - (i + 1)) dc, .slice (some ⟨g, i * 3, none⟩) (n + 1 - i) sc]).run Tryz.prog w.drew = .ok (goInt ((n - i : Nat) : Int)) (w.drew.setRow g c1) := fun ty dc sc => by
    rw [hc1]
    refine run_copy_rowk (P := Tryz.prog) w.drew _ _ ty 90 g ((i + 1) * 3) _ dc ⟨g, i * 3, none⟩ _ sc cur 90 (xs.drop (i * 3)) 3 (n - i) Tryz.underlying36 size_F hg (by simp only [Nat.min_def]; split <;> omega) hdl (fun j u hu => ?_) (by rw [hdl, hcs]; omega) (fun v hv => h1 v (List.mem_of_mem_drop hv))
    have hj := (List.getElem?_eq_some_iff.1 hu).1
    rw [hdl] at hj
    rw [addr_plus]
    rw [List.getElem?_drop, ← htk, List.getElem?_take] at hu
    split at hu
    · show w.cell? _ = some u
      rw [cell_whole hg]; simpa using hu
    · cases hu
  have hg1 : (w.drew.setRow g c1).heap[g]? = some (.cells c1 90 (0, 0)) := heap_setRow (w := w.drew) hg
  have hcp2 : ∀ ty dc, (Builtin.copy_ #[36, 36] ty #[.slice (some ⟨g, i * 3, none⟩) (n + 1 - i) dc, .slice (some ⟨vb, 0, none⟩) 1 vc]).run Tryz.prog (w.drew.setRow g c1) = .ok (goInt 1) ((w.drew.setRow g c1).setRow g (splice c1.toList (i * 3) vs).toArray) := fun ty dc =>
    run_copy_rowk (P := Tryz.prog) _ _ _ ty 90 g (i * 3) _ dc ⟨vb, 0, none⟩ 1 vc c1 90 vs 3 1 Tryz.underlying36 size_F hg1 (by simp only [Nat.min_def]; split <;> omega) hv3 (fun j u hu => by
      rw [addr_plus, Nat.zero_add]
      have e : (w.drew.setRow g c1).heap[vb]? = some (.cells vs.toArray 90 (0, 0)) := (setRow_other w.drew g vb c1 hne).trans hvb
      rw [cell_whole e]; simpa using hu) (by rw [hv3, hc1s]; omega) h1v
  have HF : Hid (((w.drew.setRow g c1).setRow g (splice c1.toList (i * 3) vs).toArray).ownsRow B 90 3 (.slice (some ⟨g, 0, none⟩) (n + 1) c) (n + 1) (xs.take (i * 3) ++ (vs ++ xs.drop (i * 3))) ∧ w.grownBy ((w.drew.setRow g c1).setRow g (splice c1.toList (i * 3) vs).toArray) (some g)) := by
    have hlen : i * 3 + vs.length ≤ c1.toList.length := by rw [hv3, Array.length_toList, hc1s]; omega
    refine ⟨?_, grown_trans (w' := w.drew) ⟨rfl, rfl, rfl, Nat.le_refl _, fun _ _ _ => rfl⟩ (grown_trans (grown_setRow w.drew g c1) (grown_setRow _ g _))⟩
    have := own_of_whole (B := B) (n := n + 1) (c := c) (sz := 3) (heap_setRow (cs := (splice c1.toList (i * 3) vs).toArray) hg1) hBg hroom (by unfold maxLen; omega) (by rw [splice_len hlen, Array.length_toList, hc1s])
    have e : (splice c1.toList (i * 3) vs).take ((n + 1) * 3) = xs.take (i * 3) ++ (vs ++ xs.drop (i * 3)) := by
      unfold splice
      have e1 : c1.toList.take (i * 3) = xs.take (i * 3) := by
        rw [hc1]
        show (splice cur.toList ((i + 1) * 3) (xs.drop (i * 3))).take (i * 3) = _
        rw [splice_take (by rw [Array.length_toList, hcs]; omega) (by omega), ← htk, List.take_take, Nat.min_eq_left (by omega)]
      have e2 : (c1.toList.drop (i * 3 + vs.length)).take ((n - i) * 3) = xs.drop (i * 3) := by
        rw [hc1, hv3]
        show ((splice cur.toList ((i + 1) * 3) (xs.drop (i * 3))).drop (i * 3 + 3)).take ((n - i) * 3) = _
        unfold splice
        have hl3 : (cur.toList.take ((i + 1) * 3)).length = i * 3 + 3 := by rw [List.length_take, Array.length_toList, hcs]; omega
        rw [← hl3, List.drop_left, List.take_append_of_le_length (by rw [hdl]; omega), List.take_of_length_le (by rw [hdl]; omega)]
      have hl1 : (xs.take (i * 3)).length = i * 3 := by rw [List.length_take, hxl]; omega
      rw [e1, take_mid hl1 hv3 (show i ≤ n by omega), e2]
    rw [← e]
    exact this
  have hq1 : ¬ ((i : Int) = (n : Int)) := by omega
  have hq2 : i ≤ n := by omega
  have hq3 : ¬ c = i := by omega
  have hq4 : ¬ c = i + 1 := by omega
  have hq5 : i ≤ c := by omega
  have hq6 : ¬ ((c : Int) < (n : Int) + 1) := by omega
  have hq7 : (0 : Int) ≤ (n : Int) + 1 := by omega
  have hq8 : (n : Int) + 1 ≤ (c : Int) := by omega
  have hq9 : ((n : Int) + 1).toNat = n + 1 := by omega
  have hq10 : ((i : Int) + 1).toNat = i + 1 := by omega
  have hq11 : (0 : Int) ≤ (i : Int) + 1 := by omega
  have hq12 : (i : Int) + 1 ≤ (n : Int) + 1 := by omega
  have hq13 : (i : Int) ≤ (n : Int) + 1 := by omega
  have hq14 : i ≤ n + 1 := by omega
  have hw1 : IntKind.i64.wrap ((i : Int) + 1) = (i : Int) + 1 := by rw [IntKind.wrap_i64]; omega
  clear hc1 hc1s hg1 hdl hl h1 hg hcs htk hxl hvb h1v
  go_enter Tryz.func96, Tryz.ntmps96
  go_wp2_with (simp only [hov])
  go_region_law (refine step_copy_run rfl _ _ 36 36 rfl _ _ (by simp [Act.eval, Act.put]) (by simp [Act.eval, Act.put]) (hcp1 _ (c - (i + 1)) (c - i)) ?_)
  go_wp2_with (at_builtin; refine wpList_copy_run _ rfl _ _ 36 36 rfl _ _ rfl rfl (hcp2 _ _) ?_)
  go_ret
  exact insOutF.mk' rfl HF.out.1 HF.out.2 (Or.inl rfl)

set_option maxHeartbeats 4000000 in
/-- In the midst, where there is no room. -/
theorem insertGrowF_any (B g n i : Nat) (xs : List Value) (h1 : ∀ v ∈ xs, v.oneCell' = true) (hn : n ≤ 10000) (w : World) (hl : w.ownsRow B 90 3 (.slice (some ⟨g, 0, none⟩) n n) n xs) (hi : i < n) (hBw : B ≤ w.heap.size) (vb vc : Nat) (vs : List Value) (hv3 : vs.length = 3) (hvs : ∀ j u, vs[j]? = some u → w.cell? ⟨vb, j, none⟩ = some u) (h1v : ∀ u ∈ vs, u.oneCell' = true) :
    Calls Tryz.prog 96 #[.slice (some ⟨g, 0, none⟩) n n, .int .i64 i, .slice (some ⟨vb, 0, none⟩) 1 vc] w fun e w' => insOutF B n (.slice (some ⟨g, 0, none⟩) n n) (xs.take (i * 3) ++ (vs ++ xs.drop (i * 3))) w e w' := by
  obtain ⟨cur, hg, hBg, hnc, hcm, hcs, htk, hxl⟩ := own_whole hl
  unfold maxLen at hcm
  obtain ⟨i0, hi0, hz0, hz1, hz2⟩ := info_parts info_F
  have hgw : g < w.heap.size := (Array.getElem?_eq_some_iff.1 hg).1
  have hvw : vb < w.heap.size := lt_of_cell (hvs 0 (vs[0]'(by omega)) (List.getElem?_eq_getElem (by omega)))
  have hdl : (xs.drop (i * 3)).length = (n - i) * 3 := by rw [List.length_drop, hxl]; omega
  have htl : (xs.take (i * 3)).length = i * 3 := by rw [List.length_take, hxl]; omega
  have hxat : ∀ j u, xs[j]? = some u → w.cell? ⟨g, j, none⟩ = some u := fun j u hu => by
    rw [← htk, List.getElem?_take] at hu
    split at hu
    · rw [cell_whole hg]; simpa using hu
    · cases hu
  have hold : (Builtin.firstCells i0.size i (.slice (some ⟨g, 0, none⟩) i n)).run Tryz.prog w.drew = .ok (xs.take (i * 3)).toArray w.drew := by
    rw [hz1]
    exact run_firstCells_some w.drew 3 i ⟨g, 0, none⟩ i n (xs.take (i * 3)) htl (fun j u hu => by
      rw [addr_plus, Nat.zero_add]
      rw [List.getElem?_take] at hu
      split at hu
      · exact hxat j u hu
      · cases hu)
  have hik : i + (n + 1 - i) = n + 1 := by omega
  have hkk : (n : Int) + 1 - (i : Int) = ((n + 1 - i : Nat) : Int) := by omega
  obtain ⟨G, hG⟩ : ∃ G, G = grownCap w (n + 1) n 90 := ⟨_, rfl⟩
  obtain ⟨ROW, hROW⟩ : ∃ ROW : Array Value, ROW = (xs.take (i * 3)).toArray ++ Builtin.zeroCells (Value.agg #[.int .i64 0, .bool false, .int .i64 0]).cells (n + 1 - i) ++ Builtin.zeroCells (Value.agg #[.int .i64 0, .bool false, .int .i64 0]).cells (G - (n + 1)) := ⟨_, rfl⟩
  have hrz : ∀ ty, (Builtin.append_ #[36, 3] ty #[.slice (some ⟨g, 0, none⟩) i n, .int .i64 ((n : Int) + 1 - (i : Int))]).run Tryz.prog w = .ok (.slice (some ⟨w.heap.size, 0, none⟩) (n + 1) G) (w.drew.alloc (.cells ROW 90)) := fun ty => by
    have h := Lib.run_append_grow_zeros (P := Tryz.prog) w 36 3 ty 90 i0 _ .i64 .i64 Tryz.underlying36 Tryz.underlying3 hi0 hz0 (some ⟨g, 0, none⟩) i n (xs.take (i * 3)) hold (n + 1 - i) (by omega) (by omega) (by omega) (by omega) (by rw [hz2]; omega) (by rw [hz2, hik]; exact growslice_fits (by omega) (by omega))
    rw [hik] at h
    rw [hkk, hROW, hG]
    exact h
  have hGn : n + 1 ≤ G := by rw [hG]; exact grownCap_ge w _ _ _
  have hGm : G ≤ maxLen := by rw [hG]; exact grownCap_le_maxLen w (n + 1) n _ (by unfold maxLen; omega)
  have hzc : ∀ k, (Builtin.zeroCells (Value.agg #[.int .i64 0, .bool false, .int .i64 0]).cells k).size = k * 3 := fun k => by rw [size_zeroCells]; rfl
  have hRs : ROW.size = G * 3 := by
    rw [hROW]
    simp only [Array.size_append, hzc, List.size_toArray, htl]
    omega
  have hRt : ROW.toList.take (i * 3) = xs.take (i * 3) := by
    rw [hROW, Array.toList_append, Array.toList_append, List.append_assoc, List.take_append_of_le_length (by rw [htl]; exact Nat.le_refl _), List.take_of_length_le (by rw [htl]; exact Nat.le_refl _)]
  obtain ⟨W1, hW1⟩ : ∃ W1, W1 = w.drew.alloc (.cells ROW 90) := ⟨_, rfl⟩
  rw [← hW1] at hrz
  obtain ⟨N, hN⟩ : ∃ N, N = w.heap.size := ⟨_, rfl⟩
  have hg1 : W1.heap[N]? = some (.cells ROW 90 (0, 0)) := by rw [hW1, hN]; exact heap_alloc_new w.drew _
  have hbW : Below w.heap.size w W1 := by rw [hW1]; exact (Below.drew (Below.refl _ w)).alloc (Nat.le_refl _) _
  obtain ⟨c2, hc2⟩ : ∃ c2, c2 = (splice ROW.toList (i * 3) vs).toArray := ⟨_, rfl⟩
  have hc2s : c2.size = G * 3 := by rw [hc2, splice_len (by rw [hv3, Array.length_toList, hRs]; omega), Array.length_toList, hRs]
  have hcpA : ∀ ty dc, (Builtin.copy_ #[36, 36] ty #[.slice (some ⟨N, i * 3, none⟩) (n + 1 - i) dc, .slice (some ⟨vb, 0, none⟩) 1 vc]).run Tryz.prog W1 = .ok (goInt 1) (W1.setRow N c2) := fun ty dc => by
    rw [hc2]
    exact run_copy_rowk (P := Tryz.prog) _ _ _ ty 90 N (i * 3) _ dc ⟨vb, 0, none⟩ 1 vc ROW 90 vs 3 1 Tryz.underlying36 size_F hg1 (by simp only [Nat.min_def]; split <;> omega) hv3 (fun j u hu => by
      rw [addr_plus, Nat.zero_add]
      exact (bcell hbW hvw _).trans (hvs j u hu)) (by rw [hv3, hRs]; omega) h1v
  have hg2 : ((W1.setRow N c2).drew).heap[N]? = some (.cells c2 90 (0, 0)) := heap_setRow (w := W1) hg1
  have hcpB : ∀ ty dc sc, (Builtin.copy_ #[36, 36] ty #[.slice (some ⟨N, (i + 1) * 3, none⟩) (n + 1 - (i + 1)) dc, .slice (some ⟨g, i * 3, none⟩) (n - i) sc]).run Tryz.prog (W1.setRow N c2).drew = .ok (goInt ((n - i : Nat) : Int)) ((W1.setRow N c2).drew.setRow N (splice c2.toList ((i + 1) * 3) (xs.drop (i * 3))).toArray) := fun ty dc sc =>
    run_copy_rowk (P := Tryz.prog) _ _ _ ty 90 N ((i + 1) * 3) _ dc ⟨g, i * 3, none⟩ _ sc c2 90 (xs.drop (i * 3)) 3 (n - i) Tryz.underlying36 size_F hg2 (by simp only [Nat.min_def]; split <;> omega) hdl (fun j u hu => by
      rw [addr_plus]
      rw [List.getElem?_drop] at hu
      have e1 : (W1.setRow N c2).drew.cell? ⟨g, i * 3 + j, none⟩ = W1.cell? ⟨g, i * 3 + j, none⟩ := World.cell?_of_block (a := ⟨g, i * 3 + j, none⟩) (setRow_other W1 N g c2 (by omega))
      rw [e1]
      exact (bcell hbW hgw _).trans (hxat _ u hu)) (by rw [hdl, hc2s]; omega) (fun v hv => h1 v (List.mem_of_mem_drop hv))
  have HF : Hid (((W1.setRow N c2).drew.setRow N (splice c2.toList ((i + 1) * 3) (xs.drop (i * 3))).toArray).ownsRow B 90 3 (.slice (some ⟨N, 0, none⟩) (n + 1) G) (n + 1) (xs.take (i * 3) ++ (vs ++ xs.drop (i * 3))) ∧ w.grownBy ((W1.setRow N c2).drew.setRow N (splice c2.toList ((i + 1) * 3) (xs.drop (i * 3))).toArray) (some g) ∧ N = w.heap.size) := by
    have hlen : (i + 1) * 3 + (xs.drop (i * 3)).length ≤ c2.toList.length := by rw [hdl, Array.length_toList, hc2s]; omega
    refine ⟨?_, ?_, hN⟩
    · have := own_of_whole (B := B) (n := n + 1) (c := G) (sz := 3) (heap_setRow (cs := (splice c2.toList ((i + 1) * 3) (xs.drop (i * 3))).toArray) hg2) (by omega) hGn hGm (by rw [splice_len hlen, Array.length_toList, hc2s])
      have e : (splice c2.toList ((i + 1) * 3) (xs.drop (i * 3))).take ((n + 1) * 3) = xs.take (i * 3) ++ (vs ++ xs.drop (i * 3)) := by
        have e1 : c2.toList.take ((i + 1) * 3) = xs.take (i * 3) ++ vs := by
          rw [hc2]
          show (splice ROW.toList (i * 3) vs).take ((i + 1) * 3) = _
          unfold splice
          rw [hRt, ← List.append_assoc, List.take_append_of_le_length (by rw [List.length_append, htl, hv3]; omega), List.take_of_length_le (by rw [List.length_append, htl, hv3]; omega)]
        rw [splice, e1, ← List.append_assoc, List.take_append_of_le_length (by simp only [List.length_append, htl, hv3, hdl]; omega), List.take_of_length_le (by simp only [List.length_append, htl, hv3, hdl]; omega), List.append_assoc]
      rw [← e]
      exact this
    · have b1 : Below w.heap.size W1 (W1.setRow N c2) := ⟨rfl, rfl, rfl, by simp [World.setRow], fun k hk => setRow_other W1 N k c2 (by omega)⟩
      have b2 : ∀ cs, Below w.heap.size (W1.setRow N c2).drew ((W1.setRow N c2).drew.setRow N cs) := fun cs => ⟨rfl, rfl, rfl, by simp [World.setRow], fun k hk => setRow_other _ N k _ (by omega)⟩
      exact grown_below (((hbW.trans b1).drew).trans (b2 _))
  have hq1 : ¬ ((i : Int) = (n : Int)) := by omega
  have hq2 : i ≤ n := by omega
  have hq3 : ¬ n = i := by omega
  have hq4 : ¬ G = i := by omega
  have hq5 : ¬ G = i + 1 := by omega
  have hq7 : (0 : Int) ≤ (n : Int) + 1 := by omega
  have hq8 : (n : Int) < (n : Int) + 1 := by omega
  have hq9 : ((n : Int) + 1).toNat = n + 1 := by omega
  have hq10 : ((i : Int) + 1).toNat = i + 1 := by omega
  have hq11 : (0 : Int) ≤ (i : Int) + 1 := by omega
  have hq12 : (i : Int) + 1 ≤ (n : Int) + 1 := by omega
  have hq13 : (i : Int) ≤ (n : Int) + 1 := by omega
  have hq14 : i ≤ n + 1 := by omega
  have hw1 : IntKind.i64.wrap ((i : Int) + 1) = (i : Int) + 1 := by rw [IntKind.wrap_i64]; omega
  have HN := Lib.hid hN
  clear hROW hG hc2 hc2s hg1 hg2 hdl htl hl h1 hg hcs htk hxl h1v hxat hold hRs hRt hzc hW1 hbW hvs hik hkk hi0 hz0 hz1 hz2 hGm hN
  rw [← HN.out] at hrz
  go_enter Tryz.func96, Tryz.ntmps96
  go_wp2_with (first | (at_builtin; refine Lib.wpList_append_run _ rfl _ _ _ _ rfl _ _ rfl rfl _ _ (hrz _) ?_) | (refine wpList_copy_run _ rfl _ _ 36 36 rfl _ _ rfl rfl (hcpA _ _) ?_))
  go_region_law (refine step_copy_run rfl _ _ 36 36 rfl _ _ (by simp [Act.eval, Act.put]) (by simp [Act.eval, Act.put]) (hcpB _ (G - (i + 1)) (n - i)) ?_)
  go_wp2
  go_ret
  exact insOutF.mk' rfl HF.out.1 HF.out.2.1 (Or.inr HF.out.2.2)

theorem insertF_any (B n i : Nat) (v : Value) (xs : List Value) (h1 : ∀ v ∈ xs, v.oneCell' = true) (hn : n ≤ 10000) (w : World) (hl : w.ownsRow B 90 3 v n xs) (hi : i ≤ n) (hBw : B ≤ w.heap.size) (vb vc : Nat) (vs : List Value) (hv3 : vs.length = 3) (hvb : w.heap[vb]? = some (.cells vs.toArray 90 (0, 0))) (h1v : ∀ u ∈ vs, u.oneCell' = true) (hne : v.ownBlock ≠ some vb) :
    Calls Tryz.prog 96 #[v, .int .i64 i, .slice (some ⟨vb, 0, none⟩) 1 vc] w fun e w' => insOutF B n v (xs.take (i * 3) ++ (vs ++ xs.drop (i * 3))) w e w' := by
  have hvs : ∀ j u, vs[j]? = some u → w.cell? ⟨vb, j, none⟩ = some u := fun j u hu => by rw [cell_whole hvb]; simpa using hu
  by_cases e : i = n
  · subst e
    rw [List.take_of_length_le (by rw [hl.1]; exact Nat.le_refl _), List.drop_eq_nil_of_le (by rw [hl.1]; exact Nat.le_refl _), List.append_nil]
    exact insertEndF_any B i v xs hn w hl hBw vb vc vs hv3 hvs h1v
  · rcases hl.2 with ⟨_, h0⟩ | ⟨g, c, cur, rfl, hBg, hg, hnc, _⟩
    · omega
    · by_cases hc : n + 1 ≤ c
      · exact insertMidF_any B g n c i xs h1 hn w hl (by omega) hc vb vc vs hv3 hvb h1v (fun e => hne (by rw [e]; rfl))
      · obtain rfl : c = n := by omega
        exact insertGrowF_any B g c i xs h1 hn w hl (by omega) hBw vb vc vs hv3 hvs h1v
end Go.Proofs.YtbnddpknejgmhaaGreat
