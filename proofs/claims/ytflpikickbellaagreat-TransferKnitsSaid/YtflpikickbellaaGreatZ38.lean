/- Layer 34, contracts. -/
import Derived.Test.YtflpikickbellaaGreatZ10
namespace Go.Proofs.YtflpikickbellaaGreat
open Go.RowKit Go.Shelf Go.Lib
set_option maxRecDepth 100000
theorem info_intC : (Tryz.prog.info? 3).map (fun i => (i.zero, i.size, i.bytes)) = some (some (.int .i64 0), 1, 8) := by kernel_rfl
set_option maxHeartbeats 2000000 in
theorem grow_any (n : Nat) (hn : n ≤ 1000000) (w : World) : Calls Tryz.prog 163 #[.slice none 0 0, .int .i64 (n : Int)] w fun e w' => ∃ v, e = .returned v ∧ ownI w' w.heap.size v [] ∧ Below w.heap.size w w' := by
 obtain ⟨i0, hi0, hz0, hz1, hz2⟩ := info_parts info_intC
 by_cases h0 : n = 0
 · subst h0
   clear hi0 hz0 hz1 hz2 hn
   go_enter Tryz.func163, Tryz.ntmps163
   go_wp2
   go_ret
   exact ⟨_, rfl, World.ownsRow_nil _ _ _ _, Below.refl _ _⟩
 · have hrz : ∀ ty, (Builtin.append_ #[22, 3] ty #[.slice none 0 0, .int .i64 (n : Int)]).run Tryz.prog w = .ok (.slice (some ⟨w.heap.size, 0, none⟩) n (grownCap w n 0 3)) (w.drew.alloc (.cells (([] : List Value).toArray ++ Builtin.zeroCells (Value.int .i64 0).cells n ++ Builtin.zeroCells (Value.int .i64 0).cells (grownCap w n 0 3 - n)) 3)) := fun ty => by
    have h := Lib.run_append_grow_zeros (P := Tryz.prog) w 22 3 ty 3 i0 _ .i64 .i64 Tryz.underlying22 Tryz.underlying3 hi0 hz0 none 0 0 [] (by rw [hz1]; exact run_firstCells_none w.drew 1 0 0 0) n (by omega) (by omega) (by omega) (by omega) (by rw [hz2]; omega) (by rw [hz2, Nat.zero_add]; exact growslice_fits (by omega) (by omega))
    rw [Nat.zero_add] at h
    exact h
   obtain ⟨ROW, hR⟩ : ∃ ROW : Array Value, ROW = ([] : List Value).toArray ++ Builtin.zeroCells (Value.int .i64 0).cells n ++ Builtin.zeroCells (Value.int .i64 0).cells (grownCap w n 0 3 - n) := ⟨_, rfl⟩
   have hGn : n ≤ grownCap w n 0 3 := grownCap_ge w _ _ _
   have hGm : grownCap w n 0 3 ≤ maxLen := grownCap_le_maxLen w n 0 _ (by unfold maxLen; omega)
   have hzc : ∀ k, (Builtin.zeroCells (Value.int .i64 0).cells k).size = k := fun k => by rw [size_zeroCells]; exact Nat.mul_one k
   have hRs : ROW.size = grownCap w n 0 3 * 1 := by
    rw [hR]
    simp only [Array.size_append, hzc, List.size_toArray, List.length_nil]
    omega
   rw [← hR] at hrz
   have hO : Hid (ownI (w.drew.alloc (.cells ROW 3)) w.heap.size (.slice (some ⟨w.heap.size, 0, none⟩) 0 (grownCap w n 0 3)) []) := own_of_whole (n := 0) (heap_alloc_new w.drew _) (Nat.le_refl _) (Nat.zero_le _) hGm hRs
   have hB : Hid (Below w.heap.size w (w.drew.alloc (.cells ROW 3))) := (Below.drew (Below.refl _ w)).alloc (Nat.le_refl _) _
   obtain ⟨G, hG⟩ : ∃ G, G = grownCap w n 0 3 := ⟨_, rfl⟩
   rw [← hG] at hrz hO hGn hGm
   unfold maxLen at hGm
   have h1 : 0 < n := by omega
   clear hR hRs hzc hG hz0 hz1 hz2 hi0 h0
   go_enter Tryz.func163, Tryz.ntmps163
   go_wp2_with (at_builtin; refine Lib.wpList_append_run _ rfl _ _ _ _ rfl _ _ rfl rfl _ _ (hrz _) ?_)
   go_ret
   exact ⟨_, rfl, hO.out, hB.out⟩
def sumL (p : List (List Int)) (k : Nat) : Nat := ((p.take k).map List.length).sum
theorem sumL_zero (p : List (List Int)) : sumL p 0 = 0 := by simp [sumL]
theorem sumL_next {p : List (List Int)} {k : Nat} {row : List Int} (h : p[k]? = some row) : sumL p (k + 1) = sumL p k + row.length := by
 unfold sumL
 rw [List.take_add_one, h]
 simp
theorem sumL_le {p : List (List Int)} (h : ∀ row ∈ p, row.length ≤ 101) : ∀ k, k ≤ p.length → sumL p k ≤ k * 101
 | 0, _ => by simp [sumL]
 | k + 1, hk => by
   have hg : p[k]? = some p[k] := List.getElem?_eq_getElem (by omega)
   rw [sumL_next hg]
   have h1 := sumL_le h k (by omega)
   have h2 := h p[k] (List.getElem_mem _)
   omega
theorem flat_next {p : List (List Int)} {k : Nat} {row : List Int} (h : p[k]? = some row) : (p.take (k + 1)).flatten = (p.take k).flatten ++ row := by
 rw [List.take_add_one, h, List.flatten_append]
 simp
theorem sumL_flat (p : List (List Int)) (k : Nat) : ((p.take k).flatten).length = sumL p k := by unfold sumL; rw [List.length_flatten]
theorem ownI_app {w : World} {B n c : Nat} {a A : Option Addr} {l row : List Int} (h : ownI w B (.slice a n c) l) (hB : B ≤ w.heap.size) (hs : SlI w w.heap.size A row) (hl : l.length + row.length ≤ 1000000) (C : Nat) :
 ∃ A' c' w', (Builtin.append_ #[22, 22] 22 #[.slice a n c, .slice A row.length C]).run Tryz.prog w = .ok (.slice A' (l.length + row.length) c') w' ∧ ownI w' B (.slice A' (l.length + row.length) c') (l ++ row) ∧ Below B w w' := by
 obtain ⟨ii, hii, hii0, hii1, hii2⟩ := info_parts info_intC
 obtain ⟨A', c', w', hr, ho, hg, -⟩ := run_app_any Tryz.underlying22 hii hii0 hii1 hii2 rfl (by decide) h A row.length C (intV row) (by unfold intV; simp) (fun e => by
  cases row with
  | nil => rfl
  | cons x r => obtain ⟨b, off, e', -⟩ := hs (by simp); rw [e] at e'; cases e') (fun ad e j u hu => by
  have hj : j < row.length := by have := (List.getElem?_eq_some_iff.1 hu).1; unfold intV at this; simpa using this
  obtain ⟨b, off, e', hB, hc⟩ := hs (fun e2 => by subst e2; simp at hj)
  rw [e] at e'; cases e'
  unfold intV at hu
  rw [List.getElem?_map, List.getElem?_eq_getElem hj] at hu
  simp only [Option.map_some, Option.some.injEq] at hu
  subst hu
  rw [addr_plus]
  exact hc j _ (List.getElem?_eq_getElem hj)) (by intro u hu; unfold intV at hu; obtain ⟨x, -, rfl⟩ := List.mem_map.1 hu; rfl) (by unfold maxLen; omega) (by omega) hB
 refine ⟨A', c', w', hr, ?_, Below.of_grown hg hB (fun k e => (World.ownsRow.lt h k e).1)⟩
 unfold ownI
 rw [List.length_append]
 have e : intV (l ++ row) = intV l ++ intV row := by unfold intV; rw [List.map_append]
 rw [e]
 exact ho
theorem ownI_form {w : World} {B : Nat} {v : Value} {l : List Int} (h : ownI w B v l) : ∃ a c, v = .slice a l.length c := by
 rcases h.2 with ⟨rfl, h0⟩ | ⟨g, cap, cur, rfl, -⟩
 · rw [h0]; exact ⟨none, 0, rfl⟩
 · exact ⟨_, _, rfl⟩
set_option maxHeartbeats 4000000 in
theorem concat_any (A : Option Addr) (c : Nat) (p : List (List Int)) (w : World) (h : SlRows w w.heap.size A p) (hp : p.length ≤ 100) (hrl : ∀ row ∈ p, row.length ≤ 101) :
 Calls Tryz.prog 154 #[.slice A p.length c] w fun e w' => ∃ v, e = .returned v ∧ ownI w' w.heap.size v p.flatten ∧ Below w.heap.size w w' := by
 have HS := Lib.hid h
 have HL := Lib.hid (sumL_le hrl)
 clear h
 go_enter Tryz.func154, Tryz.ntmps154
 go_wp2
 go_loop [3, 11] (fun s3 i => ∃ k S : Nat, k ≤ p.length ∧ i = .int .i64 (k : Int) ∧ s3 = .int .i64 (S : Int) ∧ S ≤ 20000 ∧ Hid (S = sumL p k)) (fun _ i => p.length - (intOf i).toNat)
 case atStart => exact ⟨0, 0, Nat.zero_le _, rfl, rfl, by omega, (sumL_zero p).symm⟩
 case round =>
  obtain ⟨k, S, hk, rfl, rfl, hS, HE⟩ := hrel
  by_cases hlt : k < p.length
  case pos =>
   obtain ⟨b, off, row, A', C', hA, hB, hz, hc, hs⟩ := HS.out.at_ hlt
   subst hA
   have hr := hrl row (List.mem_of_getElem? hz)
   have HN : Hid (S + row.length = sumL p (k + 1)) := by show _ = _; rw [sumL_next hz, HE.out]
   have hS2 : S + row.length ≤ 10100 := by have := HL.out (k + 1) hlt; rw [HN.out]; omega
   have d0 : decide ((S : Int) + (row.length : Int) < 0) = false := decide_eq_false (by omega)
   clear hs hz
   go_wp2
   go_round
   case rel => exact ⟨k + 1, S + row.length, by omega, by go_num, by go_num, by omega, HN.out⟩
   case measure => simp [intOf]; omega
  case neg =>
   obtain rfl : k = p.length := by omega
   have HG := Lib.hid (grow_any S (by omega) w)
   clear hlt hk
   go_upto_region 11 with ((go_at_call 163; refine HG.out.mono ?_; rintro e w1 ⟨v, rfl, hown, hb⟩))
   have HO : Hid (ownI w1 w.heap.size v (p.take 0).flatten) := hown
   have HB := Lib.hid hb
   clear hown hb HG
   go_wp2
   go_loopw [6, 27] (fun s6 i wr => ∃ k : Nat, k ≤ p.length ∧ i = .int .i64 (k : Int) ∧ Hid (ownI wr w.heap.size s6 (p.take k).flatten) ∧ Hid (Below w.heap.size w wr)) (fun _ i _ => p.length - (intOf i).toNat)
   case atStart => exact ⟨0, Nat.zero_le _, rfl, HO.out, HB.out⟩
   case round =>
    obtain ⟨k, hk, rfl, HO2, HB2⟩ := hrel
    clear HO HB
    by_cases hlt : k < p.length
    case pos =>
     obtain ⟨b, off, row, A', C', hA, hB, hz, hc0, hs⟩ := HS.out.at_ hlt
     subst hA
     have hc := (bcell HB2.out hB _).trans hc0
     have hr := hrl row (List.mem_of_getElem? hz)
     obtain ⟨a6, c6, rfl⟩ := ownI_form HO2.out
     have hsum := sumL_flat p k
     have hle := HL.out k hk
     obtain ⟨A7, c7, w7, hrun, hown7, hb7⟩ := ownI_app HO2.out HB2.out.size ((hs.below HB2.out).more HB2.out.size) (by omega) C'
     rw [← flat_next hz] at hown7
     obtain ⟨N, hN⟩ : ∃ N, N = (p.take k).flatten.length := ⟨_, rfl⟩
     rw [← hN] at hrun hown7 ⊢
     clear hN
     have HO7 := Lib.hid hown7
     have HB7 := Lib.hid (HB2.out.trans hb7)
     clear hown7 hb7 hsum hle hs hz hc0 HO2
     go_wp2_with (at_builtin; refine Lib.wpList_append_run _ rfl _ _ _ _ rfl _ _ rfl rfl _ _ hrun ?_)
     go_roundw
     case rel => exact ⟨k + 1, by omega, by go_num, HO7.out, HB7.out⟩
     case measure => simp [intOf]; omega
    case neg =>
     obtain rfl : k = p.length := by omega
     have ho := HO2.out
     rw [List.take_length] at ho
     have HO3 := Lib.hid ho
     clear ho HO2 hk hlt
     go_wp2
     go_ret
     exact ⟨_, rfl, HO3.out, HB2.out⟩
end Go.Proofs.YtflpikickbellaaGreat
