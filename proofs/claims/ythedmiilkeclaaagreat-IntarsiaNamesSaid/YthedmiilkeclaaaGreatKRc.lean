/- Layer 34, contracts: Longest, checked, Bindings of the program. Layer 34, contracts: checked and Bindings of the program. Layer 34, contracts: the reference's Longest, looked, bound. Layer 34, contracts: the reference's Bindings; SamePairs of two slices that hold the same. Layer 34, contracts: SamePairs of two slices that hold the same pairs; the law IntarsiaAsks walked. -/
import Derived.Test.YthedmiilkeclaaaGreatKRb
namespace Go.Proofs.YthedmiilkeclaaaGreat
open Go.RowKit Go.Shelf
open Go.Proofs.YthedmiilkeclaaaGreat.I34
attribute [local go_sem] Oper.semAt_some
set_option maxRecDepth 100000

def maxF (l : List F101) : Nat := (l.map (·.1)).foldl max 0
theorem maxF_snoc (l : List F101) (x : F101) : maxF (l ++ [x]) = max (maxF l) x.1 := by simp [maxF]
theorem lens_bound {p : List (List Int)} (hp : chk p = 0) : ∀ n ∈ lens p, n ≤ 100 := by
  intro n hn
  unfold lens at hn
  rw [List.mem_flatMap] at hn
  obtain ⟨row, hr, hn⟩ := hn
  rw [List.mem_flatMap] at hn
  obtain ⟨c, _, hn⟩ := hn
  unfold rowLens at hn
  rw [List.mem_map] at hn
  obtain ⟨f, hf, rfl⟩ := hn
  obtain ⟨j, hj⟩ := List.mem_iff_getElem?.1 hf
  have := Row.bounds (flo_row row _) hj
  have := ((chk_zero hp).2 row hr).2
  unfold lenOf; omega
theorem toF_val {l : List Nat} (h : ∀ n ∈ l, n ≤ 100) : (toF l).map (·.1) = l := by
  unfold toF
  rw [List.map_map]
  conv => rhs; rw [← List.map_id l]
  apply List.map_congr_left
  intro n hn
  have := h n hn
  simp only [Function.comp, id]
  omega
theorem maxF_lens {p : List (List Int)} (hp : chk p = 0) : maxF (toF (lens p)) = longest p := by
  unfold maxF longest
  rw [toF_val (lens_bound hp)]

def lonR (p : List (List Int)) : Int × Int := if chk p ≠ 0 then (0, chk p) else ((longest p : Int), 0)
theorem lonR_e {p : List (List Int)} (h : chk p ≠ 0) : lonR p = (0, chk p) := by rw [lonR, if_pos h]
theorem lonR_ok {p : List (List Int)} (h : chk p = 0) : lonR p = ((longest p : Int), 0) := by rw [lonR, if_neg (by simpa using h)]

set_option maxHeartbeats 2000000 in
theorem Longest_any (A : Option Addr) (c : Nat) (p : List (List Int)) (w : World) (h : SlRows w w.heap.size A p) (hrl : ∀ row ∈ p, row.length ≤ 4611686018427387904) :
    Calls Tryz.prog 33 #[.slice A p.length c] w fun e w' => e = .returned (.tuple #[.int .i64 (lonR p).1, .int .i64 (lonR p).2]) ∧ Below w.heap.size w w' := by
  have hcall := check_any A c p w h hrl
  by_cases he : chk p = 0
  · rw [he] at hcall
    have HF := Lib.hid (lonR_ok he)
    refine (callsIn_wide (n := 3)).1 ?_
    refine callsIn_of_wp_marks Tryz.func33 rfl trivial ?_ rfl
    simp only [Tryz.ntmps33, List.size_toArray, List.length_cons, List.length_nil, Nat.reduceAdd, Nat.reduceSub, Array.replicate_succ, Array.replicate_zero, List.push_toArray, List.append_toArray, List.nil_append, List.cons_append]
    have HC := Lib.hid hcall
    clear hcall
    gi_wp2_with fail
    refine ⟨trivial, (wide_calls HC.out).mono ?_⟩
    rintro e w' ⟨rfl, rfl⟩
    gi_wp2_with fail
    refine ⟨trivial, (wide_calls (lengths_any A p.length c _)).mono ?_⟩
    rintro e w' ⟨rfl, rfl⟩
    gi_wp2
    have hcn := cell_new_l w (.int .i64 0) 3
    have hbn := cell_new_l (w.alloc (.cells #[.int .i64 0] 3)) (.slice A p.length c) 23
    rw [World.size_alloc] at hbn
    have hBw : Below w.heap.size w ((w.alloc (.cells #[.int .i64 0] 3)).alloc (.cells #[.slice A p.length c] 23)) := ((Below.refl _ w).alloc (Nat.le_refl _) _).alloc (by simp) _
    refine wpIn_rangeFunc_ownF rfl (by omega) (gf := 47) (lb := #[.pointer (some ⟨w.heap.size + 1, 0, none⟩)]) rfl trivial (enters_of Tryz.func47 (by kernel_rfl) rfl)
      (lengths_stops (3 - 1) (by omega) (w.heap.size + 1) w.heap.size w.heap.size A c p he _ (by simp) (by simp; omega) (Nat.le_refl _) hbn.1 (h.below hBw)) KC.trans (fun W l o o' _ hl ho _ => KC.put W l o o' hl ho) (Below.refl _ _) (fun _ => rfl)
      (fun pre W => (W.cell? ⟨w.heap.size, 0, none⟩ = some (.int .i64 (maxF pre : Nat)) ∧ W.frozen? ⟨w.heap.size, 0, none⟩ = false) ∧ Below w.heap.size w W)
      (fun _ _ _ => False)
      (OwnFrom.and (Own.from (fun s A B row hs hg hr => ⟨cell_kept hs.1 hg hr, (frozen_kept hs.1 hg hr).trans hs.2⟩) _) (ownFrom_below (Nat.le_refl _) (by simp; omega)))
      (fun _ _ _ _ _ hs _ _ => hs)
      ⟨⟨cell_alloc_l _ hcn.1, frozen_alloc_l _ hcn.1 hcn.2⟩, hBw⟩
      (fun x => { tmps := #[.slice A p.length c, undef, .int .i64 0, .int .i64 0, .int .i64 0, .pointer (some ⟨w.heap.size, 0, none⟩), .int .i64 ((x.1 : Nat) : Int), .slice A p.length c, .int .i64 0, .int .i64 0, .bool false, undef, .slice A p.length c,
        .func (.func 47) #[] #[.pointer (some ⟨w.heap.size + 1, 0, none⟩)], .int .i64 ((x.1 : Nat) : Int), undef, undef, undef, undef], defers := [] }) ?assign ?body ?done ?stop
    case assign =>
      intro l x W K hK
      unfold encF
      gi_wp2
      exact hK
    case body =>
      rintro l pre x W ⟨⟨hc, hf⟩, hB⟩ _
      have HB := Lib.hid hB
      clear hB
      have hset : ∀ v, (W.setCell ⟨w.heap.size, 0, none⟩ v).cell? ⟨w.heap.size, 0, none⟩ = some v := fun v => World.cell?_setCell_same' _ _ _ (by rw [hc]; rfl)
      have HS := Lib.hid hset
      clear hset
      gi_wp2
      all_goals
        refine ⟨KeepsOthers.setCell _ _ _, KC.set_ _ _ _, ⟨?_, by rw [World.frozen?_setCell]; exact hf⟩, HB.out.setCell (p := ⟨w.heap.size, 0, none⟩) (Nat.le_refl _) _⟩
        rw [HS.out, maxF_snoc]
        congr 2
        omega
    case done =>
      rintro D ys W hD rfl ⟨⟨hc, _⟩, hB⟩ hK
      rw [maxF_lens he] at hc
      gi_wp2
      refine ⟨by simp, .inl ⟨_, _, rfl, run_takeDeferred hK, ?_⟩⟩
      exact ⟨_, results_tmp2 rfl _ _ _, by rw [HF.out]; rfl, hB.trans (belowK_b (w := w) (Nat.le_refl _) W D _ _ (by simp at hD; omega) hK rfl rfl)⟩
    case stop =>
      rintro D c pre W _ _ h _
      exact h.elim
  · have HF := Lib.hid (lonR_e he)
    have hb0 : (chk p == 0) = false := beq_eq_false_iff_ne.2 he
    clear he h hrl
    generalize chk p = ec at hcall HF hb0
    go_enter Tryz.func33, Tryz.ntmps33
    go_wp2_with (go_at_call 6; refine hcall.mono ?_; rintro e w' ⟨rfl, rfl⟩)
    go_ret2
    exact ⟨by rw [HF.out]; rfl, Below.refl _ _⟩
end Go.Proofs.YthedmiilkeclaaaGreat
namespace Go.Proofs.YthedmiilkeclaaaGreat
open Go.RowKit Go.Shelf
open Go.Proofs.YthedmiilkeclaaaGreat.I34
attribute [local go_sem] Oper.semAt_some
set_option maxRecDepth 100000

/-- The error of a picture or a limit. -/
def chkL (p : List (List Int)) (limit : Int) : Int := if chk p ≠ 0 then chk p else if limit < 1 ∨ 40 < limit then 2 else 0
theorem chkL_e {p : List (List Int)} {limit : Int} (h : chk p ≠ 0) : chkL p limit = chk p := by rw [chkL, if_pos h]
theorem chkL_arg {p : List (List Int)} {limit : Int} (h : chk p = 0) (h2 : limit < 1 ∨ 40 < limit) : chkL p limit = 2 := by rw [chkL, if_neg (by simpa using h), if_pos h2]
theorem chkL_ok {p : List (List Int)} {limit : Int} (h : chk p = 0) (h2 : 1 ≤ limit ∧ limit ≤ 40) : chkL p limit = 0 := by rw [chkL, if_neg (by simpa using h), if_neg (by omega)]
theorem chkL_zero {p : List (List Int)} {limit : Int} (h : chkL p limit = 0) : chk p = 0 ∧ 1 ≤ limit ∧ limit ≤ 40 := by
  unfold chkL at h
  split at h
  · exact absurd h (by assumption)
  · split at h
    · omega
    · rename_i h1 h2; exact ⟨by simpa using h1, by omega, by omega⟩

set_option maxHeartbeats 1000000 in
theorem checked_any (A : Option Addr) (c : Nat) (p : List (List Int)) (limit : Int) (w : World) (h : SlRows w w.heap.size A p) (hrl : ∀ row ∈ p, row.length ≤ 4611686018427387904) :
    Calls Tryz.prog 17 #[.slice A p.length c, .int .i64 limit] w fun e w' => e = .returned (.int .i64 (chkL p limit)) ∧ w = w' := by
  have hcall := check_any A c p w h hrl
  by_cases he : chk p = 0
  · rw [he] at hcall
    by_cases harg : limit < 1 ∨ 40 < limit
    · have HF := Lib.hid (chkL_arg he harg)
      clear he h hrl
      have hcases : limit < 1 ∨ (1 ≤ limit ∧ 40 < limit) := by omega
      clear harg
      rcases hcases with h1 | ⟨h1, h2⟩
      all_goals
        go_enter Tryz.func17, Tryz.ntmps17
        go_wp2_with (go_at_call 6; refine hcall.mono ?_; rintro e w' ⟨rfl, rfl⟩)
        go_ret
        exact ⟨by rw [HF.out]; rfl, rfl⟩
    · have h2 : 1 ≤ limit ∧ limit ≤ 40 := by omega
      have HF := Lib.hid (chkL_ok he h2)
      clear he h hrl harg
      obtain ⟨h1, h2⟩ := h2
      go_enter Tryz.func17, Tryz.ntmps17
      go_wp2_with (go_at_call 6; refine hcall.mono ?_; rintro e w' ⟨rfl, rfl⟩)
      go_ret
      exact ⟨by rw [HF.out]; rfl, rfl⟩
  · have HF := Lib.hid (chkL_e (limit := limit) he)
    have hb0 : (chk p == 0) = false := beq_eq_false_iff_ne.2 he
    clear he h hrl
    generalize chk p = ec at hcall HF hb0
    go_enter Tryz.func17, Tryz.ntmps17
    go_wp2_with (go_at_call 6; refine hcall.mono ?_; rintro e w' ⟨rfl, rfl⟩)
    go_ret
    exact ⟨by rw [HF.out]; rfl, rfl⟩

def sumF (m : Nat) (l : List F101) : Nat := ((l.map (·.1)).map (· / m)).sum
theorem sumF_snoc (m : Nat) (l : List F101) (x : F101) : sumF m (l ++ [x]) = sumF m l + x.1 / m := by simp [sumF]
theorem sumF_le (m : Nat) : ∀ l : List F101, sumF m l ≤ l.length * 100
  | [] => by simp [sumF]
  | x :: l => by
    have ih := sumF_le m l
    have h1 : x.1 / m ≤ x.1 := Nat.div_le_self _ _
    have h2 := x.2
    have e : sumF m (x :: l) = x.1 / m + sumF m l := by simp [sumF]
    rw [e, List.length_cons]; omega
theorem sumF_lens {p : List (List Int)} {limit : Nat} (hp : chk p = 0) : sumF (limit + 1) (toF (lens p)) = sumBind limit p := by
  unfold sumF sumBind
  rw [toF_val (lens_bound hp)]
theorem length_flatMap_le {α β : Type} (f : α → List β) (n : Nat) : ∀ l : List α, (∀ x ∈ l, (f x).length ≤ n) → (l.flatMap f).length ≤ l.length * n
  | [], _ => by simp
  | x :: l, h => by
    have ih := length_flatMap_le f n l (fun y hy => h y (List.mem_cons_of_mem _ hy))
    have := h x (List.mem_cons_self ..)
    rw [List.flatMap_cons, List.length_append, List.length_cons, Nat.add_mul]; omega
theorem lens_length {p : List (List Int)} (hp : chk p = 0) : (lens p).length ≤ 60600 := by
  have h1 := (chk_zero hp).1
  have h2 : (lens p).length ≤ p.length * (6 * 101) := by
    unfold lens
    refine length_flatMap_le _ _ _ fun row hr => ?_
    have h3 := length_flatMap_le (fun c => rowLens row c) 101 (List.range 6) (fun c _ => by
      unfold rowLens
      rw [List.length_map]
      have := floTo_len row ((c : Int) + 1) row.length
      have := ((chk_zero hp).2 row hr).2
      unfold flo; omega)
    simpa using h3
  omega

def binR (p : List (List Int)) (limit : Int) : Int × Int := if chkL p limit ≠ 0 then (0, chkL p limit) else ((sumBind limit.toNat p : Nat), 0)
theorem binR_e {p : List (List Int)} {limit : Int} (h : chkL p limit ≠ 0) : binR p limit = (0, chkL p limit) := by rw [binR, if_pos h]
theorem binR_ok {p : List (List Int)} {limit : Int} (h : chkL p limit = 0) : binR p limit = (((sumBind limit.toNat p : Nat) : Int), 0) := by rw [binR, if_neg (by simpa using h)]

set_option maxHeartbeats 2000000 in
theorem Bindings_any (A : Option Addr) (c : Nat) (p : List (List Int)) (limit : Int) (w : World) (h : SlRows w w.heap.size A p) (hrl : ∀ row ∈ p, row.length ≤ 4611686018427387904) :
    Calls Tryz.prog 9 #[.slice A p.length c, .int .i64 limit] w fun e w' => e = .returned (.tuple #[.int .i64 (binR p limit).1, .int .i64 (binR p limit).2]) ∧ Below w.heap.size w w' := by
  have hBl : Below w.heap.size w (w.alloc (.cells #[.int .i64 limit] 3)) := (Below.refl _ w).alloc (Nat.le_refl _) _
  have hcall := checked_any A c p limit _ ((h.below hBl).more hBl.size) hrl
  by_cases he : chkL p limit = 0
  · rw [he] at hcall
    have HF := Lib.hid (binR_ok he)
    obtain ⟨hp0, hl1, hl2⟩ := chkL_zero he
    obtain ⟨lim, rfl⟩ := Int.eq_ofNat_of_zero_le (show 0 ≤ limit by omega)
    rw [Int.toNat_natCast] at HF
    have hl3 : lim ≤ 40 := by omega
    have hlen := lens_length hp0
    refine (callsIn_wide (n := 3)).1 ?_
    refine callsIn_of_wp_marks Tryz.func9 rfl trivial ?_ rfl
    simp only [Tryz.ntmps9, List.size_toArray, List.length_cons, List.length_nil, Nat.reduceAdd, Nat.reduceSub, Array.replicate_succ, Array.replicate_zero, List.push_toArray, List.append_toArray, List.nil_append, List.cons_append]
    have HC := Lib.hid hcall
    clear hcall he
    gi_wp2_with fail
    refine ⟨trivial, (wide_calls HC.out).mono ?_⟩
    rintro e w' ⟨rfl, rfl⟩
    gi_wp2_with fail
    refine ⟨trivial, (wide_calls (lengths_any A p.length c _)).mono ?_⟩
    rintro e w' ⟨rfl, rfl⟩
    gi_wp2
    have hln := cell_new_l w (.int .i64 (lim : Int)) 3
    have hcn := cell_new_l (w.alloc (.cells #[.int .i64 (lim : Int)] 3)) (.int .i64 0) 3
    have hbn := cell_new_l ((w.alloc (.cells #[.int .i64 (lim : Int)] 3)).alloc (.cells #[.int .i64 0] 3)) (.slice A p.length c) 23
    simp only [World.size_alloc] at hbn hcn
    have hBw : Below w.heap.size w (((w.alloc (.cells #[.int .i64 (lim : Int)] 3)).alloc (.cells #[.int .i64 0] 3)).alloc (.cells #[.slice A p.length c] 23)) := (((Below.refl _ w).alloc (Nat.le_refl _) _).alloc (by simp) _).alloc (by simp; omega) _
    refine wpIn_rangeFunc_ownF rfl (by omega) (gf := 47) (lb := #[.pointer (some ⟨w.heap.size + 1 + 1, 0, none⟩)]) rfl trivial (enters_of Tryz.func47 (by kernel_rfl) rfl)
      (lengths_stops (3 - 1) (by omega) (w.heap.size + 1 + 1) w.heap.size (w.heap.size + 1) A c p hp0 _ (by simp) (by simp) (by omega) hbn.1 (h.below hBw)) KC.trans (fun W l o o' _ hl ho _ => KC.put W l o o' hl ho) (Below.refl _ _) (fun _ => rfl)
      (fun pre W => ((W.cell? ⟨w.heap.size + 1, 0, none⟩ = some (.int .i64 (sumF (lim + 1) pre : Nat)) ∧ W.frozen? ⟨w.heap.size + 1, 0, none⟩ = false) ∧ W.cell? ⟨w.heap.size, 0, none⟩ = some (.int .i64 (lim : Int))) ∧ Below w.heap.size w W)
      (fun _ _ _ => False)
      (OwnFrom.and (Own.from (fun s A B row hs hg hr => ⟨⟨cell_kept hs.1.1 hg hr, (frozen_kept hs.1.1 hg hr).trans hs.1.2⟩, cell_kept hs.2 hg hr⟩) _) (ownFrom_below (Nat.le_refl _) (by simp; omega)))
      (fun _ _ _ _ _ hs _ _ => hs)
      ⟨⟨⟨cell_alloc_l _ hcn.1, frozen_alloc_l _ hcn.1 hcn.2⟩, cell_alloc_l _ (cell_alloc_l _ hln.1)⟩, hBw⟩
      (fun x => { tmps := #[.slice A p.length c, .int .i64 (lim : Int), undef, .pointer (some ⟨w.heap.size, 0, none⟩), .int .i64 0, .int .i64 0, .int .i64 0, .pointer (some ⟨w.heap.size + 1, 0, none⟩), .int .i64 ((x.1 : Nat) : Int), .slice A p.length c, .int .i64 (lim : Int), .int .i64 0, .int .i64 0, .bool false, undef, .slice A p.length c,
        .func (.func 47) #[] #[.pointer (some ⟨w.heap.size + 1 + 1, 0, none⟩)], .int .i64 ((x.1 : Nat) : Int), undef, undef, undef, undef, undef, undef, undef], defers := [] }) ?assign ?body ?done ?stop
    case assign =>
      intro l x W K hK
      unfold encF
      gi_wp2
      exact hK
    case body =>
      rintro l pre x W ⟨⟨⟨hc, hf⟩, hcl⟩, hB⟩ hpre
      have HB := Lib.hid hB
      clear hB
      have hset : ∀ v, (W.setCell ⟨w.heap.size + 1, 0, none⟩ v).cell? ⟨w.heap.size + 1, 0, none⟩ = some v := fun v => World.cell?_setCell_same' _ _ _ (by rw [hc]; rfl)
      have HS := Lib.hid hset
      clear hset
      have hsb := sumF_le (lim + 1) pre
      have hsn := Lib.hid (sumF_snoc (lim + 1) pre x)
      have hx := x.2
      have hq : x.1 / (lim + 1) ≤ x.1 := Nat.div_le_self _ _
      generalize x.1 = xn at hx hsn hq ⊢
      have hq0 : (xn : Int) / ((lim : Int) + 1) = ((xn / (lim + 1) : Nat) : Int) := by simp
      have hlp : (1 : Int) ≤ (lim : Int) + 1 := by omega
      have hnz : ((lim : Int) + 1 == 0) = false := beq_eq_false_iff_ne.2 (by omega)
      have hw1 : IntKind.i64.wrap ((lim : Int) + 1) = (lim : Int) + 1 := IntWalk.i64_in _ (by omega)
      have hw : wrap64 (((sumF (lim + 1) pre : Nat) : Int) + wrap64 ((xn : Int) / ((lim : Int) + 1))) = ((sumF (lim + 1) pre + xn / (lim + 1) : Nat) : Int) := by
        rw [hq0]
        generalize xn / (lim + 1) = qn at hq
        rw [IntWalk.wrap64_in (qn : Int) (by omega), IntWalk.wrap64_in _ (by omega)]
        omega
      have HW := Lib.hid hw
      have HSN := Lib.hid hsn
      clear hq0 hsn hq hw
      have mixed : Tryz.prog.follows .mixedOrders = true := by kernel_rfl
      gi_wp2
      gi_region_with_o (fail)
      all_goals gi_wp2
      all_goals (try go_bits)
      all_goals
        refine ⟨(KeepsOthers.setCell _ _ _).trans (KeepsOthers.drew _), (KC.set_ _ _ _).drew, ⟨⟨?_, by rw [World.frozen?_drew, World.frozen?_setCell]; exact hf⟩, ?_⟩, (HB.out.setCell (p := ⟨w.heap.size + 1, 0, none⟩) (by simp) _).drew⟩
        · rw [World.cell?_drew, HS.out, HSN.out, HW.out]
        · rw [World.cell?_drew, World.cell?_setCell_other _ _ _ _ (by simp)]; exact hcl
    case done =>
      rintro D ys W hD rfl ⟨⟨⟨hc, _⟩, _⟩, hB⟩ hK
      rw [sumF_lens hp0] at hc
      gi_wp2
      refine ⟨by simp, .inl ⟨_, _, rfl, run_takeDeferred hK, ?_⟩⟩
      exact ⟨_, results_tmp2 rfl _ _ _, by rw [HF.out]; rfl, hB.trans (belowK_b (w := w) (Nat.le_refl _) W D _ _ (by simp at hD; omega) hK rfl rfl)⟩
    case stop =>
      rintro D c pre W _ _ h _
      exact h.elim
  · have HF := Lib.hid (binR_e he)
    have hb0 : (chkL p limit == 0) = false := beq_eq_false_iff_ne.2 he
    clear he h hrl
    generalize chkL p limit = ec at hcall HF hb0
    go_enter Tryz.func9, Tryz.ntmps9
    go_wp2_with (go_at_call 17; refine hcall.mono ?_; rintro e w' ⟨rfl, rfl⟩)
    go_ret2
    exact ⟨by rw [HF.out]; rfl, hBl⟩
end Go.Proofs.YthedmiilkeclaaaGreat
namespace Go.Proofs.YthedmiilkeclaaaGreat
open Go.RowKit
open Go.Proofs.YthedmiilkeclaaaGreat.I34
set_option maxRecDepth 100000

def mx (l : List Nat) : Nat := l.foldl max 0
theorem mx_snoc (l : List Nat) (x : Nat) : mx (l ++ [x]) = max (mx l) x := by simp [mx]
theorem mx_le {b : Nat} : ∀ {l : List Nat}, (∀ n ∈ l, n ≤ b) → mx l ≤ b := by
  intro l h
  unfold mx
  have : ∀ (l : List Nat) (a : Nat), a ≤ b → (∀ n ∈ l, n ≤ b) → l.foldl max a ≤ b := by
    intro l
    induction l with
    | nil => intro a ha _; exact ha
    | cons x l ih => intro a ha hl; exact ih _ (by have := hl x (List.mem_cons_self ..); omega) (fun n hn => hl n (List.mem_cons_of_mem _ hn))
  exact this l 0 (by omega) h
theorem mx_lens (p : List (List Int)) : mx (lens p) = longest p := rfl

set_option maxHeartbeats 1000000 in
theorem looked_any (A : Option Addr) (c : Nat) (p : List (List Int)) (limit : Int) (w : World) (h : SlRows w w.heap.size A p) (hrl : ∀ row ∈ p, row.length ≤ 4611686018427387904) :
    Calls Tryz.prog 69 #[.slice A p.length c, .int .i64 limit] w fun e w' => e = .returned (.int .i64 (chkL p limit)) ∧ Below w.heap.size w w' := by
  have hcall := rcheck_any A c p w h hrl
  by_cases he : chk p = 0
  · rw [he] at hcall
    by_cases harg : limit < 1 ∨ 40 < limit
    · have HF := Lib.hid (chkL_arg he harg)
      clear he h hrl
      have hcases : limit < 1 ∨ (1 ≤ limit ∧ 40 < limit) := by omega
      clear harg
      rcases hcases with h1 | ⟨h1, h2⟩
      all_goals
        go_enter Tryz.func69, Tryz.ntmps69
        go_wp2_with fail
        refine hcall.mono ?_
        rintro e w1 ⟨rfl, hb1⟩
        go_wp2
        go_ret
        exact ⟨by rw [HF.out]; rfl, hb1⟩
    · have h2 : 1 ≤ limit ∧ limit ≤ 40 := by omega
      have HF := Lib.hid (chkL_ok he h2)
      clear he h hrl harg
      obtain ⟨h1, h2⟩ := h2
      go_enter Tryz.func69, Tryz.ntmps69
      go_wp2_with fail
      refine hcall.mono ?_
      rintro e w1 ⟨rfl, hb1⟩
      go_wp2
      go_ret
      exact ⟨by rw [HF.out]; rfl, hb1⟩
  · have HF := Lib.hid (chkL_e (limit := limit) he)
    have hb0 : (chk p == 0) = false := beq_eq_false_iff_ne.2 he
    have hcall2 : ∀ w1, Below w.heap.size w w1 → Calls Tryz.prog 15 #[.slice A p.length c] w1 fun e w' => e = .returned (.int .i64 (chk p)) ∧ Below w1.heap.size w1 w' := fun w1 hb => rcheck_any A c p w1 ((h.below hb).more hb.size) hrl
    have HC := Lib.hid hcall2
    clear he h hrl hcall2
    generalize chk p = ec at hcall HF hb0 HC
    go_enter Tryz.func69, Tryz.ntmps69
    go_wp2_with fail
    refine hcall.mono ?_
    rintro e w1 ⟨rfl, hb1⟩
    go_wp2_with fail
    refine (HC.out w1 hb1).mono ?_
    rintro e w2 ⟨rfl, hb2⟩
    go_wp2
    go_ret
    exact ⟨by rw [HF.out]; rfl, hb1.trans (hb2.mono hb1.size)⟩

theorem boundIn_hit {l : List (Nat × Nat)} {m k j : Nat} {f : Nat × Nat} (hf : l[j]? = some f) (h1 : f.1 < k) (h2 : k < f.2) (hb : ∀ i g, i < j → l[i]? = some g → (decide (g.1 < k) && decide (k < g.2)) = false) :
    boundIn l m k = decide ((k - f.1) % m = 0) := by
  have : l.find? (fun f => decide (f.1 < k) && decide (k < f.2)) = some f := by
    obtain ⟨hj, e⟩ := List.getElem?_eq_some_iff.1 hf
    rw [List.find?_eq_some_iff_getElem]
    exact ⟨by simp [h1, h2], j, hj, e, fun i hi => by rw [hb i _ hi (List.getElem?_eq_getElem (by omega))]; simp⟩
  rw [boundIn, this]
theorem boundIn_none {l : List (Nat × Nat)} {m k : Nat} (hb : ∀ i g, i < l.length → l[i]? = some g → (decide (g.1 < k) && decide (k < g.2)) = false) : boundIn l m k = false := by
  have : l.find? (fun f => decide (f.1 < k) && decide (k < f.2)) = none := by
    rw [List.find?_eq_none]
    intro g hg
    obtain ⟨i, hi⟩ := List.mem_iff_getElem?.1 hg
    rw [hb i g (List.getElem?_eq_some_iff.1 hi).1 hi]; simp
  rw [boundIn, this]

set_option maxHeartbeats 4000000 in
theorem bound_any (A : Option Addr) (c : Nat) (row : List Int) (c1 lim k : Nat) (w : World) (h : SlI w w.heap.size A row) (hn : row.length ≤ 1000) (hl : lim ≤ 40) (hk : k < row.length) :
    Calls Tryz.prog 71 #[.slice A row.length c, .int .i64 ((c1 : Int) + 1), .int .i64 (lim : Int), .int .i64 (k : Int), .bool true] w fun e w' => e = .returned (.bool (boundB row c1 lim k)) ∧ Below w.heap.size w w' := by
  have hcall := rfloats_any A c row ((c1 : Int) + 1) w h hn
  clear h
  go_enter Tryz.func71, Tryz.ntmps71
  go_wp2_with fail
  refine hcall.mono ?_
  rintro e w2 ⟨v, rfl, hown, hb2⟩
  clear hcall
  have HBB := Lib.hid (show boundB row c1 lim k = boundIn (flo row ((c1 : Int) + 1)) (lim + 1) k from rfl)
  obtain ⟨fl, hfl⟩ : ∃ fl, flo row ((c1 : Int) + 1) = fl := ⟨_, rfl⟩
  have hfr := flo_row row ((c1 : Int) + 1)
  rw [hfl] at hown hfr HBB
  obtain ⟨av, cv, rfl⟩ := own_form hown
  have HFR := Lib.hid hfr
  have hfll : fl.length ≤ 1000 := by
    have := floTo_len row ((c1 : Int) + 1) row.length
    have e : (floTo row ((c1 : Int) + 1) row.length).1 = fl := hfl
    rw [e] at this; omega
  clear hfl hfr
  go_wp2
  go_loopw [12] (fun i wr => ∃ j : Nat, j ≤ fl.length ∧ i = .int .i64 j ∧ Below w.heap.size w wr ∧ wr.ownsRow w.heap.size 75 2 (.slice av fl.length cv) fl.length (pairCells fl) ∧
    Hid (∀ i g, i < j → fl[i]? = some g → (decide (g.1 < k) && decide (k < g.2)) = false)) (fun i _ => fl.length - (intOf i).toNat)
  case atStart => exact ⟨0, by omega, rfl, hb2, hown, fun i _ hi => absurd hi (Nat.not_lt_zero i)⟩
  case round =>
    obtain ⟨j, hj, rfl, hbw, hown, H⟩ := hrel
    by_cases hlt : j < fl.length
    · obtain ⟨g, rfl, hgB2, hgl, hcells⟩ := own_pos hown (by omega)
      have hf : fl[j]? = some fl[j] := List.getElem?_eq_getElem hlt
      generalize fl[j] = f at hf
      obtain ⟨hx, hy⟩ := pairCells_at hf
      have hcx : wr.cell? ⟨g, j * 2, none⟩ = some (.int .i64 (f.1 : Int)) := (hcells _ (by omega)).trans hx
      have hcy : wr.cell? ⟨g, j * 2 + 1, none⟩ = some (.int .i64 (f.2 : Int)) := (hcells _ (by omega)).trans hy
      have hbd := Row.bounds HFR.out hf
      have HFJ := Lib.hid hf
      have ho5 := Lib.hid hown
      clear hx hy hcells hf hown
      by_cases hin : f.1 < k ∧ k < f.2
      · obtain ⟨h1, h2⟩ := hin
        have HE := Lib.hid (HBB.out.trans (boundIn_hit HFJ.out h1 h2 H.out))
        have hq : (k : Int) - (f.1 : Int) = ((k - f.1 : Nat) : Int) := by omega
        have hlp : (1 : Int) ≤ (lim : Int) + 1 := by omega
        have HQ := Lib.hid hq
        clear hq H
        go_wp2
        go_quiet (fail)
        go_wp2
        go_ret
        refine ⟨ret_bool ?_, below_drewN hbw _⟩
        rw [HE.out, HQ.out, show ((k - f.1 : Nat) : Int) % ((lim : Int) + 1) = (((k - f.1) % (lim + 1) : Nat) : Int) by simp]
        rw [Bool.eq_iff_iff, beq_iff_eq, decide_eq_true_iff]
        omega
      · have hn : (decide (f.1 < k) && decide (k < f.2)) = false := by
          by_cases e : f.1 < k
          · have : ¬ k < f.2 := fun e2 => hin ⟨e, e2⟩
            simp [this]
          · simp [e]
        have HN := Lib.hid hn
        clear hn
        have hcases : k ≤ f.1 ∨ (f.1 < k ∧ f.2 ≤ k) := by omega
        clear hin
        rcases hcases with h1 | ⟨h1, h2⟩
        all_goals
          go_wp2
          go_quiet (fail)
          go_wp2
          go_roundw
          case rel =>
            refine ⟨j + 1, by omega, by go_num, below_drewN hbw _, ho5.out, fun i g hi hg => ?_⟩
            by_cases e : i = j
            · subst e; rw [HFJ.out] at hg; injection hg with hg; subst hg; exact HN.out
            · exact H.out i g (by omega) hg
          case measure => simp [intOf]; omega
    · have HE := Lib.hid (HBB.out.trans (boundIn_none (fun i g hi => H.out i g (by omega))))
      clear H hown
      go_wp2
      go_ret
      exact ⟨ret_bool HE.out.symm, hbw⟩
end Go.Proofs.YthedmiilkeclaaaGreat
namespace Go.Proofs.YthedmiilkeclaaaGreat
open Go.RowKit
open Go.Proofs.YthedmiilkeclaaaGreat.I34
set_option maxRecDepth 100000

/-- How many needles have been found bound: the rows before the i-th one, the colours before c, the needles before k. -/
def bnd (lim : Nat) (p : List (List Int)) (i c k : Nat) : Nat :=
  binds lim (p.take i) + ((List.range c).map fun c => rowBinds (p.getD i []) c lim).sum + cnt k (boundB (p.getD i []) c lim)
theorem bnd_zero (lim : Nat) (p : List (List Int)) : bnd lim p 0 0 0 = 0 := by simp [bnd, binds, cnt_zero]
theorem bnd_step (lim : Nat) (p : List (List Int)) (i c k : Nat) {row : List Int} (h : p.getD i [] = row) : bnd lim p i c (k + 1) = bnd lim p i c k + if boundB row c lim k then 1 else 0 := by
  unfold bnd; rw [cnt_succ, h]; omega
theorem bnd_colour (lim : Nat) (p : List (List Int)) (i c : Nat) {row : List Int} (h : p.getD i [] = row) : bnd lim p i (c + 1) 0 = bnd lim p i c row.length := by
  unfold bnd
  rw [List.range_succ, List.map_append, List.sum_append, cnt_zero, h]
  simp [rowBinds]; omega
theorem bnd_row (lim : Nat) {p : List (List Int)} {i : Nat} (h : i < p.length) : bnd lim p (i + 1) 0 0 = bnd lim p i 6 0 := by
  unfold bnd
  have e : p.getD i [] = p[i] := by simp [List.getD, h]
  rw [List.take_succ_eq_append_getElem h, e]
  unfold binds
  rw [List.map_append, List.sum_append]
  simp [cnt_zero]
theorem bnd_all (lim : Nat) {p : List (List Int)} {i : Nat} (h : p.length ≤ i) : bnd lim p i 0 0 = binds lim p := by
  unfold bnd
  rw [List.take_of_length_le h, cnt_zero]; simp
theorem cnt_le (N : Nat) (P : Nat → Bool) : cnt N P ≤ N := by
  induction N with
  | zero => simp [cnt_zero]
  | succ n ih => rw [cnt_succ]; split <;> omega
theorem sum_le {α : Type} (f : α → Nat) (b : Nat) : ∀ l : List α, (∀ x ∈ l, f x ≤ b) → (l.map f).sum ≤ l.length * b
  | [], _ => by simp
  | x :: l, h => by
    have ih := sum_le f b l (fun y hy => h y (List.mem_cons_of_mem _ hy))
    have := h x (List.mem_cons_self ..)
    rw [List.map_cons, List.sum_cons, List.length_cons, Nat.add_mul]; omega
theorem bnd_bound {lim : Nat} {p : List (List Int)} (hp : chk p = 0) {i c k : Nat} (hi : i < p.length) (hc : c < 6) (hk : k ≤ 101) : bnd lim p i c k ≤ 70000 := by
  have h1 := (chk_zero hp).1
  have hr := (chk_zero hp).2
  have h2 : binds lim (p.take i) ≤ (p.take i).length * 606 := by
    unfold binds
    refine sum_le _ _ _ fun row hm => ?_
    have := sum_le (fun c => rowBinds row c lim) 101 (List.range 6) (fun c _ => by
      have := cnt_le row.length (boundB row c lim)
      have := (hr row (List.mem_of_mem_take hm)).2
      unfold rowBinds; omega)
    simpa using this
  have h3 : ((List.range c).map fun c => rowBinds (p.getD i []) c lim).sum ≤ c * 101 := by
    have := sum_le (fun c => rowBinds (p.getD i []) c lim) 101 (List.range c) (fun c _ => by
      have := cnt_le (p.getD i []).length (boundB (p.getD i []) c lim)
      have e2 : (p.getD i []).length ≤ 101 := by
        rw [show p.getD i [] = p[i] by simp [List.getD, hi]]
        exact (hr p[i] (List.getElem_mem hi)).2
      unfold rowBinds; omega)
    simpa using this
  have h4 := cnt_le k (boundB (p.getD i []) c lim)
  have h5 : (p.take i).length ≤ i := by rw [List.length_take]; omega
  unfold bnd
  omega

end Go.Proofs.YthedmiilkeclaaaGreat
namespace Go.Proofs.YthedmiilkeclaaaGreat
open Go.RowKit
open Go.Proofs.YthedmiilkeclaaaGreat.I34
set_option maxRecDepth 100000

/-- The slice value '.slice A l.length c' holds the pairs l, below block B. -/
def SlP (w : World) (B : Nat) (A : Option Addr) (l : List (Nat × Nat)) : Prop :=
  l ≠ [] → ∃ b, A = some ⟨b, 0, none⟩ ∧ b < B ∧ ∀ j f, l[j]? = some f → w.cell? ⟨b, j * 2, none⟩ = some (.int .i64 (f.1 : Int)) ∧ w.cell? ⟨b, j * 2 + 1, none⟩ = some (.int .i64 (f.2 : Int))
theorem SlP.below {w w' : World} {B : Nat} {A : Option Addr} {l : List (Nat × Nat)} (h : SlP w B A l) (hb : Below B w w') : SlP w' B A l := fun hn => by
  obtain ⟨b, e, hB, hc⟩ := h hn
  exact ⟨b, e, hB, fun j z hz => ⟨(bcell hb hB _).trans (hc j z hz).1, (bcell hb hB _).trans (hc j z hz).2⟩⟩
theorem SlP.more {w : World} {B B' : Nat} {A : Option Addr} {l : List (Nat × Nat)} (h : SlP w B A l) (hB' : B ≤ B') : SlP w B' A l := fun hn => by
  obtain ⟨b, e, hB, hc⟩ := h hn
  exact ⟨b, e, by omega, hc⟩
theorem SlP.of_own {w : World} {B : Nat} {e : TypeId} {a : Option Addr} {c : Nat} {l : List (Nat × Nat)} (h : w.ownsRow B e 2 (.slice a l.length c) l.length (pairCells l)) : SlP w w.heap.size a l := fun hn => by
  obtain ⟨g, rfl, _, hg, hc⟩ := own_pos h (List.length_pos_iff.2 hn)
  refine ⟨g, rfl, hg, fun j f hf => ?_⟩
  have hj := (List.getElem?_eq_some_iff.1 hf).1
  obtain ⟨h1, h2⟩ := pairCells_at hf
  exact ⟨(hc _ (by omega)).trans h1, (hc _ (by omega)).trans h2⟩

theorem forIn_two {β : Type} (b : β) (f : Nat → β → Sem (ForInStep β)) : (forIn [:2] b f : Sem β) = (f 0 b >>= fun s => match s with
    | .done b => pure b
    | .yield b => f 1 b >>= fun s => match s with
      | .done b => pure b
      | .yield b => pure b) := by
  rw [Std.Legacy.Range.forIn_eq_forIn_range']
  simp only [Std.Legacy.Range.size, List.range'_succ]
  rfl
theorem run_equalIn_pair (W : World) (d : Nat) (a b a' b' : Int) :
    (Op.equalIn (d + 2) 75 (.agg #[.int .i64 a, .int .i64 b]) (.agg #[.int .i64 a', .int .i64 b'])).run Tryz.prog W = .ok (a == a' && b == b') W := by
  have hs : ∀ w, (sizeOf 3).run Tryz.prog w = .ok 1 w := fun w => by kernel_rfl
  have h0 : ∀ (x y : Int) w, (part 3 #[.int .i64 x, .int .i64 y] 0).run Tryz.prog w = .ok (.int .i64 x) w := fun x y w => by kernel_rfl
  have h1 : ∀ (x y : Int) w, (part 3 #[.int .i64 x, .int .i64 y] 1).run Tryz.prog w = .ok (.int .i64 y) w := fun x y w => by kernel_rfl
  have he : ∀ (x y : Int) w, (Op.equalIn (d + 1) 3 (.int .i64 x) (.int .i64 y)).run Tryz.prog w = .ok (x == y) w := fun x y w => run_equalIn_int w d _ _ _ _ _ Tryz.underlying3
  rw [show d + 2 = (d + 1) + 1 by omega, Op.equalIn]
  simp only [Sem.run_bind, run_underlying Tryz.underlying75, Result.andThen_ok, hs, forIn_two, Nat.zero_mul, Nat.one_mul, h0, he]
  cases ha : a == a' <;> cases hb : b == b' <;> simp [h1, he, hb, Result.andThen]
theorem run_neq_pair (W : World) (a b a' b' : Int) : (binOp .neq 75 (.agg #[.int .i64 a, .int .i64 b]) (.agg #[.int .i64 a', .int .i64 b'])).run Tryz.prog W = .ok (.bool (!(a == a' && b == b'))) W := by
  rw [run_neq_struct, show (10000 : Nat) = 9998 + 2 from rfl, run_equalIn_pair]; rfl
set_option maxHeartbeats 2000000 in
theorem samePairs_any (A A' : Option Addr) (c c' : Nat) (l : List (Nat × Nat)) (w : World) (h : SlP w w.heap.size A l) (h' : SlP w w.heap.size A' l) (hn : l.length ≤ 4611686018427387904) :
    Calls Tryz.prog 34 #[.slice A l.length c, .slice A' l.length c'] w fun e w' => e = .returned (.bool true) ∧ Below w.heap.size w w' := by
  have hne : (((l.length : Nat) : Int) == ((l.length : Nat) : Int)) = true := by simp
  go_enter Tryz.func34, Tryz.ntmps34
  go_wp2
  go_loopw [5] (fun i wr => ∃ k : Nat, k ≤ l.length ∧ i = .int .i64 k ∧ Below w.heap.size w wr) (fun i _ => l.length - (intOf i).toNat)
  case atStart => exact ⟨0, Nat.zero_le _, rfl, Below.refl _ _⟩
  case round =>
    obtain ⟨k, hk, rfl, hbw⟩ := hrel
    by_cases hlt : k < l.length
    · have hf : l[k]? = some l[k] := List.getElem?_eq_getElem hlt
      generalize l[k] = f at hf
      obtain ⟨b, rfl, hB, hc⟩ := h (fun e => by subst e; simp at hlt)
      obtain ⟨b', rfl, hB', hc'⟩ := h' (fun e => by subst e; simp at hlt)
      have h1 := (bcell hbw hB _).trans (hc k f hf).1
      have h2 := (bcell hbw hB _).trans (hc k f hf).2
      have h3 := (bcell hbw hB' _).trans (hc' k f hf).1
      have h4 := (bcell hbw hB' _).trans (hc' k f hf).2
      clear hc hc' h h' hf
      have hneq := run_neq_pair
      go_wp2
      go_quiet (fail)
      go_wp2
      go_roundw
      case rel => exact ⟨k + 1, by omega, by go_num, below_drewN hbw _⟩
      case measure => simp [intOf]; omega
    · clear h h'
      go_wp2
      go_ret
      exact ⟨rfl, hbw⟩
end Go.Proofs.YthedmiilkeclaaaGreat
