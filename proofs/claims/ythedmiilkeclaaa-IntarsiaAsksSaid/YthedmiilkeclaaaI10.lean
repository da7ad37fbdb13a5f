/- Layer 34, contracts: checked and Bindings of the program. -/
import Derived.Test.YthedmiilkeclaaaI9
namespace Go.Proofs.Ythedmiilkeclaaa
open Go.RowKit Go.Shelf
open Go.Proofs.Ythedmiilkeclaaa.I34
attribute [local go_sem] Oper.semAt_some
set_option maxRecDepth 100000

/-- The error of a picture or a limit. -/
def chkL (p : List (List Int)) (limit : Int) : Int := if chk p ≠ 0 then chk p else if limit < 1 ∨ 40 < limit then 2 else 0
theorem chkL_e {p : List (List Int)} {limit : Int} (h : chk p ≠ 0) : chkL p limit = chk p := by rw [chkL, if_pos h]
theorem chkL_arg {p : List (List Int)} {limit : Int} (h : chk p = 0) (h2 : limit < 1 ∨ 40 < limit) : chkL p limit = 2 := by rw [chkL, if_neg (by simpa using h), if_pos h2]
theorem chkL_ok {p : List (List Int)} {limit : Int} (h : chk p = 0) (h2 : 1 ≤ limit ∧ limit ≤ 40) : chkL p limit = 0 := by rw [chkL, if_neg (by simpa using h), if_neg (by omega)]
theorem chkL_zero {p : List (List Int)} {limit : Int} (h : chkL p limit = 0) : chk p = 0 ∧ 1 ≤ limit ∧ limit ≤ 40 := by
  unfold chkL at h
  split at h
  · exact absurd h (by assumption)
  · split at h
    · omega
    · rename_i h1 h2; exact ⟨by simpa using h1, by omega, by omega⟩

set_option maxHeartbeats 1000000 in
theorem checked_any (A : Option Addr) (c : Nat) (p : List (List Int)) (limit : Int) (w : World) (h : SlRows w w.heap.size A p) (hrl : ∀ row ∈ p, row.length ≤ 4611686018427387904) :
    Calls Try.prog 22 #[.slice A p.length c, .int .i64 limit] w fun e w' => e = .returned (.int .i64 (chkL p limit)) ∧ w = w' := by
  have hcall := check_any A c p w h hrl
  by_cases he : chk p = 0
  · rw [he] at hcall
    by_cases harg : limit < 1 ∨ 40 < limit
    · have HF := Lib.hid (chkL_arg he harg)
      clear he h hrl
      have hcases : limit < 1 ∨ (1 ≤ limit ∧ 40 < limit) := by omega
      clear harg
      rcases hcases with h1 | ⟨h1, h2⟩
      all_goals
        go_enter Try.func22, Try.ntmps22
        go_wp2_with (go_at_call 14; refine hcall.mono ?_; rintro e w' ⟨rfl, rfl⟩)
        go_ret
        exact ⟨by rw [HF.out]; rfl, rfl⟩
    · have h2 : 1 ≤ limit ∧ limit ≤ 40 := by omega
      have HF := Lib.hid (chkL_ok he h2)
      clear he h hrl harg
      obtain ⟨h1, h2⟩ := h2
      go_enter Try.func22, Try.ntmps22
      go_wp2_with (go_at_call 14; refine hcall.mono ?_; rintro e w' ⟨rfl, rfl⟩)
      go_ret
      exact ⟨by rw [HF.out]; rfl, rfl⟩
  · have HF := Lib.hid (chkL_e (limit := limit) he)
    have hb0 : (chk p == 0) = false := beq_eq_false_iff_ne.2 he
    clear he h hrl
    generalize chk p = ec at hcall HF hb0
    go_enter Try.func22, Try.ntmps22
    go_wp2_with (go_at_call 14; refine hcall.mono ?_; rintro e w' ⟨rfl, rfl⟩)
    go_ret
    exact ⟨by rw [HF.out]; rfl, rfl⟩

def sumF (m : Nat) (l : List F101) : Nat := ((l.map (·.1)).map (· / m)).sum
theorem sumF_snoc (m : Nat) (l : List F101) (x : F101) : sumF m (l ++ [x]) = sumF m l + x.1 / m := by simp [sumF]
theorem sumF_le (m : Nat) : ∀ l : List F101, sumF m l ≤ l.length * 100
  | [] => by simp [sumF]
  | x :: l => by
    have ih := sumF_le m l
    have h1 : x.1 / m ≤ x.1 := Nat.div_le_self _ _
    have h2 := x.2
    have e : sumF m (x :: l) = x.1 / m + sumF m l := by simp [sumF]
    rw [e, List.length_cons]; omega
theorem sumF_lens {p : List (List Int)} {limit : Nat} (hp : chk p = 0) : sumF (limit + 1) (toF (lens p)) = sumBind limit p := by
  unfold sumF sumBind
  rw [toF_val (lens_bound hp)]
theorem length_flatMap_le {α β : Type} (f : α → List β) (n : Nat) : ∀ l : List α, (∀ x ∈ l, (f x).length ≤ n) → (l.flatMap f).length ≤ l.length * n
  | [], _ => by simp
  | x :: l, h => by
    have ih := length_flatMap_le f n l (fun y hy => h y (List.mem_cons_of_mem _ hy))
    have := h x (List.mem_cons_self ..)
    rw [List.flatMap_cons, List.length_append, List.length_cons, Nat.add_mul]; omega
theorem lens_length {p : List (List Int)} (hp : chk p = 0) : (lens p).length ≤ 60600 := by
  have h1 := (chk_zero hp).1
  have h2 : (lens p).length ≤ p.length * (6 * 101) := by
    unfold lens
    refine length_flatMap_le _ _ _ fun row hr => ?_
    have h3 := length_flatMap_le (fun c => rowLens row c) 101 (List.range 6) (fun c _ => by
      unfold rowLens
      rw [List.length_map]
      have := floTo_len row ((c : Int) + 1) row.length
      have := ((chk_zero hp).2 row hr).2
      unfold flo; omega)
    simpa using h3
  omega

def binR (p : List (List Int)) (limit : Int) : Int × Int := if chkL p limit ≠ 0 then (0, chkL p limit) else ((sumBind limit.toNat p : Nat), 0)
theorem binR_e {p : List (List Int)} {limit : Int} (h : chkL p limit ≠ 0) : binR p limit = (0, chkL p limit) := by rw [binR, if_pos h]
theorem binR_ok {p : List (List Int)} {limit : Int} (h : chkL p limit = 0) : binR p limit = (((sumBind limit.toNat p : Nat) : Int), 0) := by rw [binR, if_neg (by simpa using h)]

set_option maxHeartbeats 2000000 in
theorem Bindings_any (A : Option Addr) (c : Nat) (p : List (List Int)) (limit : Int) (w : World) (h : SlRows w w.heap.size A p) (hrl : ∀ row ∈ p, row.length ≤ 4611686018427387904) :
    Calls Try.prog 12 #[.slice A p.length c, .int .i64 limit] w fun e w' => e = .returned (.tuple #[.int .i64 (binR p limit).1, .int .i64 (binR p limit).2]) ∧ Below w.heap.size w w' := by
  have hBl : Below w.heap.size w (w.alloc (.cells #[.int .i64 limit] 3)) := (Below.refl _ w).alloc (Nat.le_refl _) _
  have hcall := checked_any A c p limit _ ((h.below hBl).more hBl.size) hrl
  by_cases he : chkL p limit = 0
  · rw [he] at hcall
    have HF := Lib.hid (binR_ok he)
    obtain ⟨hp0, hl1, hl2⟩ := chkL_zero he
    obtain ⟨lim, rfl⟩ := Int.eq_ofNat_of_zero_le (show 0 ≤ limit by omega)
    rw [Int.toNat_natCast] at HF
    have hl3 : lim ≤ 40 := by omega
    have hlen := lens_length hp0
    refine (callsIn_wide (n := 3)).1 ?_
    refine callsIn_of_wp_marks Try.func12 rfl trivial ?_ rfl
    simp only [Try.ntmps12, List.size_toArray, List.length_cons, List.length_nil, Nat.reduceAdd, Nat.reduceSub, Array.replicate_succ, Array.replicate_zero, List.push_toArray, List.append_toArray, List.nil_append, List.cons_append]
    have HC := Lib.hid hcall
    clear hcall he
    gi_wp2_with fail
    refine ⟨trivial, (wide_calls HC.out).mono ?_⟩
    rintro e w' ⟨rfl, rfl⟩
    gi_wp2_with fail
    refine ⟨trivial, (wide_calls (lengths_any A p.length c _)).mono ?_⟩
    rintro e w' ⟨rfl, rfl⟩
    gi_wp2
    have hln := cell_new_l w (.int .i64 (lim : Int)) 3
    have hcn := cell_new_l (w.alloc (.cells #[.int .i64 (lim : Int)] 3)) (.int .i64 0) 3
    have hbn := cell_new_l ((w.alloc (.cells #[.int .i64 (lim : Int)] 3)).alloc (.cells #[.int .i64 0] 3)) (.slice A p.length c) 22
    simp only [World.size_alloc] at hbn hcn
    have hBw : Below w.heap.size w (((w.alloc (.cells #[.int .i64 (lim : Int)] 3)).alloc (.cells #[.int .i64 0] 3)).alloc (.cells #[.slice A p.length c] 22)) := (((Below.refl _ w).alloc (Nat.le_refl _) _).alloc (by simp) _).alloc (by simp; omega) _
    refine wpIn_rangeFunc_ownF rfl (by omega) (gf := 36) (lb := #[.pointer (some ⟨w.heap.size + 1 + 1, 0, none⟩)]) rfl trivial (enters_of Try.func36 (by kernel_rfl) rfl)
      (lengths_stops (3 - 1) (by omega) (w.heap.size + 1 + 1) w.heap.size (w.heap.size + 1) A c p hp0 _ (by simp) (by simp) (by omega) hbn.1 (h.below hBw)) KC.trans (fun W l o o' _ hl ho _ => KC.put W l o o' hl ho) (Below.refl _ _) (fun _ => rfl)
      (fun pre W => ((W.cell? ⟨w.heap.size + 1, 0, none⟩ = some (.int .i64 (sumF (lim + 1) pre : Nat)) ∧ W.frozen? ⟨w.heap.size + 1, 0, none⟩ = false) ∧ W.cell? ⟨w.heap.size, 0, none⟩ = some (.int .i64 (lim : Int))) ∧ Below w.heap.size w W)
      (fun _ _ _ => False)
      (OwnFrom.and (Own.from (fun s A B row hs hg hr => ⟨⟨cell_kept hs.1.1 hg hr, (frozen_kept hs.1.1 hg hr).trans hs.1.2⟩, cell_kept hs.2 hg hr⟩) _) (ownFrom_below (Nat.le_refl _) (by simp; omega)))
      (fun _ _ _ _ _ hs _ _ => hs)
      ⟨⟨⟨cell_alloc_l _ hcn.1, frozen_alloc_l _ hcn.1 hcn.2⟩, cell_alloc_l _ (cell_alloc_l _ hln.1)⟩, hBw⟩
      (fun x => { tmps := #[.slice A p.length c, .int .i64 (lim : Int), undef, .pointer (some ⟨w.heap.size, 0, none⟩), .int .i64 0, .int .i64 0, .int .i64 0, .pointer (some ⟨w.heap.size + 1, 0, none⟩), .int .i64 ((x.1 : Nat) : Int), .slice A p.length c, .int .i64 (lim : Int), .int .i64 0, .int .i64 0, .bool false, undef, .slice A p.length c,
        .func (.func 36) #[] #[.pointer (some ⟨w.heap.size + 1 + 1, 0, none⟩)], .int .i64 ((x.1 : Nat) : Int), undef, undef, undef, undef, undef, undef, undef], defers := [] }) ?assign ?body ?done ?stop
    case assign =>
      intro l x W K hK
      unfold encF
      gi_wp2
      exact hK
    case body =>
      rintro l pre x W ⟨⟨⟨hc, hf⟩, hcl⟩, hB⟩ hpre
      have HB := Lib.hid hB
      clear hB
      have hset : ∀ v, (W.setCell ⟨w.heap.size + 1, 0, none⟩ v).cell? ⟨w.heap.size + 1, 0, none⟩ = some v := fun v => World.cell?_setCell_same' _ _ _ (by rw [hc]; rfl)
      have HS := Lib.hid hset
      clear hset
      have hsb := sumF_le (lim + 1) pre
      have hsn := Lib.hid (sumF_snoc (lim + 1) pre x)
      have hx := x.2
      have hq : x.1 / (lim + 1) ≤ x.1 := Nat.div_le_self _ _
      generalize x.1 = xn at hx hsn hq ⊢
      have hq0 : (xn : Int) / ((lim : Int) + 1) = ((xn / (lim + 1) : Nat) : Int) := by simp
      have hlp : (1 : Int) ≤ (lim : Int) + 1 := by omega
      have hnz : ((lim : Int) + 1 == 0) = false := beq_eq_false_iff_ne.2 (by omega)
      have hw1 : IntKind.i64.wrap ((lim : Int) + 1) = (lim : Int) + 1 := IntWalk.i64_in _ (by omega)
      have hw : wrap64 (((sumF (lim + 1) pre : Nat) : Int) + wrap64 ((xn : Int) / ((lim : Int) + 1))) = ((sumF (lim + 1) pre + xn / (lim + 1) : Nat) : Int) := by
        rw [hq0]
        generalize xn / (lim + 1) = qn at hq
        rw [IntWalk.wrap64_in (qn : Int) (by omega), IntWalk.wrap64_in _ (by omega)]
        omega
      have HW := Lib.hid hw
      have HSN := Lib.hid hsn
      clear hq0 hsn hq hw
      have mixed : Try.prog.follows .mixedOrders = true := by kernel_rfl
      gi_wp2
      gi_region_with_o (fail)
      all_goals gi_wp2
      all_goals (try go_bits)
      all_goals
        refine ⟨(KeepsOthers.setCell _ _ _).trans (KeepsOthers.drew _), (KC.set_ _ _ _).drew, ⟨⟨?_, by rw [World.frozen?_drew, World.frozen?_setCell]; exact hf⟩, ?_⟩, (HB.out.setCell (p := ⟨w.heap.size + 1, 0, none⟩) (by simp) _).drew⟩
        · rw [World.cell?_drew, HS.out, HSN.out, HW.out]
        · rw [World.cell?_drew, World.cell?_setCell_other _ _ _ _ (by simp)]; exact hcl
    case done =>
      rintro D ys W hD rfl ⟨⟨⟨hc, _⟩, _⟩, hB⟩ hK
      rw [sumF_lens hp0] at hc
      gi_wp2
      refine ⟨by simp, .inl ⟨_, _, rfl, run_takeDeferred hK, ?_⟩⟩
      exact ⟨_, results_tmp2 rfl _ _ _, by rw [HF.out]; rfl, hB.trans (belowK_b (w := w) (Nat.le_refl _) W D _ _ (by simp at hD; omega) hK rfl rfl)⟩
    case stop =>
      rintro D c pre W _ _ h _
      exact h.elim
  · have HF := Lib.hid (binR_e he)
    have hb0 : (chkL p limit == 0) = false := beq_eq_false_iff_ne.2 he
    clear he h hrl
    generalize chkL p limit = ec at hcall HF hb0
    go_enter Try.func12, Try.ntmps12
    go_wp2_with (go_at_call 22; refine hcall.mono ?_; rintro e w' ⟨rfl, rfl⟩)
    go_ret2
    exact ⟨by rw [HF.out]; rfl, hBl⟩
end Go.Proofs.Ythedmiilkeclaaa
