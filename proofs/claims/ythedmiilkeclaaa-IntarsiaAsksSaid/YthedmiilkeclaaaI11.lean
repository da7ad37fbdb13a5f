/- Layer 34, contracts: the reference's Longest, looked, bound. -/
import Derived.Test.YthedmiilkeclaaaI10
namespace Go.Proofs.Ythedmiilkeclaaa
open Go.RowKit
open Go.Proofs.Ythedmiilkeclaaa.I34
set_option maxRecDepth 100000

def mx (l : List Nat) : Nat := l.foldl max 0
theorem mx_snoc (l : List Nat) (x : Nat) : mx (l ++ [x]) = max (mx l) x := by simp [mx]
theorem mx_le {b : Nat} : ∀ {l : List Nat}, (∀ n ∈ l, n ≤ b) → mx l ≤ b := by
  intro l h
  unfold mx
  have : ∀ (l : List Nat) (a : Nat), a ≤ b → (∀ n ∈ l, n ≤ b) → l.foldl max a ≤ b := by
    intro l
    induction l with
    | nil => intro a ha _; exact ha
    | cons x l ih => intro a ha hl; exact ih _ (by have := hl x (List.mem_cons_self ..); omega) (fun n hn => hl n (List.mem_cons_of_mem _ hn))
  exact this l 0 (by omega) h
theorem mx_lens (p : List (List Int)) : mx (lens p) = longest p := rfl

set_option maxHeartbeats 4000000 in
theorem rLongest_any (A : Option Addr) (c : Nat) (p : List (List Int)) (w : World) (h : SlRows w w.heap.size A p) (hrl : ∀ row ∈ p, row.length ≤ 4611686018427387904) :
    Calls Try.prog 11 #[.slice A p.length c] w fun e w' => e = .returned (.tuple #[.int .i64 (lonR p).1, .int .i64 (lonR p).2]) ∧ Below w.heap.size w w' := by
  have hcall := rcheck_any A c p w h hrl
  by_cases he : chk p = 0
  · rw [he] at hcall
    have HF := Lib.hid (lonR_ok he)
    have hpl := (chk_zero he).1
    have hpr := Lib.hid (chk_zero he).2
    have hh := Lib.hid h
    clear he h hrl
    go_enter Try.func11, Try.ntmps11
    go_wp2_with fail
    refine hcall.mono ?_
    rintro e w1 ⟨rfl, hb1⟩
    clear hcall
    go_wp2
    go_loopw [4, 5] (fun m i wr => ∃ k : Nat, k ≤ p.length ∧ i = .int .i64 k ∧ m = .int .i64 (mx (came p k 0 0) : Nat) ∧ Below w.heap.size w wr) (fun _ i _ => p.length - (intOf i).toNat)
    case atStart => exact ⟨0, Nat.zero_le _, rfl, by rw [came_zero]; rfl, hb1⟩
    case round =>
      obtain ⟨k, hk, rfl, rfl, hbw⟩ := hrel
      by_cases hlt : k < p.length
      · obtain ⟨b, off, row, A', C', rfl, hB, hr, hcr, hsi⟩ := hh.out.at_ hlt
        have hgd := Lib.hid (show p.getD k [] = row by rw [List.getD, hr]; rfl)
        have hrl := (hpr.out row (List.mem_of_getElem? hr)).2
        have hs0 := Lib.hid hsi
        have hc0 := Lib.hid hcr
        clear hr hsi hcr
        go_wp2
        go_loopw [4, 6] (fun m i wr => ∃ c : Nat, c ≤ 6 ∧ i = .int .i64 ((c : Int) + 1) ∧ m = .int .i64 (mx (came p k c 0) : Nat) ∧ Below w.heap.size w wr) (fun _ i _ => 7 - (intOf i).toNat)
        case atStart => exact ⟨0, by omega, rfl, rfl, hbw⟩
        case round =>
          obtain ⟨c1, hc1, rfl, rfl, hbw⟩ := hrel
          by_cases hlt1 : c1 < 6
          · have hcw := (bcell hbw hB _).trans hc0.out
            go_wp2_with fail
            refine (rfloats_any A' C' row ((c1 : Int) + 1) _ ((hs0.out.below hbw).more hbw.size) (by omega)).mono ?_
            rintro e w2 ⟨v, rfl, hown, hb2⟩
            have hbw2 := hbw.trans (hb2.mono hbw.size)
            have hgB : w.heap.size ≤ wr.heap.size := hbw.size
            clear hcw hb2
            obtain ⟨fl, hfl⟩ : ∃ fl, flo row ((c1 : Int) + 1) = fl := ⟨_, rfl⟩
            have hfr := flo_row row ((c1 : Int) + 1)
            rw [hfl] at hown hfr
            obtain ⟨av, cv, rfl⟩ := own_form hown
            have HFL := Lib.hid hfl
            have HFR := Lib.hid hfr
            clear hfl hfr
            have hfll : fl.length ≤ 1000 := by
              have := floTo_len row ((c1 : Int) + 1) row.length
              have e : (floTo row ((c1 : Int) + 1) row.length).1 = fl := HFL.out
              rw [e] at this; omega
            have hown' := own_base hown hgB
            clear hown
            go_wp2
            go_loopw [4, 8] (fun m i wr2 => ∃ j : Nat, j ≤ fl.length ∧ i = .int .i64 j ∧ m = .int .i64 (mx (came p k c1 j) : Nat) ∧ Below w.heap.size w wr2 ∧
              wr2.ownsRow w.heap.size 46 2 (.slice av fl.length cv) fl.length (pairCells fl)) (fun _ i _ => fl.length - (intOf i).toNat)
            case atStart => exact ⟨0, by omega, rfl, rfl, hbw2, hown'⟩
            case round =>
              obtain ⟨j, hj, rfl, rfl, hbw, hown⟩ := hrel
              by_cases hlt2 : j < fl.length
              · obtain ⟨g, rfl, hgB2, hgl, hcells⟩ := own_pos hown (by omega)
                have hf : fl[j]? = some fl[j] := List.getElem?_eq_getElem hlt2
                generalize fl[j] = f at hf
                obtain ⟨hx, hy⟩ := pairCells_at hf
                have hcx : wr.cell? ⟨g, j * 2, none⟩ = some (.int .i64 (f.1 : Int)) := (hcells _ (by omega)).trans hx
                have hcy : wr.cell? ⟨g, j * 2 + 1, none⟩ = some (.int .i64 (f.2 : Int)) := (hcells _ (by omega)).trans hy
                have hbd := Row.bounds HFR.out hf
                have hf2 : (flo (p.getD k []) ((c1 : Int) + 1))[j]? = some f := by rw [hgd.out, HFL.out]; exact hf
                have hcm := came_float hf2
                have ho5 := Lib.hid hown
                clear hx hy hcells hf hf2 hown
                have hlen : (lenOf f : Int) = (f.2 : Int) - (f.1 : Int) - 1 := by unfold lenOf; omega
                have hmx : mx (came p k c1 (j + 1)) = max (mx (came p k c1 j)) (lenOf f) := by rw [hcm, mx_snoc]
                generalize mx (came p k c1 j) = m0 at hmx ⊢
                generalize lenOf f = lf at hlen hmx
                have HM := Lib.hid hmx
                have HL := Lib.hid hlen
                clear hcm hmx
                have hw1 : IntKind.i64.wrap ((f.2 : Int) - (f.1 : Int)) = (f.2 : Int) - (f.1 : Int) := IntWalk.i64_in _ (by omega)
                have hw2 : IntKind.i64.wrap ((f.2 : Int) - (f.1 : Int) - 1) = (lf : Int) := by rw [IntWalk.i64_in _ (by omega), hlen]
                clear hlen
                go_wp2
                go_quiet (fail)
                go_wp2
                go_roundw
                case rel =>
                  refine ⟨j + 1, by omega, by go_num, ?_, below_drewN hbw _, ho5.out⟩
                  rw [HM.out]
                  congr 1
                  split <;> omega
                case measure => simp [intOf]; omega
              · obtain rfl : j = fl.length := by omega
                clear hown hown'
                go_wp2
                go_roundw
                case rel =>
                  refine ⟨c1 + 1, by omega, by go_num, ?_, hbw⟩
                  rw [came_colour (j := fl.length) (by unfold rowLens; rw [hgd.out, List.length_map, HFL.out]; exact Nat.le_refl _)]
                case measure => simp [intOf]; omega
          · obtain rfl : c1 = 6 := by omega
            go_wp2
            go_roundw
            case rel => exact ⟨k + 1, by omega, by go_num, by rw [came_row hlt], hbw⟩
            case measure => simp [intOf]; omega
      · obtain rfl : k = p.length := by omega
        have HM := Lib.hid (came_all (p := p) (Nat.le_refl p.length))
        clear hh
        go_wp2
        go_ret2
        exact ⟨by rw [HF.out, HM.out]; rfl, hbw⟩
  · have HF := Lib.hid (lonR_e he)
    have hb0 : (chk p == 0) = false := beq_eq_false_iff_ne.2 he
    have hcall2 : ∀ w1, Below w.heap.size w w1 → Calls Try.prog 15 #[.slice A p.length c] w1 fun e w' => e = .returned (.int .i64 (chk p)) ∧ Below w1.heap.size w1 w' := fun w1 hb => rcheck_any A c p w1 ((h.below hb).more hb.size) hrl
    have HC := Lib.hid hcall2
    clear he h hrl hcall2
    generalize chk p = ec at hcall HF hb0 HC
    go_enter Try.func11, Try.ntmps11
    go_wp2_with fail
    refine hcall.mono ?_
    rintro e w1 ⟨rfl, hb1⟩
    go_wp2_with fail
    refine (HC.out w1 hb1).mono ?_
    rintro e w2 ⟨rfl, hb2⟩
    go_wp2
    go_ret2
    exact ⟨by rw [HF.out]; rfl, hb1.trans (hb2.mono hb1.size)⟩

set_option maxHeartbeats 1000000 in
theorem looked_any (A : Option Addr) (c : Nat) (p : List (List Int)) (limit : Int) (w : World) (h : SlRows w w.heap.size A p) (hrl : ∀ row ∈ p, row.length ≤ 4611686018427387904) :
    Calls Try.prog 23 #[.slice A p.length c, .int .i64 limit] w fun e w' => e = .returned (.int .i64 (chkL p limit)) ∧ Below w.heap.size w w' := by
  have hcall := rcheck_any A c p w h hrl
  by_cases he : chk p = 0
  · rw [he] at hcall
    by_cases harg : limit < 1 ∨ 40 < limit
    · have HF := Lib.hid (chkL_arg he harg)
      clear he h hrl
      have hcases : limit < 1 ∨ (1 ≤ limit ∧ 40 < limit) := by omega
      clear harg
      rcases hcases with h1 | ⟨h1, h2⟩
      all_goals
        go_enter Try.func23, Try.ntmps23
        go_wp2_with fail
        refine hcall.mono ?_
        rintro e w1 ⟨rfl, hb1⟩
        go_wp2
        go_ret
        exact ⟨by rw [HF.out]; rfl, hb1⟩
    · have h2 : 1 ≤ limit ∧ limit ≤ 40 := by omega
      have HF := Lib.hid (chkL_ok he h2)
      clear he h hrl harg
      obtain ⟨h1, h2⟩ := h2
      go_enter Try.func23, Try.ntmps23
      go_wp2_with fail
      refine hcall.mono ?_
      rintro e w1 ⟨rfl, hb1⟩
      go_wp2
      go_ret
      exact ⟨by rw [HF.out]; rfl, hb1⟩
  · have HF := Lib.hid (chkL_e (limit := limit) he)
    have hb0 : (chk p == 0) = false := beq_eq_false_iff_ne.2 he
    have hcall2 : ∀ w1, Below w.heap.size w w1 → Calls Try.prog 15 #[.slice A p.length c] w1 fun e w' => e = .returned (.int .i64 (chk p)) ∧ Below w1.heap.size w1 w' := fun w1 hb => rcheck_any A c p w1 ((h.below hb).more hb.size) hrl
    have HC := Lib.hid hcall2
    clear he h hrl hcall2
    generalize chk p = ec at hcall HF hb0 HC
    go_enter Try.func23, Try.ntmps23
    go_wp2_with fail
    refine hcall.mono ?_
    rintro e w1 ⟨rfl, hb1⟩
    go_wp2_with fail
    refine (HC.out w1 hb1).mono ?_
    rintro e w2 ⟨rfl, hb2⟩
    go_wp2
    go_ret
    exact ⟨by rw [HF.out]; rfl, hb1.trans (hb2.mono hb1.size)⟩

theorem boundIn_hit {l : List (Nat × Nat)} {m k j : Nat} {f : Nat × Nat} (hf : l[j]? = some f) (h1 : f.1 < k) (h2 : k < f.2) (hb : ∀ i g, i < j → l[i]? = some g → (decide (g.1 < k) && decide (k < g.2)) = false) :
    boundIn l m k = decide ((k - f.1) % m = 0) := by
  have : l.find? (fun f => decide (f.1 < k) && decide (k < f.2)) = some f := by
    obtain ⟨hj, e⟩ := List.getElem?_eq_some_iff.1 hf
    rw [List.find?_eq_some_iff_getElem]
    exact ⟨by simp [h1, h2], j, hj, e, fun i hi => by rw [hb i _ hi (List.getElem?_eq_getElem (by omega))]; simp⟩
  rw [boundIn, this]
theorem boundIn_none {l : List (Nat × Nat)} {m k : Nat} (hb : ∀ i g, i < l.length → l[i]? = some g → (decide (g.1 < k) && decide (k < g.2)) = false) : boundIn l m k = false := by
  have : l.find? (fun f => decide (f.1 < k) && decide (k < f.2)) = none := by
    rw [List.find?_eq_none]
    intro g hg
    obtain ⟨i, hi⟩ := List.mem_iff_getElem?.1 hg
    rw [hb i g (List.getElem?_eq_some_iff.1 hi).1 hi]; simp
  rw [boundIn, this]

set_option maxHeartbeats 4000000 in
theorem bound_any (A : Option Addr) (c : Nat) (row : List Int) (c1 lim k : Nat) (w : World) (h : SlI w w.heap.size A row) (hn : row.length ≤ 1000) (hl : lim ≤ 40) (hk : k < row.length) :
    Calls Try.prog 24 #[.slice A row.length c, .int .i64 ((c1 : Int) + 1), .int .i64 (lim : Int), .int .i64 (k : Int), .bool true] w fun e w' => e = .returned (.bool (boundB row c1 lim k)) ∧ Below w.heap.size w w' := by
  have hcall := rfloats_any A c row ((c1 : Int) + 1) w h hn
  clear h
  go_enter Try.func24, Try.ntmps24
  go_wp2_with fail
  refine hcall.mono ?_
  rintro e w2 ⟨v, rfl, hown, hb2⟩
  clear hcall
  have HBB := Lib.hid (show boundB row c1 lim k = boundIn (flo row ((c1 : Int) + 1)) (lim + 1) k from rfl)
  obtain ⟨fl, hfl⟩ : ∃ fl, flo row ((c1 : Int) + 1) = fl := ⟨_, rfl⟩
  have hfr := flo_row row ((c1 : Int) + 1)
  rw [hfl] at hown hfr HBB
  obtain ⟨av, cv, rfl⟩ := own_form hown
  have HFR := Lib.hid hfr
  have hfll : fl.length ≤ 1000 := by
    have := floTo_len row ((c1 : Int) + 1) row.length
    have e : (floTo row ((c1 : Int) + 1) row.length).1 = fl := hfl
    rw [e] at this; omega
  clear hfl hfr
  go_wp2
  go_loopw [12] (fun i wr => ∃ j : Nat, j ≤ fl.length ∧ i = .int .i64 j ∧ Below w.heap.size w wr ∧ wr.ownsRow w.heap.size 46 2 (.slice av fl.length cv) fl.length (pairCells fl) ∧
    Hid (∀ i g, i < j → fl[i]? = some g → (decide (g.1 < k) && decide (k < g.2)) = false)) (fun i _ => fl.length - (intOf i).toNat)
  case atStart => exact ⟨0, by omega, rfl, hb2, hown, fun i _ hi => absurd hi (Nat.not_lt_zero i)⟩
  case round =>
    obtain ⟨j, hj, rfl, hbw, hown, H⟩ := hrel
    by_cases hlt : j < fl.length
    · obtain ⟨g, rfl, hgB2, hgl, hcells⟩ := own_pos hown (by omega)
      have hf : fl[j]? = some fl[j] := List.getElem?_eq_getElem hlt
      generalize fl[j] = f at hf
      obtain ⟨hx, hy⟩ := pairCells_at hf
      have hcx : wr.cell? ⟨g, j * 2, none⟩ = some (.int .i64 (f.1 : Int)) := (hcells _ (by omega)).trans hx
      have hcy : wr.cell? ⟨g, j * 2 + 1, none⟩ = some (.int .i64 (f.2 : Int)) := (hcells _ (by omega)).trans hy
      have hbd := Row.bounds HFR.out hf
      have HFJ := Lib.hid hf
      have ho5 := Lib.hid hown
      clear hx hy hcells hf hown
      by_cases hin : f.1 < k ∧ k < f.2
      · obtain ⟨h1, h2⟩ := hin
        have HE := Lib.hid (HBB.out.trans (boundIn_hit HFJ.out h1 h2 H.out))
        have hq : (k : Int) - (f.1 : Int) = ((k - f.1 : Nat) : Int) := by omega
        have hlp : (1 : Int) ≤ (lim : Int) + 1 := by omega
        have HQ := Lib.hid hq
        clear hq H
        go_wp2
        go_quiet (fail)
        go_wp2
        go_ret
        refine ⟨ret_bool ?_, below_drewN hbw _⟩
        rw [HE.out, HQ.out, show ((k - f.1 : Nat) : Int) % ((lim : Int) + 1) = (((k - f.1) % (lim + 1) : Nat) : Int) by simp]
        rw [Bool.eq_iff_iff, beq_iff_eq, decide_eq_true_iff]
        omega
      · have hn : (decide (f.1 < k) && decide (k < f.2)) = false := by
          by_cases e : f.1 < k
          · have : ¬ k < f.2 := fun e2 => hin ⟨e, e2⟩
            simp [this]
          · simp [e]
        have HN := Lib.hid hn
        clear hn
        have hcases : k ≤ f.1 ∨ (f.1 < k ∧ f.2 ≤ k) := by omega
        clear hin
        rcases hcases with h1 | ⟨h1, h2⟩
        all_goals
          go_wp2
          go_quiet (fail)
          go_wp2
          go_roundw
          case rel =>
            refine ⟨j + 1, by omega, by go_num, below_drewN hbw _, ho5.out, fun i g hi hg => ?_⟩
            by_cases e : i = j
            · subst e; rw [HFJ.out] at hg; injection hg with hg; subst hg; exact HN.out
            · exact H.out i g (by omega) hg
          case measure => simp [intOf]; omega
    · have HE := Lib.hid (HBB.out.trans (boundIn_none (fun i g hi => H.out i g (by omega))))
      clear H hown
      go_wp2
      go_ret
      exact ⟨ret_bool HE.out.symm, hbw⟩
end Go.Proofs.Ythedmiilkeclaaa
