/- Layer 34, contracts: the reference's floats; Floats of both. -/
import Derived.Test.YthedmiilkeclaaaI5
namespace Go.Proofs.Ythedmiilkeclaaa
open Go.RowKit
open Go.Proofs.Ythedmiilkeclaaa.I34
set_option maxRecDepth 100000

set_option maxHeartbeats 4000000 in
theorem rfloats_any (A : Option Addr) (c : Nat) (row : List Int) (colour : Int) (w : World) (h : SlI w w.heap.size A row) (hn : row.length ≤ 1000) :
    Calls Try.prog 20 #[.slice A row.length c, .int .i64 colour] w fun e w' =>
      ∃ v, e = .returned v ∧ w'.ownsRow w.heap.size 46 2 v (flo row colour).length (pairCells (flo row colour)) ∧ Below w.heap.size w w' := by
  obtain ⟨i0, hi, hz0, hz1, hz2⟩ := info_parts info_pair
  go_enter Try.func20, Try.ntmps20
  go_wp2
  go_loopw [5, 6, 7] (fun out last i wr => ∃ k : Nat, k ≤ row.length ∧ i = .int .i64 k ∧ last = .int .i64 (lastOr (-1) (floTo row colour k).2) ∧
      wr.ownsRow w.heap.size 46 2 out (floTo row colour k).1.length (pairCells (floTo row colour k).1) ∧ Below w.heap.size w wr) (fun _ _ i _ => row.length - (intOf i).toNat)
  case atStart => exact ⟨0, Nat.zero_le _, rfl, rfl, World.ownsRow_nil _ _ _ _, Below.refl _ _⟩
  case round =>
    obtain ⟨k, hk, rfl, rfl, hown, hbw⟩ := hrel
    by_cases hlt : k < row.length
    · obtain ⟨b, off, z, rfl, hB, hz, hcz⟩ := h.at_ hlt
      have hc := (bcell hbw hB _).trans hcz
      have HZ : Hid (row[k]? = some z) := hz
      clear hz hcz h
      by_cases he : z = colour
      · subst he
        have hlen := floTo_len row z k
        cases hl : (floTo row z k).2 with
        | none =>
          have HF := Lib.hid (floTo_first HZ.out rfl hl)
          clear hl
          generalize (floTo row z k).1 = fl at hown HF
          simp only [lastOr]
          go_wp2
          go_roundw
          case rel => exact ⟨k + 1, by omega, by go_num, by rw [HF.out], by rw [HF.out]; exact hown, hbw⟩
          case measure => simp [intOf]; omega
        | some l =>
          have hlk := floTo_last_lt _ _ _ _ hl
          have hl0 : (0 : Int) ≤ (l : Int) := by omega
          by_cases hnear : l + 1 < k
          · have HF := Lib.hid (floTo_take HZ.out rfl hl hnear)
            clear hl
            generalize (floTo row z k).1 = fl at hown HF hlen
            simp only [lastOr]
            go_wp2_with (at_builtin; refine wpList_append_own _ rfl _ _ 24 rfl w.heap.size 46 i0 (.agg #[.int .i64 0, .int .i64 0]) 2 16 Try.underlying24 hi hz0 hz1 hz2 rfl (by decide) _ _ _ rfl (hown.alloc _) ⟨wr.heap.size, 0, none⟩ 1 1 [.int .i64 (l : Int), .int .i64 (k : Int)] rfl rfl (cell_two_new _ _ _ _) (by simp [Value.oneCell']) (by unfold maxLen; omega) (by omega) (by have := hbw.size; simp; omega) ?_; intro v' w1 hown' hgrow _; have hbw1 := own_step hbw hown hbw.size hgrow; clear hgrow hown hbw)
            go_roundw
            case rel => exact ⟨k + 1, by omega, by go_num, by rw [HF.out], by rw [HF.out, pairCells_snoc, List.length_append]; exact hown', hbw1⟩
            case measure => simp [intOf]; omega
          · have HF := Lib.hid (floTo_near HZ.out rfl hl hnear)
            clear hl
            generalize (floTo row z k).1 = fl at hown HF
            simp only [lastOr]
            go_wp2
            go_roundw
            case rel => exact ⟨k + 1, by omega, by go_num, by rw [HF.out], by rw [HF.out]; exact hown, hbw⟩
            case measure => simp [intOf]; omega
      · have HF := Lib.hid (floTo_skip HZ.out he)
        have hb : (z == colour) = false := beq_eq_false_iff_ne.2 he
        clear he
        generalize floTo row colour k = fl at hown HF ⊢
        go_wp2
        go_roundw
        case rel => exact ⟨k + 1, by omega, by go_num, by rw [HF.out], by rw [HF.out]; exact hown, hbw⟩
        case measure => simp [intOf]; omega
    · obtain rfl : k = row.length := by omega
      clear h
      go_wp2
      go_ret
      exact ⟨_, rfl, hown, hbw⟩

def flR (p : List (List Int)) (row colour : Int) : List (Nat × Nat) × Int :=
  if chk p ≠ 0 then ([], chk p) else if row < 0 ∨ (p.length : Int) ≤ row ∨ colour < 1 ∨ 6 < colour then ([], 2) else (flo (p.getD row.toNat []) colour, 0)
theorem flR_e {p : List (List Int)} {row colour : Int} (h : chk p ≠ 0) : flR p row colour = ([], chk p) := by rw [flR, if_pos h]
theorem flR_arg {p : List (List Int)} {row colour : Int} (h : chk p = 0) (h2 : row < 0 ∨ (p.length : Int) ≤ row ∨ colour < 1 ∨ 6 < colour) : flR p row colour = ([], 2) := by rw [flR, if_neg (by simpa using h), if_pos h2]
theorem flR_ok {p : List (List Int)} {k : Nat} {colour : Int} {r : List Int} (h : chk p = 0) (h2 : 1 ≤ colour ∧ colour ≤ 6) (hr : p[k]? = some r) : flR p (k : Int) colour = (flo r colour, 0) := by
  have hk := (List.getElem?_eq_some_iff.1 hr).1
  rw [flR, if_neg (by simpa using h), if_neg (by omega), Int.toNat_natCast, List.getD, hr, Option.getD_some]
theorem chk_zero {p : List (List Int)} (h : chk p = 0) : p.length ≤ 100 ∧ ∀ row ∈ p, 0 < row.length ∧ row.length ≤ 101 := by
  unfold chk at h
  split at h
  · omega
  · split at h
    · omega
    · rename_i h1 h2
      refine ⟨by omega, fun row hr => ?_⟩
      rw [List.any_eq_true] at h2
      have h3 : rowBad (p.headD []).length row ≠ true := fun e => h2 ⟨row, hr, e⟩
      rw [Ne, Bool.not_eq_true] at h3
      unfold rowBad at h3
      rw [Bool.or_eq_false_iff, Bool.or_eq_false_iff, Bool.or_eq_false_iff] at h3
      have h4 := of_decide_eq_false h3.1.1.1
      have h5 := of_decide_eq_false h3.1.1.2
      omega
theorem chk_vals (p : List (List Int)) : 0 ≤ chk p ∧ chk p ≤ 8 := by
  unfold chk
  split
  · omega
  · split <;> omega

def FlPost (w : World) (x : List (Nat × Nat) × Int) (e : Ending) (w' : World) : Prop :=
  ∃ v, e = .returned (.tuple #[v, .int .i64 x.2]) ∧ w'.ownsRow w.heap.size 46 2 v x.1.length (pairCells x.1) ∧ Below w.heap.size w w'

set_option maxHeartbeats 4000000 in
theorem Floats_any (A : Option Addr) (c : Nat) (p : List (List Int)) (row colour : Int) (w : World) (h : SlRows w w.heap.size A p) (hrl : ∀ row ∈ p, row.length ≤ 4611686018427387904) :
    Calls Try.prog 8 #[.slice A p.length c, .int .i64 row, .int .i64 colour] w (FlPost w (flR p row colour)) := by
  have hcall := check_any A c p w h hrl
  by_cases he : chk p = 0
  · rw [he] at hcall
    by_cases harg : row < 0 ∨ (p.length : Int) ≤ row ∨ colour < 1 ∨ 6 < colour
    · have HF := Lib.hid (flR_arg he harg)
      clear he h hrl
      have hcases : row < 0 ∨ (0 ≤ row ∧ (p.length : Int) ≤ row) ∨ (0 ≤ row ∧ row < (p.length : Int) ∧ colour < 1) ∨ (0 ≤ row ∧ row < (p.length : Int) ∧ 1 ≤ colour ∧ 6 < colour) := by omega
      clear harg
      rcases hcases with h1 | ⟨h1, h2⟩ | ⟨h1, h2, h3⟩ | ⟨h1, h2, h3, h4⟩
      all_goals
        go_enter Try.func8, Try.ntmps8
        go_wp2_with (go_at_call 14; refine hcall.mono ?_; rintro e w' ⟨rfl, rfl⟩)
        go_ret2
        exact ⟨.slice none 0 0, by rw [HF.out]; rfl, by rw [HF.out]; exact World.ownsRow_nil _ _ _ _, Below.refl _ _⟩
    · have hb : 0 ≤ row ∧ row < (p.length : Int) ∧ 1 ≤ colour ∧ colour ≤ 6 := by omega
      clear harg
      obtain ⟨h1, h2, h3, h4⟩ := hb
      obtain ⟨k, rfl⟩ := Int.eq_ofNat_of_zero_le h1
      have hk : k < p.length := by omega
      obtain ⟨b, off, r, A', C', rfl, hB, hr, hc, hs⟩ := h.at_ hk
      have HF := Lib.hid (flR_ok he ⟨h3, h4⟩ hr)
      have hrl2 := ((chk_zero he).2 r (List.mem_of_getElem? hr)).2
      clear he hr h hrl
      go_enter Try.func8, Try.ntmps8
      go_wp2_with fail
      refine hcall.mono ?_
      rintro e w' ⟨rfl, rfl⟩
      
      go_wp2_with fail
      refine (floats_any A' C' r colour _ (hs) (by omega)).mono ?_
      rintro e w2 ⟨v, rfl, hown, hb2⟩
      go_wp2
      go_ret2
      exact ⟨v, by rw [HF.out]; rfl, by rw [HF.out]; exact hown, hb2⟩
  · have HF := Lib.hid (flR_e (row := row) (colour := colour) he)
    have hv := chk_vals p
    have hb0 : (chk p == 0) = false := beq_eq_false_iff_ne.2 he
    clear he h hrl
    
    generalize chk p = ec at hcall HF hv hb0
    go_enter Try.func8, Try.ntmps8
    go_wp2_with (go_at_call 14; refine hcall.mono ?_; rintro e w' ⟨rfl, rfl⟩)
    go_ret2
    exact ⟨.slice none 0 0, by rw [HF.out]; rfl, by rw [HF.out]; exact World.ownsRow_nil _ _ _ _, Below.refl _ _⟩

theorem own_base {w : World} {B B' : Nat} {e : TypeId} {size n : Nat} {v : Value} {xs : List Value} (h : w.ownsRow B e size v n xs) (hB : B' ≤ B) : w.ownsRow B' e size v n xs :=
  ⟨h.1, h.2.imp id fun ⟨g, cap, cur, hv, hg, r⟩ => ⟨g, cap, cur, hv, by omega, r⟩⟩

set_option maxHeartbeats 4000000 in
theorem rFloats_any (A : Option Addr) (c : Nat) (p : List (List Int)) (row colour : Int) (w : World) (h : SlRows w w.heap.size A p) (hrl : ∀ row ∈ p, row.length ≤ 4611686018427387904) :
    Calls Try.prog 9 #[.slice A p.length c, .int .i64 row, .int .i64 colour] w (FlPost w (flR p row colour)) := by
  have hcall := rcheck_any A c p w h hrl
  by_cases he : chk p = 0
  · rw [he] at hcall
    by_cases harg : row < 0 ∨ (p.length : Int) ≤ row ∨ colour < 1 ∨ 6 < colour
    · have HF := Lib.hid (flR_arg he harg)
      clear he h hrl
      have hcases : row < 0 ∨ (0 ≤ row ∧ (p.length : Int) ≤ row) ∨ (0 ≤ row ∧ row < (p.length : Int) ∧ colour < 1) ∨ (0 ≤ row ∧ row < (p.length : Int) ∧ 1 ≤ colour ∧ 6 < colour) := by omega
      clear harg
      rcases hcases with h1 | ⟨h1, h2⟩ | ⟨h1, h2, h3⟩ | ⟨h1, h2, h3, h4⟩
      all_goals
        go_enter Try.func9, Try.ntmps9
        go_wp2_with (go_at_call 15; refine hcall.mono ?_; rintro e w1 ⟨rfl, hb1⟩)
        go_ret2
        exact ⟨.slice none 0 0, by rw [HF.out]; rfl, by rw [HF.out]; exact World.ownsRow_nil _ _ _ _, hb1⟩
    · have hb : 0 ≤ row ∧ row < (p.length : Int) ∧ 1 ≤ colour ∧ colour ≤ 6 := by omega
      clear harg
      obtain ⟨h1, h2, h3, h4⟩ := hb
      obtain ⟨k, rfl⟩ := Int.eq_ofNat_of_zero_le h1
      have hk : k < p.length := by omega
      obtain ⟨b, off, r, A', C', rfl, hB, hr, hc, hs⟩ := h.at_ hk
      have HF := Lib.hid (flR_ok he ⟨h3, h4⟩ hr)
      have hrl2 := ((chk_zero he).2 r (List.mem_of_getElem? hr)).2
      clear he hr h hrl
      go_enter Try.func9, Try.ntmps9
      go_wp2_with fail
      refine hcall.mono ?_
      rintro e w1 ⟨rfl, hb1⟩
      have hc1 := (bcell hb1 hB _).trans hc
      have hs1 := hs.below hb1
      have hz1 := hb1.size
      go_wp2_with fail
      refine (rfloats_any A' C' r colour _ (hs1.more hz1) (by omega)).mono ?_
      rintro e w2 ⟨v, rfl, hown, hb2⟩
      go_wp2
      go_ret2
      exact ⟨v, by rw [HF.out]; rfl, by rw [HF.out]; exact own_base hown hz1, hb1.trans (hb2.mono hz1)⟩
  · have HF := Lib.hid (flR_e (row := row) (colour := colour) he)
    have hv := chk_vals p
    have hb0 : (chk p == 0) = false := beq_eq_false_iff_ne.2 he
    clear he
    have H := Lib.hid h
    clear h
    have hcall2 : ∀ w1, Below w.heap.size w w1 → Calls Try.prog 15 #[.slice A p.length c] w1 fun e w' => e = .returned (.int .i64 (chk p)) ∧ Below w1.heap.size w1 w' := fun w1 hb => rcheck_any A c p w1 ((H.out.below hb).more hb.size) hrl
    have HC := Lib.hid hcall2
    clear hcall2 hrl
    generalize chk p = ec at hcall HF hv hb0 HC
    go_enter Try.func9, Try.ntmps9
    go_wp2_with fail
    refine hcall.mono ?_
    rintro e w1 ⟨rfl, hb1⟩
    go_wp2_with fail
    refine (HC.out w1 hb1).mono ?_
    rintro e w2 ⟨rfl, hb2⟩
    go_wp2
    go_ret2
    exact ⟨.slice none 0 0, by rw [HF.out]; rfl, by rw [HF.out]; exact World.ownsRow_nil _ _ _ _, hb1.trans (hb2.mono hb1.size)⟩
end Go.Proofs.Ythedmiilkeclaaa
