/- Layer 34, contracts: Check of the program and of the reference. -/
import Derived.Test.YthedmiilkeclaaaI2
namespace Go.Proofs.Ythedmiilkeclaaa
open Go.RowKit
open Go.Proofs.Ythedmiilkeclaaa.I34
set_option maxRecDepth 100000

theorem rowBad_eq (n0 : Nat) (row : List Int) : rowBad n0 row = (decide (row.length = 0) || decide (101 < row.length) || decide (row.length ≠ n0) || row.any badC) := rfl
theorem chk_many {p : List (List Int)} (h : 100 < p.length) : chk p = 4 := by rw [chk, if_pos h]
theorem chk_bad {p : List (List Int)} (h : ¬ 100 < p.length) {k : Nat} {row : List Int} (hr : p[k]? = some row) (hb : rowBad (p.headD []).length row = true) : chk p = 8 := by
  rw [chk, if_neg h, if_pos]
  rw [List.any_eq_true]
  exact ⟨row, List.mem_of_getElem? hr, hb⟩
theorem chk_ok {p : List (List Int)} (h : ¬ 100 < p.length) (hb : ∀ j row, j < p.length → p[j]? = some row → rowBad (p.headD []).length row = false) : chk p = 0 := by
  rw [chk, if_neg h, if_neg]
  rw [List.any_eq_true]
  rintro ⟨row, hm, hx⟩
  obtain ⟨j, hj⟩ := List.mem_iff_getElem?.1 hm
  rw [hb j row (List.getElem?_eq_some_iff.1 hj).1 hj] at hx
  cases hx
theorem head_of {p : List (List Int)} {r0 : List Int} (h : p[0]? = some r0) : p.headD [] = r0 := by
  cases p with
  | nil => simp at h
  | cons a l => simpa using h

set_option maxHeartbeats 2000000 in
theorem check_any (A : Option Addr) (c : Nat) (p : List (List Int)) (w : World) (h : SlRows w w.heap.size A p) (hrl : ∀ row ∈ p, row.length ≤ 4611686018427387904) :
    Calls Try.prog 14 #[.slice A p.length c] w fun e w' => e = .returned (.int .i64 (chk p)) ∧ w = w' := by
  by_cases hm : 100 < p.length
  · have HE : Hid (chk p = 4) := chk_many hm
    clear h hrl
    go_enter Try.func14, Try.ntmps14
    go_wp2
    go_ret
    exact ⟨ret_int HE.out.symm, rfl⟩
  · go_enter Try.func14, Try.ntmps14
    go_wp2
    go_loop [11] (fun i => ∃ k : Nat, k ≤ p.length ∧ i = .int .i64 k ∧ Hid (∀ j row, j < k → p[j]? = some row → rowBad (p.headD []).length row = false)) (fun i => p.length - (intOf i).toNat)
    case atStart => exact ⟨0, Nat.zero_le _, rfl, fun j _ hj => absurd hj (Nat.not_lt_zero j)⟩
    case round =>
      obtain ⟨k, hk, rfl, H⟩ := hrel
      by_cases hlt : k < p.length
      · obtain ⟨b, off, row, A', C', hA, hB, hr, hc, hs⟩ := h.at_ hlt
        obtain ⟨b0, off0, r0, A0, C0, hA0, hB0, hr0, hc0, hs0⟩ := h.at_ (k := 0) (by omega)
        rw [hA] at hA0
        injection hA0 with hA0
        injection hA0 with e1 e2
        subst e1 e2 hA
        have hh0 := head_of hr0
        have hL := hrl row (List.mem_of_getElem? hr)
        have hcall := contf_any 26 #[] (enters_of Try.func26 (by kernel_rfl) rfl) badC A' C' row w hs hL (fun x _ => chk1_any x w)
        have HQ : Hid (rowBad (p.headD []).length row = (decide (row.length = 0) || decide (101 < row.length) || decide (row.length ≠ r0.length) || row.any badC)) := by rw [hh0]; exact rowBad_eq _ _
        have HR : Hid (p[k]? = some row) := hr
        clear hr hr0 hs hs0 hh0 h hrl
        obtain ⟨an, han⟩ : ∃ an, row.any badC = an := ⟨_, rfl⟩
        rw [han] at hcall HQ
        clear han
        obtain ⟨L, hLe⟩ : ∃ L, row.length = L := ⟨_, rfl⟩
        rw [hLe] at hcall HQ hc hL
        clear hLe
        obtain ⟨L0, hL0e⟩ : ∃ L, r0.length = L := ⟨_, rfl⟩
        rw [hL0e] at HQ hc0
        clear hL0e
        have hc0' : w.cell? ⟨b, off, none⟩ = some (.slice A0 L0 C0) := hc0
        clear hc0
        by_cases hbad : (decide (L = 0) || decide (101 < L) || decide (L ≠ L0) || an) = true
        · have HB : Hid (chk p = 8) := chk_bad hm HR.out (HQ.out.trans hbad)
          clear HQ H
          have hcases : (L = 0) ∨ (0 < L ∧ 101 < L) ∨ (0 < L ∧ L ≤ 101 ∧ L < L0) ∨ (0 < L ∧ L ≤ 101 ∧ L0 < L) ∨ (0 < L ∧ L ≤ 101 ∧ L = L0 ∧ an = true) := by
            cases an with
            | true => simp only [and_true]; omega
            | false => simp at hbad; simp; omega
          clear hbad
          rcases hcases with h1 | ⟨h1, h2⟩ | ⟨h1, h2, h3⟩ | ⟨h1, h2, h3⟩ | ⟨h1, h2, rfl, rfl⟩
          · subst h1
            go_wp2_with (go_at_call 25; refine hcall.mono ?_; rintro e w' ⟨rfl, rfl⟩)
            go_ret
            exact ⟨ret_int HB.out.symm, rfl⟩
          all_goals
            have hb0 : ((L : Int) == 0) = false := by simp; omega
            go_wp2_with (go_at_call 25; refine hcall.mono ?_; rintro e w' ⟨rfl, rfl⟩)
            go_ret
            exact ⟨ret_int HB.out.symm, rfl⟩
        · have hbad' : 0 < L ∧ L ≤ 101 ∧ L = L0 ∧ an = false := by
            cases an with
            | true => simp at hbad
            | false => simp at hbad; simp only [and_true]; omega
          have HN : Hid (rowBad (p.headD []).length row = false) := by
            refine HQ.out.trans ?_
            simpa using hbad
          clear hbad HQ
          obtain ⟨h1, h2, rfl, rfl⟩ := hbad'
          have hb0 : ((L : Int) == 0) = false := by simp; omega
          go_wp2_with (go_at_call 25; refine hcall.mono ?_; rintro e w' ⟨rfl, rfl⟩)
          go_round
          case rel =>
            refine ⟨k + 1, by omega, by go_num, fun j r hj hr => ?_⟩
            by_cases e : j = k
            · subst e; rw [HR.out] at hr; injection hr with hr; subst hr; exact HN.out
            · exact H.out j r (by omega) hr
          case measure => simp [intOf]; omega
      · have HE : Hid (chk p = 0) := chk_ok hm (fun j row hj => H.out j row (by omega))
        clear H h hrl
        go_wp2
        go_ret
        exact ⟨ret_int HE.out.symm, rfl⟩
end Go.Proofs.Ythedmiilkeclaaa
