/- Layer 34, contracts: the reference's Check. -/
import Derived.Test.YthedmiilkeclaaaI3
namespace Go.Proofs.Ythedmiilkeclaaa
open Go.RowKit
open Go.Proofs.Ythedmiilkeclaaa.I34
set_option maxRecDepth 100000

theorem any_hit {row : List Int} {k : Nat} {z : Int} (hz : row[k]? = some z) (hb : badC z = true) : row.any badC = true := by
  rw [List.any_eq_true]; exact ⟨z, List.mem_of_getElem? hz, hb⟩
theorem any_none {row : List Int} (h : ∀ j z, j < row.length → row[j]? = some z → badC z = false) : row.any badC = false := by
  rw [List.any_eq_false]
  intro x hx
  obtain ⟨j, hj⟩ := List.mem_iff_getElem?.1 hx
  rw [h j x (List.getElem?_eq_some_iff.1 hj).1 hj]; simp

set_option maxHeartbeats 4000000 in
theorem rcheck_any (A : Option Addr) (c : Nat) (p : List (List Int)) (w : World) (h : SlRows w w.heap.size A p) (hrl : ∀ row ∈ p, row.length ≤ 4611686018427387904) :
    Calls Try.prog 15 #[.slice A p.length c] w fun e w' => e = .returned (.int .i64 (chk p)) ∧ Below w.heap.size w w' := by
  by_cases hm : 100 < p.length
  · have HE : Hid (chk p = 4) := chk_many hm
    clear h hrl
    go_enter Try.func15, Try.ntmps15
    go_wp2
    go_ret
    exact ⟨ret_int HE.out.symm, Below.refl _ _⟩
  · go_enter Try.func15, Try.ntmps15
    go_wp2
    go_loopw [3] (fun i wr => ∃ k : Nat, k ≤ p.length ∧ i = .int .i64 k ∧ Below w.heap.size w wr ∧ Hid (∀ j row, j < k → p[j]? = some row → rowBad (p.headD []).length row = false)) (fun i _ => p.length - (intOf i).toNat)
    case atStart => exact ⟨0, Nat.zero_le _, rfl, Below.refl _ _, fun j _ hj => absurd hj (Nat.not_lt_zero j)⟩
    case round =>
      obtain ⟨k, hk, rfl, hbw, H⟩ := hrel
      by_cases hlt : k < p.length
      · obtain ⟨b, off, row, A', C', hA, hB, hr, hcw, hs⟩ := h.at_ hlt
        obtain ⟨b0, off0, r0, A0, C0, hA0, hB0, hr0, hc0w, hs0⟩ := h.at_ (k := 0) (by omega)
        rw [hA] at hA0
        injection hA0 with hA0
        injection hA0 with e1 e2
        subst e1 e2 hA
        have hc := (bcell hbw hB _).trans hcw
        have hc0 := (bcell hbw hB _).trans hc0w
        clear hc0w
        have HW := Lib.hid hcw
        clear hcw
        have hh0 := head_of hr0
        have hL := hrl row (List.mem_of_getElem? hr)
        have HQ : Hid (rowBad (p.headD []).length row = (decide (row.length = 0) || decide (101 < row.length) || decide (row.length ≠ r0.length) || row.any badC)) := by rw [hh0]; exact rowBad_eq _ _
        have HR : Hid (p[k]? = some row) := hr
        clear hr hr0 hs0 hh0 h hrl
        obtain ⟨L0, hL0e⟩ : ∃ L, r0.length = L := ⟨_, rfl⟩
        rw [hL0e] at HQ hc0
        clear hL0e
        have hc0' : wr.cell? ⟨b, off, none⟩ = some (.slice A0 L0 C0) := hc0
        clear hc0
        by_cases hbad : row.length = 0 ∨ 101 < row.length ∨ row.length ≠ L0
        · have HB : Hid (chk p = 8) := chk_bad hm HR.out (HQ.out.trans (by rcases hbad with e | e | e <;> simp [e]))
          clear HQ H hs
          obtain ⟨L, hLe⟩ : ∃ L, row.length = L := ⟨_, rfl⟩
          rw [hLe] at hc hL hbad
          clear hLe
          have hcases : (L = 0) ∨ (0 < L ∧ 101 < L) ∨ (0 < L ∧ L ≤ 101 ∧ L < L0) ∨ (0 < L ∧ L ≤ 101 ∧ L0 < L) := by omega
          clear hbad
          rcases hcases with h1 | ⟨h1, h2⟩ | ⟨h1, h2, h3⟩ | ⟨h1, h2, h3⟩
          · subst h1
            go_wp2
            go_quiet (fail)
            go_wp2
            go_ret
            exact ⟨ret_int HB.out.symm, below_drewN hbw _⟩
          · have hb0 : ((L : Int) == 0) = false := by simp; omega
            have hd : decide ((101 : Int) < (L : Int)) = true := by simp; omega
            go_wp2
            go_quiet (fail)
            go_wp2
            go_ret
            exact ⟨ret_int HB.out.symm, below_drewN hbw _⟩
          all_goals
            have hb0 : ((L : Int) == 0) = false := by simp; omega
            have hd : decide ((101 : Int) < (L : Int)) = false := by simp; omega
            have hb1 : ((L : Int) == (L0 : Int)) = false := by simp; omega
            go_wp2
            go_quiet (fail)
            go_wp2
            go_ret
            exact ⟨ret_int HB.out.symm, below_drewN hbw _⟩
        · have h1 : 0 < row.length ∧ row.length ≤ 101 ∧ row.length = L0 := by omega
          clear hbad
          obtain ⟨h1, h2, h3⟩ := h1
          subst h3
          have HQ2 : Hid (rowBad (p.headD []).length row = row.any badC) := by
            refine HQ.out.trans ?_
            have e1 : decide (row.length = 0) = false := decide_eq_false (by omega)
            have e2 : decide (101 < row.length) = false := decide_eq_false (by omega)
            rw [e1, e2]; simp
          clear HQ
          have hb0 : ((row.length : Int) == 0) = false := beq_eq_false_iff_ne.2 (by omega)
          have hd : decide ((101 : Int) < (row.length : Int)) = false := by simp; omega
          go_wp2
          go_quiet (fail)
          go_wp2
          have hb1 := below_drewN hbw nq
          generalize wr.drewN nq = w1 at hb1 ⊢
          go_loopw [4] (fun i wr => ∃ n : Nat, n ≤ row.length ∧ i = .int .i64 n ∧ Below w.heap.size w wr ∧ Hid (∀ j z, j < n → row[j]? = some z → badC z = false)) (fun i _ => row.length - (intOf i).toNat)
          case atStart => exact ⟨0, Nat.zero_le _, rfl, hb1, fun j _ hj => absurd hj (Nat.not_lt_zero j)⟩
          case round =>
            obtain ⟨n, hn, rfl, hbw2, H2⟩ := hrel
            have hc2 := (bcell hbw2 hB _).trans HW.out
            by_cases hlt2 : n < row.length
            · obtain ⟨b2, off2, z, hA2, hB2, hz, hcz⟩ := hs.at_ hlt2
              subst hA2
              have hcz2 := (bcell hbw2 hB2 _).trans hcz
              have HZ : Hid (row[n]? = some z) := hz
              clear hz hcz hs
              cases hq : badC z with
              | true =>
                have HB : Hid (chk p = 8) := chk_bad hm HR.out (HQ2.out.trans (any_hit HZ.out hq))
                have HC : Hid (badC z = true) := hq
                clear hq HQ2
                go_wp2
                all_goals try (exfalso; have := HC.out; simp [badC] at this; omega)
                all_goals go_ret
                all_goals exact ⟨ret_int HB.out.symm, hbw2⟩
              | false =>
                have HC : Hid (badC z = false) := hq
                clear hq
                go_wp2
                all_goals try (exfalso; have := HC.out; simp [badC] at this; omega)
                go_roundw
                case rel =>
                  refine ⟨n + 1, by omega, by go_num, hbw2, fun j y hj hy => ?_⟩
                  by_cases e : j = n
                  · subst e; rw [HZ.out] at hy; injection hy with hy; subst hy; exact HC.out
                  · exact H2.out j y (by omega) hy
                case measure => simp [intOf]; omega
            · have HO : Hid (rowBad (p.headD []).length row = false) := HQ2.out.trans (any_none (fun j z hj => H2.out j z (by omega)))
              clear H2 HQ2
              go_wp2
              go_roundw
              case rel =>
                refine ⟨k + 1, by omega, by go_num, hbw2, fun j r hj hr => ?_⟩
                by_cases e : j = k
                · subst e; rw [HR.out] at hr; injection hr with hr; subst hr; exact HO.out
                · exact H.out j r (by omega) hr
              case measure => simp [intOf]; omega
      · have HE : Hid (chk p = 0) := chk_ok hm (fun j row hj => H.out j row (by omega))
        clear H h hrl
        go_wp2
        go_ret
        exact ⟨ret_int HE.out.symm, hbw⟩
end Go.Proofs.Ythedmiilkeclaaa
