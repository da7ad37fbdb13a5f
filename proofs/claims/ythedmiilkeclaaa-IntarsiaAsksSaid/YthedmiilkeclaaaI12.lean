/- Layer 34, contracts: the reference's Bindings; SamePairs of two slices that hold the same. -/
import Derived.Test.YthedmiilkeclaaaI11
namespace Go.Proofs.Ythedmiilkeclaaa
open Go.RowKit
open Go.Proofs.Ythedmiilkeclaaa.I34
set_option maxRecDepth 100000

/-- How many needles have been found bound: the rows before the i-th one, the colours before c, the needles before k. -/
def bnd (lim : Nat) (p : List (List Int)) (i c k : Nat) : Nat :=
  binds lim (p.take i) + ((List.range c).map fun c => rowBinds (p.getD i []) c lim).sum + cnt k (boundB (p.getD i []) c lim)
theorem bnd_zero (lim : Nat) (p : List (List Int)) : bnd lim p 0 0 0 = 0 := by simp [bnd, binds, cnt_zero]
theorem bnd_step (lim : Nat) (p : List (List Int)) (i c k : Nat) {row : List Int} (h : p.getD i [] = row) : bnd lim p i c (k + 1) = bnd lim p i c k + if boundB row c lim k then 1 else 0 := by
  unfold bnd; rw [cnt_succ, h]; omega
theorem bnd_colour (lim : Nat) (p : List (List Int)) (i c : Nat) {row : List Int} (h : p.getD i [] = row) : bnd lim p i (c + 1) 0 = bnd lim p i c row.length := by
  unfold bnd
  rw [List.range_succ, List.map_append, List.sum_append, cnt_zero, h]
  simp [rowBinds]; omega
theorem bnd_row (lim : Nat) {p : List (List Int)} {i : Nat} (h : i < p.length) : bnd lim p (i + 1) 0 0 = bnd lim p i 6 0 := by
  unfold bnd
  have e : p.getD i [] = p[i] := by simp [List.getD, h]
  rw [List.take_succ_eq_append_getElem h, e]
  unfold binds
  rw [List.map_append, List.sum_append]
  simp [cnt_zero]
theorem bnd_all (lim : Nat) {p : List (List Int)} {i : Nat} (h : p.length ≤ i) : bnd lim p i 0 0 = binds lim p := by
  unfold bnd
  rw [List.take_of_length_le h, cnt_zero]; simp
theorem cnt_le (N : Nat) (P : Nat → Bool) : cnt N P ≤ N := by
  induction N with
  | zero => simp [cnt_zero]
  | succ n ih => rw [cnt_succ]; split <;> omega
theorem sum_le {α : Type} (f : α → Nat) (b : Nat) : ∀ l : List α, (∀ x ∈ l, f x ≤ b) → (l.map f).sum ≤ l.length * b
  | [], _ => by simp
  | x :: l, h => by
    have ih := sum_le f b l (fun y hy => h y (List.mem_cons_of_mem _ hy))
    have := h x (List.mem_cons_self ..)
    rw [List.map_cons, List.sum_cons, List.length_cons, Nat.add_mul]; omega
theorem bnd_bound {lim : Nat} {p : List (List Int)} (hp : chk p = 0) {i c k : Nat} (hi : i < p.length) (hc : c < 6) (hk : k ≤ 101) : bnd lim p i c k ≤ 70000 := by
  have h1 := (chk_zero hp).1
  have hr := (chk_zero hp).2
  have h2 : binds lim (p.take i) ≤ (p.take i).length * 606 := by
    unfold binds
    refine sum_le _ _ _ fun row hm => ?_
    have := sum_le (fun c => rowBinds row c lim) 101 (List.range 6) (fun c _ => by
      have := cnt_le row.length (boundB row c lim)
      have := (hr row (List.mem_of_mem_take hm)).2
      unfold rowBinds; omega)
    simpa using this
  have h3 : ((List.range c).map fun c => rowBinds (p.getD i []) c lim).sum ≤ c * 101 := by
    have := sum_le (fun c => rowBinds (p.getD i []) c lim) 101 (List.range c) (fun c _ => by
      have := cnt_le (p.getD i []).length (boundB (p.getD i []) c lim)
      have e2 : (p.getD i []).length ≤ 101 := by
        rw [show p.getD i [] = p[i] by simp [List.getD, hi]]
        exact (hr p[i] (List.getElem_mem hi)).2
      unfold rowBinds; omega)
    simpa using this
  have h4 := cnt_le k (boundB (p.getD i []) c lim)
  have h5 : (p.take i).length ≤ i := by rw [List.length_take]; omega
  unfold bnd
  omega

set_option maxHeartbeats 4000000 in
theorem rBindings_any (A : Option Addr) (c : Nat) (p : List (List Int)) (limit : Int) (w : World) (h : SlRows w w.heap.size A p) (hrl : ∀ row ∈ p, row.length ≤ 4611686018427387904) :
    Calls Try.prog 13 #[.slice A p.length c, .int .i64 limit] w fun e w' => e = .returned (.tuple #[.int .i64 (binR p limit).1, .int .i64 (binR p limit).2]) ∧ Below w.heap.size w w' := by
  have hcall := looked_any A c p limit w h hrl
  by_cases he : chkL p limit = 0
  · rw [he] at hcall
    obtain ⟨hp0, hl1, hl2⟩ := chkL_zero he
    obtain ⟨lim, rfl⟩ := Int.eq_ofNat_of_zero_le (show 0 ≤ limit by omega)
    have HF0 := binR_ok he
    rw [Int.toNat_natCast, ← binds_eq] at HF0
    have HF := Lib.hid HF0
    have hpl := (chk_zero hp0).1
    have hpr := Lib.hid (chk_zero hp0).2
    have hp1 := Lib.hid hp0
    have hh := Lib.hid h
    clear he h hrl HF0 hp0
    go_enter Try.func13, Try.ntmps13
    go_wp2_with fail
    refine hcall.mono ?_
    rintro e w1 ⟨rfl, hb1⟩
    clear hcall
    go_wp2
    go_loopw [6, 7] (fun m i wr => ∃ k : Nat, k ≤ p.length ∧ i = .int .i64 k ∧ m = .int .i64 (bnd lim p k 0 0 : Nat) ∧ Below w.heap.size w wr) (fun _ i _ => p.length - (intOf i).toNat)
    case atStart => exact ⟨0, Nat.zero_le _, rfl, by rw [bnd_zero]; rfl, hb1⟩
    case round =>
      obtain ⟨k, hk, rfl, rfl, hbw⟩ := hrel
      by_cases hlt : k < p.length
      · obtain ⟨b, off, row, A', C', rfl, hB, hr, hcr, hsi⟩ := hh.out.at_ hlt
        have hgd := Lib.hid (show p.getD k [] = row by rw [List.getD, hr]; rfl)
        have hrl := (hpr.out row (List.mem_of_getElem? hr)).2
        have hs0 := Lib.hid hsi
        have hc0 := Lib.hid hcr
        clear hr hsi hcr
        go_wp2
        go_loopw [6, 8] (fun m i wr => ∃ c : Nat, c ≤ 6 ∧ i = .int .i64 ((c : Int) + 1) ∧ m = .int .i64 (bnd lim p k c 0 : Nat) ∧ Below w.heap.size w wr) (fun _ i _ => 7 - (intOf i).toNat)
        case atStart => exact ⟨0, by omega, rfl, rfl, hbw⟩
        case round =>
          obtain ⟨c1, hc1, rfl, rfl, hbw⟩ := hrel
          by_cases hlt1 : c1 < 6
          · have hd1 : decide ((c1 : Int) + 1 ≤ 6) = true := decide_eq_true (by omega)
            go_wp2
            go_loopw [6, 9] (fun m i wr2 => ∃ j : Nat, j ≤ row.length ∧ i = .int .i64 j ∧ m = .int .i64 (bnd lim p k c1 j : Nat) ∧ Below w.heap.size w wr2) (fun _ i _ => row.length - (intOf i).toNat)
            case atStart => exact ⟨0, by omega, rfl, rfl, hbw⟩
            case round =>
              obtain ⟨j, hj, rfl, rfl, hbw⟩ := hrel
              have hcw := (bcell hbw hB _).trans hc0.out
              by_cases hlt2 : j < row.length
              · have hcall := bound_any A' C' row c1 lim j wr ((hs0.out.below hbw).more hbw.size) (by omega) (by omega) hlt2
                have HS := Lib.hid (bnd_step lim p k c1 j hgd.out)
                have hbb := bnd_bound (lim := lim) hp1.out hlt hlt1 (k := j) (by omega)
                generalize bnd lim p k c1 j = b0 at HS hbb ⊢
                cases hq : boundB row c1 lim j with
                | true =>
                  rw [hq] at hcall
                  have HQ := Lib.hid hq
                  have HC := Lib.hid hcall
                  clear hq hcall
                  go_wp2_with fail
                  refine HC.out.mono ?_
                  rintro e w2 ⟨rfl, hb2⟩
                  go_wp2
                  go_roundw
                  case rel => exact ⟨j + 1, by omega, by go_num, by rw [HS.out, HQ.out]; rfl, hbw.trans (hb2.mono hbw.size)⟩
                  case measure => simp [intOf]; omega
                | false =>
                  rw [hq] at hcall
                  have HQ := Lib.hid hq
                  have HC := Lib.hid hcall
                  clear hq hcall
                  go_wp2_with fail
                  refine HC.out.mono ?_
                  rintro e w2 ⟨rfl, hb2⟩
                  go_wp2
                  go_roundw
                  case rel => exact ⟨j + 1, by omega, by go_num, by rw [HS.out, HQ.out]; rfl, hbw.trans (hb2.mono hbw.size)⟩
                  case measure => simp [intOf]; omega
              · obtain rfl : j = row.length := by omega
                have HB := Lib.hid (bnd_colour lim p k c1 hgd.out)
                go_wp2
                go_roundw
                case rel => exact ⟨c1 + 1, by omega, by go_num, by rw [HB.out], hbw⟩
                case measure => simp [intOf]; omega
          · obtain rfl : c1 = 6 := by omega
            go_wp2
            go_roundw
            case rel => exact ⟨k + 1, by omega, by go_num, by rw [bnd_row lim hlt], hbw⟩
            case measure => simp [intOf]; omega
      · obtain rfl : k = p.length := by omega
        have HM := Lib.hid (bnd_all lim (p := p) (Nat.le_refl p.length))
        clear hh
        go_wp2
        go_ret2
        exact ⟨by rw [HF.out, HM.out]; rfl, hbw⟩
  · have HF := Lib.hid (binR_e he)
    have hb0 : (chkL p limit == 0) = false := beq_eq_false_iff_ne.2 he
    have hcall2 : ∀ w1, Below w.heap.size w w1 → Calls Try.prog 23 #[.slice A p.length c, .int .i64 limit] w1 fun e w' => e = .returned (.int .i64 (chkL p limit)) ∧ Below w1.heap.size w1 w' := fun w1 hb => looked_any A c p limit w1 ((h.below hb).more hb.size) hrl
    have HC := Lib.hid hcall2
    clear he h hrl hcall2
    generalize chkL p limit = ec at hcall HF hb0 HC
    go_enter Try.func13, Try.ntmps13
    go_wp2_with fail
    refine hcall.mono ?_
    rintro e w1 ⟨rfl, hb1⟩
    go_wp2_with fail
    refine (HC.out w1 hb1).mono ?_
    rintro e w2 ⟨rfl, hb2⟩
    go_wp2
    go_ret2
    exact ⟨by rw [HF.out]; rfl, hb1.trans (hb2.mono hb1.size)⟩
end Go.Proofs.Ythedmiilkeclaaa
