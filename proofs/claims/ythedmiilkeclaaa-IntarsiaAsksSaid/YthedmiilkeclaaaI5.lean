/- Layer 34, contracts: the floats of a colour in a row, the program's and the reference's. -/
import Derived.Test.YthedmiilkeclaaaI4
namespace Go.Proofs.Ythedmiilkeclaaa
open Go.RowKit
open Go.Proofs.Ythedmiilkeclaaa.I34
set_option maxRecDepth 100000

theorem info_pair : (Try.prog.info? 46).map (fun i => (i.zero, i.size, i.bytes)) = some (some (.agg #[.int .i64 0, .int .i64 0]), 2, 16) := by kernel_rfl
def pairCells (l : List (Nat × Nat)) : List Value := l.flatMap fun f => [.int .i64 (f.1 : Int), .int .i64 (f.2 : Int)]
theorem pairCells_snoc (l : List (Nat × Nat)) (x y : Nat) : pairCells (l ++ [(x, y)]) = pairCells l ++ [.int .i64 (x : Int), .int .i64 (y : Int)] := by simp [pairCells]
/-- The slot 'last', where nothing has been seen: n. -/
def lastOr (n : Int) (o : Option Nat) : Int := match o with
  | some l => (l : Int)
  | none => n
theorem floTo_last_lt (row : List Int) (colour : Int) (k l : Nat) (h : (floTo row colour k).2 = some l) : l < k := ((floTo_row row colour k).1 l h).1
theorem floTo_len (row : List Int) (colour : Int) : ∀ k, (floTo row colour k).1.length ≤ k
  | 0 => by simp [floTo]
  | k + 1 => by
    have ih := floTo_len row colour k
    simp only [floTo, floStep]
    split
    · split
      · split
        · simp; omega
        · show (floTo row colour k).1.length ≤ k + 1; omega
      · show (floTo row colour k).1.length ≤ k + 1; omega
    · omega
theorem floTo_skip {row : List Int} {colour : Int} {k : Nat} {z : Int} (hz : row[k]? = some z) (h : z ≠ colour) : floTo row colour (k + 1) = floTo row colour k := by
  simp only [floTo, floStep, List.getD, hz, Option.getD_some, h, if_false]
theorem floTo_take {row : List Int} {colour : Int} {k : Nat} {z : Int} {l : Nat} (hz : row[k]? = some z) (h : z = colour) (hl : (floTo row colour k).2 = some l) (hlt : l + 1 < k) :
    floTo row colour (k + 1) = ((floTo row colour k).1 ++ [(l, k)], some k) := by
  simp only [floTo, floStep, List.getD, hz, Option.getD_some, h, if_true, hl, hlt]
theorem floTo_near {row : List Int} {colour : Int} {k : Nat} {z : Int} {l : Nat} (hz : row[k]? = some z) (h : z = colour) (hl : (floTo row colour k).2 = some l) (hlt : ¬ l + 1 < k) :
    floTo row colour (k + 1) = ((floTo row colour k).1, some k) := by
  simp only [floTo, floStep, List.getD, hz, Option.getD_some, h, if_true, hl, hlt, if_false]
theorem floTo_first {row : List Int} {colour : Int} {k : Nat} {z : Int} (hz : row[k]? = some z) (h : z = colour) (hl : (floTo row colour k).2 = none) :
    floTo row colour (k + 1) = ((floTo row colour k).1, some k) := by
  simp only [floTo, floStep, List.getD, hz, Option.getD_some, h, if_true, hl]

set_option maxHeartbeats 4000000 in
theorem floats_any (A : Option Addr) (c : Nat) (row : List Int) (colour : Int) (w : World) (h : SlI w w.heap.size A row) (hn : row.length ≤ 1000) :
    Calls Try.prog 19 #[.slice A row.length c, .int .i64 colour] w fun e w' =>
      ∃ v, e = .returned v ∧ w'.ownsRow w.heap.size 46 2 v (flo row colour).length (pairCells (flo row colour)) ∧ Below w.heap.size w w' := by
  obtain ⟨i0, hi, hz0, hz1, hz2⟩ := info_parts info_pair
  go_enter Try.func19, Try.ntmps19
  go_wp2
  go_loopw [4, 5, 12] (fun out last i wr => ∃ k : Nat, k ≤ row.length ∧ i = .int .i64 k ∧ last = .int .i64 (lastOr row.length (floTo row colour k).2) ∧
      wr.ownsRow w.heap.size 46 2 out (floTo row colour k).1.length (pairCells (floTo row colour k).1) ∧ Below w.heap.size w wr) (fun _ _ i _ => row.length - (intOf i).toNat)
  case atStart => exact ⟨0, Nat.zero_le _, rfl, rfl, World.ownsRow_nil _ _ _ _, Below.refl _ _⟩
  case round =>
    obtain ⟨k, hk, rfl, rfl, hown, hbw⟩ := hrel
    by_cases hlt : k < row.length
    · obtain ⟨b, off, z, rfl, hB, hz, hcz⟩ := h.at_ hlt
      have hc := (bcell hbw hB _).trans hcz
      have HZ : Hid (row[k]? = some z) := hz
      clear hz hcz h
      by_cases he : z = colour
      · subst he
        have hlen := floTo_len row z k
        cases hl : (floTo row z k).2 with
        | none =>
          have HF := Lib.hid (floTo_first HZ.out rfl hl)
          clear hl
          generalize (floTo row z k).1 = fl at hown HF
          simp only [lastOr]
          go_wp2
          go_roundw
          case rel => exact ⟨k + 1, by omega, by go_num, by rw [HF.out], by rw [HF.out]; exact hown, hbw⟩
          case measure => simp [intOf]; omega
        | some l =>
          have hlk := floTo_last_lt _ _ _ _ hl
          by_cases hnear : l + 1 < k
          · have HF := Lib.hid (floTo_take HZ.out rfl hl hnear)
            clear hl
            generalize (floTo row z k).1 = fl at hown HF hlen
            simp only [lastOr]
            go_wp2_with (at_builtin; refine wpList_append_own _ rfl _ _ 24 rfl w.heap.size 46 i0 (.agg #[.int .i64 0, .int .i64 0]) 2 16 Try.underlying24 hi hz0 hz1 hz2 rfl (by decide) _ _ _ rfl (hown.alloc _) ⟨wr.heap.size, 0, none⟩ 1 1 [.int .i64 (l : Int), .int .i64 (k : Int)] rfl rfl (cell_two_new _ _ _ _) (by simp [Value.oneCell']) (by unfold maxLen; omega) (by omega) (by have := hbw.size; simp; omega) ?_; intro v' w1 hown' hgrow _; have hbw1 := own_step hbw hown hbw.size hgrow; clear hgrow hown hbw)
            go_roundw
            case rel => exact ⟨k + 1, by omega, by go_num, by rw [HF.out], by rw [HF.out, pairCells_snoc, List.length_append]; exact hown', hbw1⟩
            case measure => simp [intOf]; omega
          · have HF := Lib.hid (floTo_near HZ.out rfl hl hnear)
            clear hl
            generalize (floTo row z k).1 = fl at hown HF
            simp only [lastOr]
            go_wp2
            go_roundw
            case rel => exact ⟨k + 1, by omega, by go_num, by rw [HF.out], by rw [HF.out]; exact hown, hbw⟩
            case measure => simp [intOf]; omega
      · have HF := Lib.hid (floTo_skip HZ.out he)
        have hb : (z == colour) = false := beq_eq_false_iff_ne.2 he
        clear he
        generalize floTo row colour k = fl at hown HF ⊢
        go_wp2
        go_roundw
        case rel => exact ⟨k + 1, by omega, by go_num, by rw [HF.out], by rw [HF.out]; exact hown, hbw⟩
        case measure => simp [intOf]; omega
    · obtain rfl : k = row.length := by omega
      clear h
      go_wp2
      go_ret
      exact ⟨_, rfl, hown, hbw⟩
end Go.Proofs.Ythedmiilkeclaaa
