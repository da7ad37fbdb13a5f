/- Instructions as values; bed.Instr and the reference's Instr hand back the same. -/
import Derived.Test.YtjoglkamhjcmhaaBase
namespace Go.Proofs.Ytjoglkamhjcmhaa
open Go.RowKit
set_option maxRecDepth 100000

structure Ins where
  op : Int
  right : Bool
  bed : Int
  at_ : Int
  to_ : Int
  car : Int
  rack : Int
deriving DecidableEq

def Ins.cells (i : Ins) : List Value := [.int .u8 i.op, .bool i.right, .int .u8 i.bed, .int .i64 i.at_, .int .i64 i.to_, .int .i64 i.car, .int .i64 i.rack]
abbrev Ins.val (i : Ins) : Value := .agg #[.int .u8 i.op, .bool i.right, .int .u8 i.bed, .int .i64 i.at_, .int .i64 i.to_, .int .i64 i.car, .int .i64 i.rack]
theorem Ins.cells_length (i : Ins) : i.cells.length = 7 := rfl
/-- The kinds hold the numbers. -/
def Ins.wf (i : Ins) : Prop := 0 ≤ i.op ∧ i.op ≤ 255 ∧ 0 ≤ i.bed ∧ i.bed ≤ 255

def needleP (n : Int) : Prop := -100 ≤ n ∧ n ≤ 100
def carP (n : Int) : Prop := 1 ≤ n ∧ n ≤ 6
/-- A valid instruction. -/
def Ins.good (i : Ins) : Prop :=
  ((i.op = 1 ∨ i.op = 2) ∧ i.right = false ∧ i.bed = 0 ∧ i.at_ = 0 ∧ i.to_ = 0 ∧ i.rack = 0 ∧ carP i.car) ∨
  ((i.op = 3 ∨ i.op = 4 ∨ i.op = 5) ∧ i.to_ = 0 ∧ i.rack = 0 ∧ carP i.car ∧ i.bed ≤ 1 ∧ needleP i.at_) ∨
  (i.op = 6 ∧ i.rack = 0 ∧ carP i.car ∧ i.bed ≤ 1 ∧ needleP i.at_ ∧ needleP i.to_) ∨
  (i.op = 7 ∧ i.right = false ∧ i.car = 0 ∧ i.rack = 0 ∧ i.bed ≤ 1 ∧ needleP i.at_ ∧ needleP i.to_) ∨
  (i.op = 8 ∧ i.right = false ∧ i.bed = 0 ∧ i.at_ = 0 ∧ i.to_ = 0 ∧ i.car = 0 ∧ -8 ≤ i.rack ∧ i.rack ≤ 8) ∨
  (i.op = 9 ∧ i.right = false ∧ i.to_ = 0 ∧ i.car = 0 ∧ i.rack = 0 ∧ i.bed ≤ 1 ∧ needleP i.at_)
instance (n : Int) : Decidable (needleP n) := inferInstanceAs (Decidable (_ ∧ _))
instance (n : Int) : Decidable (carP n) := inferInstanceAs (Decidable (_ ∧ _))
instance (i : Ins) : Decidable i.good := by unfold Ins.good; infer_instance
def Ins.err (i : Ins) : Int := if i.good then 0 else 8

theorem needle_any (n : Int) (w : World) : Calls Try.prog 34 #[.int .i64 n] w fun e w' => e = .returned (.bool (decide (needleP n))) ∧ w = w' := by
  go_enter Try.func34, Try.ntmps34
  go_wp2
  all_goals go_ret
  all_goals refine ⟨ret_bool ?_, rfl⟩
  all_goals (rw [Bool.eq_iff_iff, decide_eq_true_iff (p := needleP n)]; unfold needleP; first | omega | (simp; done) | (simp; omega))
theorem rat_any (n : Int) (w : World) : Calls Try.prog 37 #[.int .i64 n] w fun e w' => e = .returned (.bool (decide (needleP n))) ∧ w = w' := by
  go_enter Try.func37, Try.ntmps37
  go_wp2
  all_goals go_ret
  all_goals refine ⟨ret_bool ?_, rfl⟩
  all_goals (rw [Bool.eq_iff_iff, decide_eq_true_iff (p := needleP n)]; unfold needleP; first | omega | (simp; done) | (simp; omega))
theorem rfeed_any (n : Int) (w : World) : Calls Try.prog 39 #[.int .i64 n] w fun e w' => e = .returned (.bool (decide (carP n))) ∧ w = w' := by
  go_enter Try.func39, Try.ntmps39
  go_wp2
  all_goals go_ret
  all_goals refine ⟨ret_bool ?_, rfl⟩
  all_goals (rw [Bool.eq_iff_iff, decide_eq_true_iff (p := carP n)]; unfold carP; first | omega | (simp; done) | (simp; omega))

/-- Two instructions differ. (A name that the walk does not open.) -/
def insNe (a b : Ins) : Bool := decide (a ≠ b)
def insNe' (a0 : Int) (a1 : Bool) (a2 a3 a4 a5 a6 : Int) (b0 : Int) (b1 : Bool) (b2 b3 b4 b5 b6 : Int) : Bool := insNe ⟨a0, a1, a2, a3, a4, a5, a6⟩ ⟨b0, b1, b2, b3, b4, b5, b6⟩
theorem insNe'_true {a0 : Int} {a1 : Bool} {a2 a3 a4 a5 a6 : Int} {b0 : Int} {b1 : Bool} {b2 b3 b4 b5 b6 : Int} (h : insNe' a0 a1 a2 a3 a4 a5 a6 b0 b1 b2 b3 b4 b5 b6 = true) : ¬ (a0 = b0 ∧ a1 = b1 ∧ a2 = b2 ∧ a3 = b3 ∧ a4 = b4 ∧ a5 = b5 ∧ a6 = b6) := by
  unfold insNe' insNe at h
  intro ⟨h0, h1, h2, h3, h4, h5, h6⟩
  subst h0 h1 h2 h3 h4 h5 h6
  simp at h
theorem insNe'_false {a0 : Int} {a1 : Bool} {a2 a3 a4 a5 a6 : Int} {b0 : Int} {b1 : Bool} {b2 b3 b4 b5 b6 : Int} (h : ¬ insNe' a0 a1 a2 a3 a4 a5 a6 b0 b1 b2 b3 b4 b5 b6 = true) : a0 = b0 ∧ a1 = b1 ∧ a2 = b2 ∧ a3 = b3 ∧ a4 = b4 ∧ a5 = b5 ∧ a6 = b6 := by
  unfold insNe' insNe at h
  simpa using h
set_option maxHeartbeats 1000000 in
theorem run_neq_ins (W : World) (a0 : Int) (a1 : Bool) (a2 a3 a4 a5 a6 : Int) (b0 : Int) (b1 : Bool) (b2 b3 b4 b5 b6 : Int) :
    (binOp .neq 43 (.agg #[.int .u8 a0, .bool a1, .int .u8 a2, .int .i64 a3, .int .i64 a4, .int .i64 a5, .int .i64 a6]) (.agg #[.int .u8 b0, .bool b1, .int .u8 b2, .int .i64 b3, .int .i64 b4, .int .i64 b5, .int .i64 b6])).run Try.prog W
      = .ok (.bool (insNe' a0 a1 a2 a3 a4 a5 a6 b0 b1 b2 b3 b4 b5 b6)) W := by
  unfold insNe' insNe
  rw [run_neq_struct, show (10000 : Nat) = 9999 + 1 from rfl]
  by_cases h0 : a0 = b0
  case neg => simp [go_sem, h0]
  subst h0
  by_cases h1 : a1 = b1
  case neg => simp [go_sem, h1]
  subst h1
  by_cases h2 : a2 = b2
  case neg => simp [go_sem, h2]
  subst h2
  by_cases h3 : a3 = b3
  case neg => simp [go_sem, h3]
  subst h3
  by_cases h4 : a4 = b4
  case neg => simp [go_sem, h4]
  subst h4
  by_cases h5 : a5 = b5
  case neg => simp [go_sem, h5]
  subst h5
  by_cases h6 : a6 = b6
  case neg => simp [go_sem, h6]
  subst h6
  simp [go_sem]
end Go.Proofs.Ytjoglkamhjcmhaa
