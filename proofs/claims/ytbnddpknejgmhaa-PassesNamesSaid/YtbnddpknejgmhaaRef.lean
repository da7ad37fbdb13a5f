/- Layer 31, the reference: group, column, names, after. -/
import Derived.Test.YtbnddpknejgmhaaFew
namespace Go.Proofs.Ytbnddpknejgmhaa
open Go.RowKit
set_option maxRecDepth 100000

def groupI (i : Ins) : Int := if 3 ≤ i.op ∧ i.op ≤ 6 then 1 else if i.op = 7 then 2 else if i.op = 9 then 3 else 0
def RetI (v : Int) (w : World) (e : Ending) (w' : World) : Prop := e = .returned (.int .i64 v) ∧ Below w.heap.size w w'
theorem RetI.mk' {v x : Int} {w w' : World} (h : v = x) (hb : Below w.heap.size w w') : RetI v w (.returned (.int .i64 x)) w' := ⟨by rw [h], hb⟩
def RetB (v : Bool) (w : World) (e : Ending) (w' : World) : Prop := e = .returned (.bool v) ∧ Below w.heap.size w w'
theorem RetB.mk' {v x : Bool} {w w' : World} (h : v = x) (hb : Below w.heap.size w w') : RetB v w (.returned (.bool x)) w' := ⟨by rw [h], hb⟩

set_option maxHeartbeats 1000000 in
theorem group_any (i : Ins) (w : World) : Calls Try.prog 47 #[i.val] w fun e w' => RetI (groupI i) w e w' := by
  have hb : Hid (∀ o, Below w.heap.size w (w.alloc o)) := fun o => (Below.refl _ _).alloc (Nat.le_refl _) o
  have HG : Hid (groupI i = if 3 ≤ i.op ∧ i.op ≤ 6 then 1 else if i.op = 7 then 2 else if i.op = 9 then 3 else 0) := rfl
  generalize groupI i = g at HG ⊢
  go_enter Try.func47, Try.ntmps47
  go_wp2
  all_goals go_ret
  all_goals refine RetI.mk' ?_ (hb.out _)
  all_goals (rw [HG.out]; simp only [beq_iff_eq, beq_eq_false_iff_ne, ne_eq] at *; first | (simp [*]; done) | (repeat' split) <;> first | rfl | omega)

def namesB (a b : Ins) : Bool := decide ((a.bed = b.bed ∧ a.at_ = b.at_) ∨ (a.op = 7 ∧ ((a.bed = b.bed ∧ a.to_ = b.to_) ∨ (a.bed ≠ b.bed ∧ (a.at_ = b.to_ ∨ a.to_ = b.at_)))))
set_option maxHeartbeats 1000000 in
theorem names_any (a b : Ins) (w : World) : Calls Try.prog 49 #[a.val, b.val] w fun e w' => RetB (namesB a b) w e w' := by
  have hb : Hid (∀ o o2, Below w.heap.size w ((w.alloc o).alloc o2)) := fun o o2 => ((Below.refl _ _).alloc (Nat.le_refl _) o).alloc (by simp) o2
  have HG : Hid (namesB a b = decide ((a.bed = b.bed ∧ a.at_ = b.at_) ∨ (a.op = 7 ∧ ((a.bed = b.bed ∧ a.to_ = b.to_) ∨ (a.bed ≠ b.bed ∧ (a.at_ = b.to_ ∨ a.to_ = b.at_)))))) := rfl
  generalize namesB a b = g at HG ⊢
  go_enter Try.func49, Try.ntmps49
  go_wp2
  all_goals go_ret
  all_goals refine RetB.mk' ?_ (hb.out _ _)
  all_goals (rw [HG.out]; first | (simp_all; done) | (by_cases h1 : a.bed = b.bed <;> by_cases h2 : a.at_ = b.at_ <;> by_cases h3 : a.to_ = b.at_ <;> by_cases h4 : a.at_ = b.to_ <;> by_cases h5 : a.op = 7 <;> simp_all; done))
end Go.Proofs.Ytbnddpknejgmhaa
