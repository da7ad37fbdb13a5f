/- Layer 31: begin, column, racked, the hooks that are used. -/
import Derived.Test.YtbnddpknejgmhaaPass
namespace Go.Proofs.Ytbnddpknejgmhaa
open Go.RowKit
set_option maxRecDepth 100000

def Ins.col (rack : Int) (i : Ins) : Int := i.at_ + i.bed * rack
theorem col_rng {rack : Int} {i : Ins} (hi : i.fit) (hr : -8 ≤ rack ∧ rack ≤ 8) : (-8 ≤ i.bed * rack ∧ i.bed * rack ≤ 8) ∧ -108 ≤ i.col rack ∧ i.col rack ≤ 108 := by
  obtain ⟨_, _, h1, h2, ⟨h3, h4⟩, _⟩ := hi
  unfold Ins.col
  rcases (by omega : i.bed = 0 ∨ i.bed = 1) with e | e
  · rw [e]; omega
  · rw [e]; omega

def rackedI (rack : Int) (i : Ins) : Int := if i.op = 8 then i.rack else rack
set_option maxHeartbeats 1000000 in
theorem racked_any (rack : Int) (i : Ins) (w : World) : Calls Try.prog 30 #[.int .i64 rack, i.val] w fun e w' => e = .returned (.int .i64 (rackedI rack i)) ∧ Below w.heap.size w w' := by
  by_cases h : i.op = 8
  · have HE : Hid ((rackedI rack i) = i.rack) := if_pos h
    go_enter Try.func30, Try.ntmps30
    go_wp2
    go_ret
    exact ⟨ret_int HE.out.symm, (Below.refl _ _).alloc (Nat.le_refl _) _⟩
  · have HE : Hid ((rackedI rack i) = rack) := if_neg h
    have f : (i.op == 8) = false := beq_eq_false_iff_ne.2 h
    go_enter Try.func30, Try.ntmps30
    go_wp2
    go_ret
    exact ⟨ret_int HE.out.symm, (Below.refl _ _).alloc (Nat.le_refl _) _⟩

set_option maxHeartbeats 1000000 in
theorem column_any (rack : Int) (i : Ins) (hi : i.fit) (hr : -8 ≤ rack ∧ rack ≤ 8) (pb : Nat) (w : World) (hp : w.cell? ⟨pb, 14, none⟩ = some (.int .i64 rack)) :
    Calls Try.prog 62 #[.pointer (some ⟨pb, 0, none⟩), i.val] w fun e w' => e = .returned (.int .i64 (i.col rack)) ∧ Below w.heap.size w w' := by
  have h := col_rng hi hr
  have HC : Hid (i.col rack = i.at_ + i.bed * rack) := rfl
  have h1 : IntKind.i64.wrap (i.bed * rack) = i.bed * rack := IntWalk.i64_in _ (by omega)
  have h2 : IntKind.i64.wrap (i.at_ + i.bed * rack) = i.at_ + i.bed * rack := IntWalk.i64_in _ (by unfold Ins.col at h; omega)
  have h3 : IntKind.i64.wrap i.bed = i.bed := IntWalk.i64_in _ (by obtain ⟨_, _, h1, h2, _⟩ := hi; omega)
  have hpl := cell_lt hp
  have hpa := fun o => (bcell ((Below.refl _ w).alloc (Nat.le_refl _) o) hpl 14).trans hp
  clear hi hr h
  go_enter Try.func62, Try.ntmps62
  go_wp2
  go_quiet (fail)
  go_wp2
  go_ret
  refine ⟨ret_int ?_, ?_⟩
  · rw [HC.out]
  · exact below_drewN ((Below.refl _ _).alloc (Nat.le_refl _) _) _

set_option maxHeartbeats 1000000 in
theorem grow1_any (bx pb mb n : Nat) (U : List Hook) (u : Hook) (hu : okU u) (w : World) (hb : w.cell? ⟨bx, 0, none⟩ = some (.pointer (some ⟨pb, 0, none⟩))) (hp : w.cell? ⟨pb, 15, none⟩ = some (.map (some mb))) (hset : HookSet w mb n U) :
    Calls Try.prog 65 #[hval u, .pointer (some ⟨bx, 0, none⟩)] w fun e w' => e = .returned (.bool (decide (u ∈ U))) ∧ Below w.heap.size w w' := by
  have hbl := cell_lt hb
  have hba := fun o => (bcell ((Below.refl _ w).alloc (Nat.le_refl _) o) hbl 0).trans hb
  have hpl := cell_lt hp
  have hpa := fun o => (bcell ((Below.refl _ w).alloc (Nat.le_refl _) o) hpl 15).trans hp
  have hlook : ∀ n : Nat, (Instr.lookup 92 (.map (some mb)) (hval u) false).run Try.prog ((w.alloc (.cells #[.int .u8 u.1, .int .i64 u.2] 100)).drewN n) = .ok (.bool (decide (u ∈ U))) ((w.alloc (.cells #[.int .u8 u.1, .int .i64 u.2] 100)).drewN n) :=
    fun n => HookSet.look (HookSet.below hset (below_drewN ((Below.refl _ _).alloc (Nat.le_refl _) _) n) hset.lt) hu
  generalize decide (u ∈ U) = r at hlook ⊢
  clear hset
  go_enter Try.func65, Try.ntmps65
  go_wp2
  go_quiet (fail)
  go_wp2
  go_ret
  exact ⟨rfl, below_drewN ((Below.refl _ _).alloc (Nat.le_refl _) _) _⟩
end Go.Proofs.Ytbnddpknejgmhaa
