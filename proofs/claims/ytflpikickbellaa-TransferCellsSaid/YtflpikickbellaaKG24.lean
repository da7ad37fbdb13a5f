/- Layer 32: the chapter's examples: plain; SamePairs; cells. Layer 32: the examples' cells, and Same at literals. -/
import Derived.Test.YtflpikickbellaaKOf
import Derived.Test.YtflpikickbellaaKPq
import Derived.Test.YtflpikickbellaaKG9
namespace Go.Proofs.Ytflpikickbellaa
open Go.RowKit Go.Shelf Go.Sort
set_option maxRecDepth 100000

def alC (k : Int) : List Stc := [⟨k, false, 2, 0⟩, ⟨2, false, 0, 0⟩]
theorem al_of (k : Int) (f : Int × Int) (h1 : allE (alC k) = 0) (h2 : (alC k).any kindB = false) (h3 : sumU (alC k) = 2) (h4 : runO (alC k) 2 = ⟨2, [0, 0], [f]⟩) : ofE (alC k) = (⟨[0, 0], [f]⟩, 0) := by
  have e : (alC k).length = 2 := rfl
  have hs : sortP [f] = [f] := by unfold sortP; simp
  have hf : farB [0, 0] = false := by decide
  unfold ofE
  rw [e, h4, if_neg (by rw [h1]; simp), if_neg (by rw [h2]; simp), if_neg (by rw [h3]; omega), hf, hs]
  rfl
theorem al_of3 : ofE (alC 3) = (⟨[0, 0], [(0, 1)]⟩, 0) := al_of 3 (0, 1) (by kernel_rfl) (by kernel_rfl) (by kernel_rfl) (by kernel_rfl)
theorem al_of4 : ofE (alC 4) = (⟨[0, 0], [(1, 0)]⟩, 0) := al_of 4 (1, 0) (by kernel_rfl) (by kernel_rfl) (by kernel_rfl) (by kernel_rfl)
theorem al_plan : plE ⟨[0, 0], [(0, 1)]⟩ = ([xferF 1, rackI (-1), xferB 1 0, rackI 0], 0) := by kernel_rfl
theorem al_ord : ordE ⟨[0, 0], [(1, 0)]⟩ = ([1, 0], 0) := by kernel_rfl
end Go.Proofs.Ytflpikickbellaa
namespace Go.Proofs.Ytflpikickbellaa
open Go.RowKit Go.Shelf Go.Sort
set_option maxRecDepth 100000

theorem neq_pr (W : World) (a b : Int) : (binOp .neq 63 (.agg #[.int .i64 a, .int .i64 b]) (.agg #[.int .i64 a, .int .i64 b])).run Try.prog W = .ok (.bool false) W := by
  obtain ⟨i1, hi', hz0', hz1', hz2'⟩ := info_parts info_int'
  rw [run_neq_struct, show (10000 : Nat) = 9999 + 1 from rfl, run_equalIn_array W 9999 _ _ Try.underlying63 hi', show Try.prog.cellsOf 3 = 1 by kernel_rfl]
  simp [Op.eqItems, List.range, List.range.loop, part, go_sem]
set_option maxHeartbeats 1000000 in
theorem samePr_any (A A' : Option Addr) (c c' : Nat) (l : List (Int × Int)) (w : World) (h : SlPr w w.heap.size A l) (h' : SlPr w w.heap.size A' l) (hn : l.length ≤ 4611686018427387904) :
    Calls Try.prog 59 #[.slice A l.length c, .slice A' l.length c'] w fun e w' => e = .returned (.bool true) ∧ ∃ m, w' = w.drewN m := by
  have hne : (((l.length : Nat) : Int) == ((l.length : Nat) : Int)) = true := by simp
  go_enter Try.func59, Try.ntmps59
  go_wp2
  go_loopw [5] (fun i wr => ∃ k : Nat, k ≤ l.length ∧ i = .int .i64 k ∧ Hid (∃ m, wr = w.drewN m)) (fun i _ => l.length - (intOf i).toNat)
  case atStart => exact ⟨0, Nat.zero_le _, rfl, 0, rfl⟩
  case round =>
    obtain ⟨k, hk, rfl, HM⟩ := hrel
    have hbw : Below w.heap.size w wr := by obtain ⟨m, rfl⟩ := HM.out; exact below_drewT (Below.refl _ _) m
    by_cases hlt : k < l.length
    · obtain ⟨b, off, z, rfl, hB, hz, q0, q1⟩ := h.at_ hlt
      obtain ⟨b', off', z', rfl, hB', hz', r0, r1⟩ := h'.at_ hlt
      rw [hz] at hz'
      obtain rfl : z = z' := by simpa using hz'
      have h1 := (bcell hbw hB _).trans q0
      have h2 := (bcell hbw hB _).trans q1
      have h3 := (bcell hbw hB' _).trans r0
      have h4 := (bcell hbw hB' _).trans r1
      clear q0 q1 r0 r1 h h' hz hz' hbw
      obtain ⟨z1, z2⟩ := z
      have hN := fun W => neq_pr W z1 z2
      go_wp2
      go_quiet (fail)
      go_wp2
      go_roundw
      case rel => exact ⟨k + 1, by omega, by go_num, by obtain ⟨m, hm⟩ := HM.out; exact ⟨_, by rw [hm, World.drewN_drewN]⟩⟩
      case measure => simp [intOf]; omega
    · clear h h' hbw
      go_wp2
      go_ret
      exact ⟨rfl, HM.out⟩
theorem sl_lit {W W' : World} {cs : Array Value} {t : TypeId} (l : List Int) (e : W' = W.alloc (.cells cs t)) (hc : cs = (intV l).toArray) : SlI W' W'.heap.size (some ⟨W.heap.size, 0, none⟩) l := fun _ => by
  subst hc
  refine ⟨W.heap.size, 0, rfl, by subst e; simp, fun j z hz => ?_⟩
  rw [Nat.zero_add]
  refine cell_new e rfl ?_
  unfold intV
  simp [hz]
theorem sls_lit {W W' : World} {sz : Nat} {cs : Array Value} {t : TypeId} (zs : List (List Value)) (hz : ∀ z ∈ zs, z.length = sz) (e : W' = W.alloc (.cells cs t)) (hc : cs = zs.flatten.toArray) : SlS sz W' W'.heap.size (some ⟨W.heap.size, 0, none⟩) zs := fun _ => by
  subst hc
  refine ⟨W.heap.size, 0, rfl, by subst e; simp, fun j z hj i v hv => ?_⟩
  rw [Nat.zero_add]
  refine cell_new e rfl ?_
  have := flat_at hz hj hv
  simpa using this
set_option maxHeartbeats 2000000 in
theorem cells32_any (k : Int) (w : World) : Calls Try.prog 60 #[.int .u8 k] w fun e w' => ∃ A, e = .returned (.slice A 2 2) ∧ SlT w' w'.heap.size A (alC k) ∧ Below w.heap.size w w' := by
  have HB : Hid (Below w.heap.size w (w.alloc (.cells ((alC k).map Stc.cells).flatten.toArray 66))) := al_t _ _
  have HS : Hid (SlT (w.alloc (.cells ((alC k).map Stc.cells).flatten.toArray 66)) (w.alloc (.cells ((alC k).map Stc.cells).flatten.toArray 66)).heap.size (some ⟨w.heap.size, 0, none⟩) (alC k)) := sls_lit _ (by intro z hz; simp [alC, Stc.cells] at hz; rcases hz with rfl | rfl <;> rfl) rfl rfl
  go_enter Try.func60, Try.ntmps60
  go_wp2
  go_ret
  exact ⟨_, rfl, HS.out, HB.out⟩
end Go.Proofs.Ytflpikickbellaa
