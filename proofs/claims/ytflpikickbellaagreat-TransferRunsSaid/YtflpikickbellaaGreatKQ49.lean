/- Layer 32: Great. Layer 32: SameHooks at two slices of one content. -/
import Derived.Test.YtflpikickbellaaGreatKQ4
import Derived.Test.YtflpikickbellaaGreatKQ19
import Derived.BigQuiet
import Derived.ChangeKeysEq
namespace Go.Proofs.YtflpikickbellaaGreat
open Go.RowKit Go.Shelf
set_option maxRecDepth 100000

def grtB (s : Sft) : Bool := decide (50 < s.to_.length) || decide (100 < s.first.length)
set_option maxHeartbeats 2000000 in
theorem rgreat_any (A F : Option Addr) (c fc : Nat) (s : Sft) (w : World) (h : SfAt A F s w) :
    Calls Tryz.prog 6 #[sftV A F c fc s] w fun e w' => e = .returned (.bool (grtB s)) ∧ Below w.heap.size w w' := by
  have hbx := SfBx.new c fc h
  have c0 := hbx.c0
  have c1 := hbx.c1
  have HB := Lib.hid (al_t w (sftB A F c fc s))
  have HR : Hid (grtB s = (decide (50 < s.to_.length) || decide (100 < s.first.length))) := rfl
  obtain ⟨r, hr⟩ : ∃ r, r = grtB s := ⟨_, rfl⟩
  rw [← hr] at HR ⊢
  clear h hbx hr
  by_cases h1 : 50 < s.to_.length
  · have d1 : decide (50 < s.to_.length) = true := decide_eq_true h1
    have d2 : decide ((50 : Int) < (s.to_.length : Int)) = true := decide_eq_true (by omega)
    have HR2 : Hid (r = true) := by show _ = _; rw [HR.out, d1]; rfl
    clear HR h1
    go_enter Tryz.func6, Tryz.ntmps6
    go_wp2
    go_ret
    exact ⟨ret_bool HR2.out.symm, HB.out⟩
  · have d1 : decide (50 < s.to_.length) = false := decide_eq_false h1
    have d2 : decide ((50 : Int) < (s.to_.length : Int)) = false := decide_eq_false (by omega)
    by_cases h2 : 100 < s.first.length
    · have e1 : decide (100 < s.first.length) = true := decide_eq_true h2
      have e2 : decide ((100 : Int) < (s.first.length : Int)) = true := decide_eq_true (by omega)
      have HR2 : Hid (r = true) := by show _ = _; rw [HR.out, e1]; simp
      clear HR h1 h2
      go_enter Tryz.func6, Tryz.ntmps6
      go_wp2
      go_ret
      exact ⟨ret_bool HR2.out.symm, HB.out⟩
    · have e1 : decide (100 < s.first.length) = false := decide_eq_false h2
      have e2 : decide ((100 : Int) < (s.first.length : Int)) = false := decide_eq_false (by omega)
      have HR2 : Hid (r = false) := by show _ = _; rw [HR.out, d1, e1]; rfl
      clear HR h1 h2
      go_enter Tryz.func6, Tryz.ntmps6
      go_wp2
      go_ret
      exact ⟨ret_bool HR2.out.symm, HB.out⟩
theorem great_no {s : Sft} (h : grtB s = false) : s.to_.length ≤ 50 ∧ s.first.length ≤ 100 := by
  unfold grtB at h
  rw [Bool.or_eq_false_iff, decide_eq_false_iff_not, decide_eq_false_iff_not] at h
  omega
end Go.Proofs.YtflpikickbellaaGreat
namespace Go.Proofs.YtflpikickbellaaGreat
open Go.RowKit Go.Shelf
set_option maxRecDepth 100000

set_option maxHeartbeats 2000000 in
theorem sameHooks_any (A A' : Option Addr) (c c' : Nat) (l : List Hk) (w : World) (h : SlHk w w.heap.size A l) (h' : SlHk w w.heap.size A' l) (hn : l.length ≤ 4611686018427387904) (hll : ∀ x ∈ l, x.loops.length ≤ 4611686018427387904) :
    Calls Tryz.prog 12 #[.slice A l.length c, .slice A' l.length c'] w fun e w' => e = .returned (.bool true) ∧ Below w.heap.size w w' := by
  have hne : (((l.length : Nat) : Int) != ((l.length : Nat) : Int)) = false := by simp
  have HL := Lib.hid hll
  clear hll
  go_enter Tryz.func12, Tryz.ntmps12
  go_wp2
  go_loopw [5] (fun i wr => ∃ k : Nat, k ≤ l.length ∧ i = .int .i64 k ∧ Below w.heap.size w wr) (fun i _ => l.length - (intOf i).toNat)
  case atStart => exact ⟨0, Nat.zero_le _, rfl, Below.refl _ _⟩
  case round =>
    obtain ⟨k, hk, rfl, hbw⟩ := hrel
    by_cases hlt : k < l.length
    · obtain ⟨b, off, x, B1, C1, rfl, hB, hz, q0, q1, q2, hC, hsi⟩ := h.at_ hlt
      obtain ⟨b', off', x', B2, C2, rfl, hB', hz', r0, r1, r2, hC', hsi'⟩ := h'.at_ hlt
      rw [hz] at hz'
      obtain rfl : x = x' := by simpa using hz'
      have e0 := (bcell hbw hB _).trans q0
      have e1 := (bcell hbw hB _).trans q1
      have e2 := (bcell hbw hB _).trans q2
      have f0 := (bcell hbw hB' _).trans r0
      have f1 := (bcell hbw hB' _).trans r1
      have f2 := (bcell hbw hB' _).trans r2
      have HC := Lib.hid (fun n => sameI_any B1 B2 C1 C2 x.loops (wr.drewN n) ((hsi.below (below_drewT hbw n)).more (below_drewT hbw n).size) ((hsi'.below (below_drewT hbw n)).more (below_drewT hbw n).size) (HL.out x (List.mem_of_getElem? hz)))
      have t0 : (x.bed != x.bed) = false := by simp
      have t1 : (x.at_ != x.at_) = false := by simp
      have HB := Lib.hid hbw
      clear q0 q1 q2 r0 r1 r2 hsi hsi' hz hz' hC hC' hbw hB hB' h h'
      go_wp2
      go_quiet ((go_at_call 19; exact Calls.quiet_of (HC.out _)))
      go_wp2
      go_roundw
      case rel => exact ⟨k + 1, by omega, by go_num, below_drewT HB.out _⟩
      case measure => simp [intOf]; omega
    · clear h h'
      go_wp2
      go_ret
      exact ⟨rfl, hbw⟩
end Go.Proofs.YtflpikickbellaaGreat
