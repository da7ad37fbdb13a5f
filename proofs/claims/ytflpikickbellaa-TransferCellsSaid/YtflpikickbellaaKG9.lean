/- Layer 32: SameInstrs at two slices of one content. Layer 32: Great. -/
import Derived.Test.YtflpikickbellaaKG5
import Derived.BigQuiet
import Derived.ChangeKeysEq
namespace Go.Proofs.Ytflpikickbellaa
open Go.RowKit Go.Shelf
set_option maxRecDepth 100000

set_option maxHeartbeats 1000000 in
theorem sameInstrs_any (A A' : Option Addr) (c c' : Nat) (l : List Ins) (w : World) (h : SlX w w.heap.size A l) (h' : SlX w w.heap.size A' l) (hn : l.length ≤ 4611686018427387904) :
    Calls Try.prog 18 #[.slice A l.length c, .slice A' l.length c'] w fun e w' => e = .returned (.bool true) ∧ Below w.heap.size w w' := by
  have hne : (((l.length : Nat) : Int) == ((l.length : Nat) : Int)) = true := by simp
  go_enter Try.func18, Try.ntmps18
  go_wp2
  go_loopw [5] (fun i wr => ∃ k : Nat, k ≤ l.length ∧ i = .int .i64 k ∧ Below w.heap.size w wr) (fun i _ => l.length - (intOf i).toNat)
  case atStart => exact ⟨0, Nat.zero_le _, rfl, Below.refl _ _⟩
  case round =>
    obtain ⟨k, hk, rfl, hbw⟩ := hrel
    by_cases hlt : k < l.length
    · obtain ⟨b, off, x, rfl, hB, hz, hc⟩ := h.at_ hlt
      obtain ⟨b', off', x', rfl, hB', hz', hc'⟩ := h'.at_ hlt
      rw [hz] at hz'
      obtain rfl : x = x' := by simpa using hz'
      obtain ⟨c0, c1, c2, c3, c4, c5, c6⟩ := hc.below hbw hB
      obtain ⟨d0, d1, d2, d3, d4, d5, d6⟩ := hc'.below hbw hB'
      have hneq : ∀ W : World, (binOp .neq 61 (.agg #[.int .u8 x.op, .bool x.right, .int .u8 x.bed, .int .i64 x.at_, .int .i64 x.to_, .int .i64 x.car, .int .i64 x.rack]) (.agg #[.int .u8 x.op, .bool x.right, .int .u8 x.bed, .int .i64 x.at_, .int .i64 x.to_, .int .i64 x.car, .int .i64 x.rack])).run Try.prog W = .ok (.bool false) W := fun W => by
        rw [run_neq_ins]; unfold insNe' insNe; simp
      clear hc hc' h h' hz hz'
      go_wp2
      go_quiet (fail)
      go_wp2
      go_roundw
      case rel => exact ⟨k + 1, by omega, by go_num, below_drewT hbw _⟩
      case measure => simp [intOf]; omega
    · clear h h'
      go_wp2
      go_ret
      exact ⟨rfl, hbw⟩
end Go.Proofs.Ytflpikickbellaa
namespace Go.Proofs.Ytflpikickbellaa
open Go.RowKit Go.Shelf
set_option maxRecDepth 100000

def grtB (s : Sft) : Bool := decide (50 < s.to_.length) || decide (100 < s.first.length)
set_option maxHeartbeats 2000000 in
theorem rgreat_any (A F : Option Addr) (c fc : Nat) (s : Sft) (w : World) (h : SfAt A F s w) :
    Calls Try.prog 8 #[sftV A F c fc s] w fun e w' => e = .returned (.bool (grtB s)) ∧ Below w.heap.size w w' := by
  have hbx := SfBx.new c fc h
  have c0 := hbx.c0
  have c1 := hbx.c1
  have HB := Lib.hid (al_t w (sftB A F c fc s))
  have HR : Hid (grtB s = (decide (50 < s.to_.length) || decide (100 < s.first.length))) := rfl
  obtain ⟨r, hr⟩ : ∃ r, r = grtB s := ⟨_, rfl⟩
  rw [← hr] at HR ⊢
  clear h hbx hr
  by_cases h1 : 50 < s.to_.length
  · have d1 : decide (50 < s.to_.length) = true := decide_eq_true h1
    have d2 : decide ((50 : Int) < (s.to_.length : Int)) = true := decide_eq_true (by omega)
    have HR2 : Hid (r = true) := by show _ = _; rw [HR.out, d1]; rfl
    clear HR h1
    go_enter Try.func8, Try.ntmps8
    go_wp2
    go_ret
    exact ⟨ret_bool HR2.out.symm, HB.out⟩
  · have d1 : decide (50 < s.to_.length) = false := decide_eq_false h1
    have d2 : decide ((50 : Int) < (s.to_.length : Int)) = false := decide_eq_false (by omega)
    by_cases h2 : 100 < s.first.length
    · have e1 : decide (100 < s.first.length) = true := decide_eq_true h2
      have e2 : decide ((100 : Int) < (s.first.length : Int)) = true := decide_eq_true (by omega)
      have HR2 : Hid (r = true) := by show _ = _; rw [HR.out, e1]; simp
      clear HR h1 h2
      go_enter Try.func8, Try.ntmps8
      go_wp2
      go_ret
      exact ⟨ret_bool HR2.out.symm, HB.out⟩
    · have e1 : decide (100 < s.first.length) = false := decide_eq_false h2
      have e2 : decide ((100 : Int) < (s.first.length : Int)) = false := decide_eq_false (by omega)
      have HR2 : Hid (r = false) := by show _ = _; rw [HR.out, d1, e1]; rfl
      clear HR h1 h2
      go_enter Try.func8, Try.ntmps8
      go_wp2
      go_ret
      exact ⟨ret_bool HR2.out.symm, HB.out⟩
theorem great_no {s : Sft} (h : grtB s = false) : s.to_.length ≤ 50 ∧ s.first.length ≤ 100 := by
  unfold grtB at h
  rw [Bool.or_eq_false_iff, decide_eq_false_iff_not, decide_eq_false_iff_not] at h
  omega
end Go.Proofs.Ytflpikickbellaa
