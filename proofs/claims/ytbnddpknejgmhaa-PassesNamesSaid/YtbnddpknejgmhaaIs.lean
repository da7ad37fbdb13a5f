/- Layer 31: Is; sub-slices. -/
import Derived.Test.YtbnddpknejgmhaaLong
namespace Go.Proofs.Ytbnddpknejgmhaa
open Go.RowKit
set_option maxRecDepth 100000

theorem fit_of_good {i : Ins} (hw : i.wf) (h : i.good) : i.fit := by
  obtain ⟨w1, w2, w3, w4⟩ := hw
  unfold Ins.good carP needleP at h
  unfold Ins.fit Ins.fit.carP' needleP
  rcases h with ⟨h0, h1, h2, h3, h4, h5, h6⟩ | ⟨h0, h1, h2, h3, h4, h5⟩ | ⟨h0, h1, h2, h3, h4, h5⟩ | ⟨h0, h1, h2, h3, h4, h5, h6⟩ | ⟨h0, h1, h2, h3, h4, h5, h6⟩ | ⟨h0, h1, h2, h3, h4, h5, h6⟩
  all_goals (repeat' apply And.intro)
  all_goals omega
theorem look_zero {rack : Int} {l : List Ins} (h : lookE rack l = 0) : (-8 ≤ rack ∧ rack ≤ 8) ∧ l.length ≤ 2000 ∧ ∀ i ∈ l, i.good := by
  unfold lookE at h
  by_cases h1 : rack < -8 ∨ 8 < rack
  · rw [if_pos h1] at h; cases h
  rw [if_neg h1] at h
  by_cases h2 : 2000 < l.length
  · rw [if_pos h2] at h; cases h
  rw [if_neg h2] at h
  cases h3 : lookB l with
  | true => rw [h3] at h; cases h
  | false =>
    refine ⟨by omega, by omega, fun i hi => ?_⟩
    unfold lookB at h3
    rw [List.any_eq_false] at h3
    have := h3 i hi
    by_cases hg : i.good
    · exact hg
    · exact absurd (by unfold Ins.err; rw [if_neg hg]; decide) this
theorem look_fit {rack : Int} {l : List Ins} (hw : ∀ i ∈ l, i.wf) (h : lookE rack l = 0) : ∀ i ∈ l, i.fit := fun i hi => fit_of_good (hw i hi) ((look_zero h).2.2 i hi)

def isB (rack : Int) (l : List Ins) : Bool := decide (lookE rack l = 0) && (decide (0 < l.length) && decide (lonF rack l = l.length))

set_option maxHeartbeats 1000000 in
theorem is_any (rack : Int) (A : Option Addr) (c : Nat) (l : List Ins) (hw : ∀ i ∈ l, i.wf) (hn : l.length ≤ 4611686018427387904) (w : World) (hs : SlX w w.heap.size A l) :
    Calls Try.prog 10 #[.int .i64 rack, .slice A l.length c] w fun e w' => e = .returned (.tuple #[.bool (isB rack l), .int .i64 (lookE rack l)]) ∧ Below w.heap.size w w' := by
  have HK := Lib.hid (look_any rack A c l w hs hn)
  by_cases he : lookE rack l = 0
  case neg =>
    have HI : Hid (isB rack l = false) := by unfold Hid isB; rw [decide_eq_false he, Bool.false_and]
    have hb : (lookE rack l == 0) = false := beq_eq_false_iff_ne.2 he
    generalize lookE rack l = x at HK hb ⊢
    clear he hs hw
    go_enter Try.func10, Try.ntmps10
    go_wp2_with (go_at_call 26; refine HK.out.mono ?_; rintro e w1 ⟨rfl, hb1⟩)
    go_ret2
    exact ⟨by rw [HI.out]; rfl, hb1⟩
  case pos =>
    have hz := look_zero he
    have HLn := Lib.hid (fun w1 (hb1 : Below w.heap.size w w1) => longest_any rack hz.1 A c l (look_fit hw he) hz.2.1 w1 ((hs.below hb1).more hb1.size))
    have HI : Hid (isB rack l = (decide (0 < l.length) && decide (lonF rack l = l.length))) := by unfold Hid isB; rw [decide_eq_true he, Bool.true_and]
    rw [he] at HK ⊢
    clear he hz hs hw
    cases h0 : decide (0 < l.length) with
    | false =>
      rw [h0] at HI
      have h0' : l.length = 0 := by have := of_decide_eq_false h0; omega
      rw [h0'] at HK HLn ⊢
      clear h0 h0'
      go_enter Try.func10, Try.ntmps10
      go_wp2_with (go_at_call 26; refine HK.out.mono ?_; rintro e w1 ⟨rfl, hb1⟩)
      go_ret2
      exact ⟨by rw [HI.out]; rfl, hb1⟩
    | true =>
      have hpos := of_decide_eq_true h0
      rw [h0, Bool.true_and] at HI
      generalize lonF rack l = y at HI HLn
      generalize l.length = n at *
      by_cases hy : y = n
      · subst hy
        have HI2 : Hid (isB rack l = true) := by unfold Hid; rw [HI.out]; simp
        clear HI h0
        go_enter Try.func10, Try.ntmps10
        go_wp2_with (first
          | (go_at_call 26; refine HK.out.mono ?_; rintro e w1 ⟨rfl, hb1⟩)
          | (go_at_call 27; refine (HLn.out w1 hb1).mono ?_; rintro e w2 ⟨rfl, hb2⟩))
        go_ret2
        exact ⟨by rw [HI2.out]; rfl, hb1.trans (hb2.mono hb1.size)⟩
      · have HI2 : Hid (isB rack l = false) := by unfold Hid; rw [HI.out]; simp [hy]
        have hyb : ((y : Int) == (n : Int)) = false := beq_eq_false_iff_ne.2 (by omega)
        clear HI h0 hy
        go_enter Try.func10, Try.ntmps10
        go_wp2_with (first
          | (go_at_call 26; refine HK.out.mono ?_; rintro e w1 ⟨rfl, hb1⟩)
          | (go_at_call 27; refine (HLn.out w1 hb1).mono ?_; rintro e w2 ⟨rfl, hb2⟩))
        go_ret2
        exact ⟨by rw [HI2.out]; rfl, hb1.trans (hb2.mono hb1.size)⟩

/-! ### sub-slices -/
theorem x_size : (Try.prog.info? 50).map (·.size) = some 7 := by kernel_rfl
theorem addr_add0 (a : Addr) : a.add 0 = a := by simp [Addr.add]
theorem map_add0 (A : Option Addr) : A.map (fun a => a.add 0) = A := by cases A <;> simp [addr_add0]
theorem run_take (A : Option Addr) (len c n : Nat) (hn : n ≤ c) (w : World) :
    (Instr.slice 22 (.slice A len c) none (some (.int .i64 (n : Int))) none).run Try.prog w = .ok (.slice A n c) w := by
  obtain ⟨i0, hi, hz⟩ := Option.map_eq_some_iff.1 x_size
  simp [Instr.slice, Instr.sliceBounds, Instr.sliceBound, run_underlying Try.underlying22, sizeOf, typeInfo, hi, Result.andThen, asIntOf, hn, map_add0]
theorem run_drop (A : Option Addr) (len c n : Nat) (hn : n ≤ len) (w : World) :
    (Instr.slice 22 (.slice A len c) (some (.int .i64 (n : Int))) none none).run Try.prog w = .ok (.slice (if c = n then A else A.map (·.add (n * 7))) (len - n) (c - n)) w := by
  obtain ⟨i0, hi, hz⟩ := Option.map_eq_some_iff.1 x_size
  simp [Instr.slice, Instr.sliceBounds, Instr.sliceBound, run_underlying Try.underlying22, sizeOf, typeInfo, hi, hz, Result.andThen, asIntOf, hn]
theorem run_mid (A : Option Addr) (len c n m : Nat) (hnm : n ≤ m) (hm : m ≤ c) (w : World) :
    (Instr.slice 22 (.slice A len c) (some (.int .i64 (n : Int))) (some (.int .i64 (m : Int))) none).run Try.prog w = .ok (.slice (if c = n then A else A.map (·.add (n * 7))) (m - n) (c - n)) w := by
  obtain ⟨i0, hi, hz⟩ := Option.map_eq_some_iff.1 x_size
  simp [Instr.slice, Instr.sliceBounds, Instr.sliceBound, run_underlying Try.underlying22, sizeOf, typeInfo, hi, hz, Result.andThen, asIntOf, hnm, hm]
theorem SlX.tail {w : World} {B : Nat} {A : Option Addr} {l : List Ins} (h : SlX w B A l) {n c : Nat} (hc : l.length ≤ c) : SlX w B (if c = n then A else A.map (·.add (n * 7))) (l.drop n) := by
  by_cases e : c = n
  · rw [if_pos e, List.drop_of_length_le (by omega)]; exact SlX.nil
  · rw [if_neg e]
    cases hl : l with
    | nil => rw [List.drop_nil]; exact SlX.nil
    | cons a t =>
      obtain ⟨b, off, rfl, hB⟩ := h.addr (by rw [hl]; simp)
      rw [← hl]
      have e2 : (⟨b, off, none⟩ : Addr).add (n * 7) = ⟨b, off + n * 7, none⟩ := by unfold Addr.add; split <;> simp_all
      simp only [Option.map_some, e2]
      exact h.drop n
end Go.Proofs.Ytbnddpknejgmhaa
