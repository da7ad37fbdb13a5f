/- Layer 31: plain charts. -/
import Derived.Test.YtbnddpknejgmhaaCh2
namespace Go.Proofs.Ytbnddpknejgmhaa
open Go.RowKit Go.Shelf
set_option maxRecDepth 100000

def oddS (s : Stc) : Bool := decide (s.kind ≠ 1 ∧ s.kind ≠ 8)
def plainB (start : Int) (p : List RowC) : Bool := if p.any (fun r => r.2.any oddS) then false else decide (start ≤ 101)
set_option maxHeartbeats 1000000 in
theorem plain1_any (s : Stc) (w : World) : Calls Try.prog 52 #[s.val] w fun e w' => e = .returned (.bool (oddS s)) ∧ Below w.heap.size w w' := by
  have hb := Lib.hid (fun o => (Below.refl w.heap.size w).alloc (Nat.le_refl _) o)
  by_cases h1 : s.kind = 1
  · have HO : Hid (oddS s = false) := decide_eq_false (by omega)
    have e1 : (s.kind != 1) = false := by simp [h1]
    have e2 : (s.kind == 1) = true := by simp [h1]
    clear h1
    go_enter Try.func52, Try.ntmps52
    go_wp2
    go_ret
    exact ⟨ret_bool (by first | exact HO.out.symm | (rw [HO.out]; simp [*])), hb.out _⟩
  · have e1 : (s.kind != 1) = true := by simp [h1]
    have e2 : (s.kind == 1) = false := by simp [h1]
    by_cases h2 : s.kind = 8
    · have HO : Hid (oddS s = false) := decide_eq_false (by omega)
      have e3 : (s.kind != 8) = false := by simp [h2]
      have e4 : (s.kind == 8) = true := by simp [h2]
      clear h1 h2
      go_enter Try.func52, Try.ntmps52
      go_wp2
      go_ret
      exact ⟨ret_bool (by first | exact HO.out.symm | (rw [HO.out]; simp [*])), hb.out _⟩
    · have HO : Hid (oddS s = true) := decide_eq_true ⟨h1, h2⟩
      have e3 : (s.kind != 8) = true := by simp [h2]
      have e4 : (s.kind == 8) = false := by simp [h2]
      clear h1 h2
      go_enter Try.func52, Try.ntmps52
      go_wp2
      go_ret
      exact ⟨ret_bool (by first | exact HO.out.symm | (rw [HO.out]; simp [*])), hb.out _⟩

set_option maxHeartbeats 1000000 in
theorem plain_any (start : Int) (A : Option Addr) (c : Nat) (p : List RowC) (hn : p.length ≤ 4611686018427387904) (hrl : ∀ r ∈ p, r.2.length ≤ 4611686018427387904) (w : World) (hs : SlC w w.heap.size A p) :
    Calls Try.prog 34 #[.agg #[.int .i64 start, .slice A p.length c]] w fun e w' => e = .returned (.bool (plainB start p)) ∧ Below w.heap.size w w' := by
  go_enter Try.func34, Try.ntmps34
  go_wp2
  have hc0 := cell_new (w1 := w.alloc (.cells #[.int .i64 start, .slice A p.length c] 40)) (b := w.heap.size) (o := 0) rfl rfl rfl
  have HC := Lib.hid hc0
  clear hc0
  go_loopw [8] (fun i wr => ∃ k : Nat, k ≤ p.length ∧ i = .int .i64 k ∧ Hid (∀ r ∈ p.take k, r.2.any oddS = false) ∧ Below w.heap.size w wr ∧ wr.cell? ⟨w.heap.size, 0, none⟩ = some (.int .i64 start)) (fun i _ => p.length - (intOf i).toNat)
  case atStart => exact ⟨0, Nat.zero_le _, rfl, (fun r hr => by simp at hr), (Below.refl _ _).alloc (Nat.le_refl _) _, HC.out⟩
  case round =>
    obtain ⟨k, hk, rfl, H, hbw, hcs⟩ := hrel
    by_cases hlt : k < p.length
    · obtain ⟨b, off, r, A', C', rfl, hB, hr, hcr0, hcr1, hC, hsi⟩ := hs.at_ hlt
      have hc0 := (bcell hbw hB _).trans hcr0
      have hc1 := (bcell hbw hB _).trans hcr1
      have hz := hbw.size
      have hcl := Lib.hid (fun w1 hb => contT_any 52 #[] (enters_of Try.func52 (by kernel_rfl) rfl) oddS A' C' r.2 w1 ((hsi.below hb).more (Below.size hb)) (hrl r (List.mem_of_getElem? hr)) (fun x _ w' _ => plain1_any x w'))
      have HR : Hid (p[k]? = some r) := hr
      have HKc := Lib.hid (fun (w2 : World) (hb : Below (w.heap.size + 1) wr w2) => (bcell hb (by omega) 0).trans hcs)
      have hsz : w.heap.size < wr.heap.size := lt_of_cell hcs
      clear hs hrl hr hsi hcr0 hcr1
      cases hq : r.2.any oddS with
      | true =>
        rw [hq] at hcl
        have HF : Hid (plainB start p = false) := by
          unfold Hid plainB
          rw [if_pos (List.any_eq_true.2 ⟨r, List.mem_of_getElem? HR.out, hq⟩)]
        clear hq H
        go_wp2_with (go_at_call 51; refine (hcl.out _ (hbw.alloc hz _)).mono ?_; rintro e w' ⟨rfl, hb1⟩)
        go_ret
        exact ⟨ret_bool HF.out.symm, (hbw.alloc hz _).trans (hb1.mono (by simp; omega))⟩
      | false =>
        rw [hq] at hcl
        have HQ : Hid (∀ x ∈ p.take (k + 1), x.2.any oddS = false) := fun x hx => by
          obtain ⟨hk', e⟩ := List.getElem?_eq_some_iff.1 HR.out
          rw [List.take_succ_eq_append_getElem hk', e] at hx
          rcases List.mem_append.1 hx with h | h
          · exact H.out x h
          · rw [List.mem_singleton.1 h]; exact hq
        clear hq H
        go_wp2_with (go_at_call 51; refine (hcl.out _ (hbw.alloc hz _)).mono ?_; rintro e w' ⟨rfl, hb1⟩)
        go_roundw
        case rel => exact ⟨k + 1, by omega, by go_num, HQ, (hbw.alloc hz _).trans (hb1.mono (by simp; omega)), HKc.out _ (((Below.refl _ wr).alloc (by omega) _).trans (hb1.mono (by simp; omega)))⟩
        case measure => simp [intOf]; omega
    · obtain rfl : k = p.length := by omega
      have HF : Hid (plainB start p = decide (start ≤ 101)) := by
        unfold Hid plainB
        rw [if_neg]
        rw [Bool.not_eq_true, List.any_eq_false]
        intro r hr
        have := H.out r (by rw [List.take_length]; exact hr)
        rw [this]; simp
      clear hs hrl H
      go_wp2
      go_ret
      exact ⟨ret_bool HF.out.symm, hbw⟩
end Go.Proofs.Ytbnddpknejgmhaa
