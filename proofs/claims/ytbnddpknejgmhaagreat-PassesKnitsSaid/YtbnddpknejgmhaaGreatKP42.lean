/- The reference's layer 25: sums, All, Uses, Makes, Great. The reference's layer 26: Great, Check. -/
import Derived.Test.YtbnddpknejgmhaaGreatKP31
import Derived.Test.YtbnddpknejgmhaaGreatKP17
namespace Go.Proofs.YtbnddpknejgmhaaGreat
open Go.RowKit
set_option maxRecDepth 100000

set_option maxHeartbeats 2000000 in
theorem rsums_any (A : Option Addr) (c : Nat) (l : List Stc) (hok : ∀ s ∈ l, s.ok = true) (hn : l.length ≤ 1000000) (w : World) (hs : SlT w w.heap.size A l) :
    Calls Tryz.prog 45 #[.slice A l.length c] w fun e w' => e = .returned (.tuple #[.int .i64 (sumU l), .int .i64 (sumM l)]) ∧ Below w.heap.size w w' := by
  go_enter Tryz.func45, Tryz.ntmps45
  go_wp2
  go_loopw [4, 5, 6] (fun s4 s5 s6 wr => ∃ (k : Nat) (u m : Int), k ≤ l.length ∧ s6 = .int .i64 k ∧ s4 = .int .i64 u ∧ s5 = .int .i64 m ∧ Hid (u = ((l.take k).map usesS).sum) ∧ Hid (m = ((l.take k).map makesS).sum) ∧ Below w.heap.size w wr) (fun _ _ s6 _ => l.length - (intOf s6).toNat)
  case atStart => exact ⟨0, 0, 0, Nat.zero_le _, rfl, rfl, rfl, rfl, rfl, Below.refl _ _⟩
  case round =>
    obtain ⟨k, u, m, hk, rfl, rfl, rfl, HU, HM, hbw⟩ := hrel
    by_cases hlt : k < l.length
    · obtain ⟨b, off, s, rfl, hB, hz, hc⟩ := hs.at_ hlt
      have hmem := List.mem_of_getElem? hz
      have hsok := hok s hmem
      obtain ⟨c0, c1, c2, c3⟩ := hc.below hbw hB
      have HU2 : Hid (u + usesS s = ((l.take (k + 1)).map usesS).sum) := by unfold Hid; rw [sum_take hz, ← HU.out]
      have HM2 : Hid (m + makesS s = ((l.take (k + 1)).map makesS).sum) := by unfold Hid; rw [sum_take hz, ← HM.out]
      have hru := sum_rng (f := usesS) (l := l.take k) fun x hx => loopsI_rng (hok x (List.mem_of_mem_take hx)) _
      have hrm := sum_rng (f := makesS) (l := l.take k) fun x hx => loopsI_rng (hok x (List.mem_of_mem_take hx)) _
      rw [← HU.out, List.length_take] at hru
      rw [← HM.out, List.length_take] at hrm
      have hsu : 0 ≤ usesS s ∧ usesS s ≤ 206 := loopsI_rng hsok _
      have hsm : 0 ≤ makesS s ∧ makesS s ≤ 206 := loopsI_rng hsok _
      have hwu : IntKind.i64.wrap (u + usesS s) = u + usesS s := IntWalk.i64_in _ (by omega)
      have hwm : IntKind.i64.wrap (m + makesS s) = m + makesS s := IntWalk.i64_in _ (by omega)
      have HLu := Lib.hid (fun w => rused_any s hsok w)
      have HLm := Lib.hid (fun w => rgives_any s hsok w)
      have HCs := Lib.hid (fun (w2 : World) (hb : Below wr.heap.size wr w2) => (hc.below hbw hB).below hb (Nat.lt_of_lt_of_le hB hbw.size))
      generalize usesS s = us at HU2 hwu HLu hsu
      generalize makesS s = ms at HM2 hwm HLm hsm
      clear hs hc hok HU HM hru hrm hsu hsm hz hmem hsok
      go_wp2_with (first
        | (go_at_call 36; refine (HLu.out _).mono ?_; rintro e w2 ⟨rfl, hb2⟩
           obtain ⟨t0, t1, t2, t3⟩ := HCs.out _ hb2)
        | (go_at_call 75; refine (HLm.out _).mono ?_; rintro e w3 ⟨rfl, hb3⟩))
      go_roundw
      case rel => exact ⟨k + 1, _, _, by omega, by go_num, rfl, rfl, HU2, HM2, hbw.trans ((hb2.trans (hb3.mono hb2.size)).mono hbw.size)⟩
      case measure => simp [intOf]; omega
    · obtain rfl : k = l.length := by omega
      have HU2 : Hid (u = sumU l) := by have := HU.out; rwa [List.take_length] at this
      have HM2 : Hid (m = sumM l) := by have := HM.out; rwa [List.take_length] at this
      clear hs hok HU HM
      go_wp2
      go_ret2
      exact ⟨by rw [← HU2.out, ← HM2.out]; rfl, hbw⟩

theorem any_err {l : List Stc} (h : ∀ s ∈ l.take l.length, s.err = 0) : l.any (fun s => decide (s.err ≠ 0)) = false := by
  rw [List.take_length] at h
  rw [List.any_eq_false]
  intro s hs
  simp [h s hs]
set_option maxHeartbeats 2000000 in
theorem rall_any (A : Option Addr) (c : Nat) (l : List Stc) (w : World) (hs : SlT w w.heap.size A l) :
    Calls Tryz.prog 44 #[.slice A l.length c] w fun e w' => RetE (allE l) w e w' := by
  by_cases h1 : 200 < l.length
  · have HE : Hid (allE l = 4) := by unfold Hid allE; rw [if_pos h1]
    clear hs
    go_enter Tryz.func44, Tryz.ntmps44
    go_wp2
    go_ret
    exact RetE.mk' HE.out (Below.refl _ _)
  have hsz : l.length ≤ 200 := by omega
  go_enter Tryz.func44, Tryz.ntmps44
  go_wp2
  go_loopw [3] (fun s3 wr => ∃ k : Nat, k ≤ l.length ∧ s3 = .int .i64 k ∧ Hid (∀ s ∈ l.take k, s.err = 0) ∧ Below w.heap.size w wr) (fun s3 _ => l.length - (intOf s3).toNat)
  case atStart => exact ⟨0, Nat.zero_le _, rfl, (fun r hr => by simp at hr), Below.refl _ _⟩
  case round =>
    obtain ⟨k, hk, rfl, H, hbw⟩ := hrel
    by_cases hlt : k < l.length
    · obtain ⟨b, off, s, rfl, hB, hz, hc⟩ := hs.at_ hlt
      obtain ⟨c0, c1, c2, c3⟩ := hc.below hbw hB
      have HC := Lib.hid (fun w => rscheck_any s w)
      have HZ := Lib.hid hz
      have hbz := hbw.size
      clear hs hc hz
      by_cases he : s.err = 0
      · have HQ : Hid (∀ x ∈ l.take (k + 1), x.err = 0) := fun x hx => by
          obtain ⟨hk', e⟩ := List.getElem?_eq_some_iff.1 HZ.out
          rw [List.take_succ_eq_append_getElem hk', e] at hx
          rcases List.mem_append.1 hx with h | h
          · exact H.out x h
          · rw [List.mem_singleton.1 h]; exact he
        rw [he] at HC
        clear he H
        go_wp2_with (go_at_call 74; refine (HC.out _).mono ?_; rintro e w1 ⟨rfl, hb1⟩)
        go_roundw
        case rel => exact ⟨k + 1, by omega, by go_num, HQ, hbw.trans (hb1.mono hbz)⟩
        case measure => simp [intOf]; omega
      · have HE : Hid (allE l = 8) := by
          unfold Hid allE
          rw [if_neg h1, if_pos]
          exact List.any_eq_true.2 ⟨s, List.mem_of_getElem? HZ.out, by simp [he]⟩
        have hbn : (s.err != 0) = true := by simp [he]
        have hbn2 : (s.err == 0) = false := by simp [he]
        clear he H
        go_wp2_with (go_at_call 74; refine (HC.out _).mono ?_; rintro e w1 ⟨rfl, hb1⟩)
        go_ret
        exact RetE.mk' HE.out (hbw.trans (hb1.mono hbz))
    · obtain rfl : k = l.length := by omega
      have hb := any_err H.out
      have HE : Hid (allE l = if 200 < sumU l ∨ 200 < sumM l then 4 else 0) := by unfold Hid allE; rw [if_neg h1, hb, if_neg (by simp)]
      have hok : ∀ s ∈ l, s.ok = true := fun s hs => by
        rw [List.any_eq_false] at hb
        exact err_ok (by simpa using hb s hs)
      have HSm := Lib.hid (rsums_any A c l hok (by omega) wr ((hs.below hbw).more hbw.size))
      have hbz := hbw.size
      clear hs H hb hok
      generalize sumU l = u at HE HSm
      generalize sumM l = m at HE HSm
      by_cases h2 : 200 < u
      · have HE2 : Hid (allE l = 4) := by unfold Hid; rw [HE.out, if_pos (Or.inl h2)]
        clear HE
        go_wp2_with (go_at_call 45; refine HSm.out.mono ?_; rintro e w1 ⟨rfl, hb1⟩)
        go_ret
        exact RetE.mk' HE2.out (hbw.trans (hb1.mono hbz))
      · by_cases h3 : 200 < m
        · have HE2 : Hid (allE l = 4) := by unfold Hid; rw [HE.out, if_pos (Or.inr h3)]
          clear HE
          go_wp2_with (go_at_call 45; refine HSm.out.mono ?_; rintro e w1 ⟨rfl, hb1⟩)
          go_ret
          exact RetE.mk' HE2.out (hbw.trans (hb1.mono hbz))
        · have HE2 : Hid (allE l = 0) := by unfold Hid; rw [HE.out, if_neg (by omega)]
          clear HE
          go_wp2_with (go_at_call 45; refine HSm.out.mono ?_; rintro e w1 ⟨rfl, hb1⟩)
          go_ret
          exact RetE.mk' HE2.out (hbw.trans (hb1.mono hbz))
set_option maxHeartbeats 1000000 in
theorem ruses_any (A : Option Addr) (c : Nat) (l : List Stc) (w : World) (hs : SlT w w.heap.size A l) :
    Calls Tryz.prog 21 #[.slice A l.length c] w fun e w' => e = .returned (.tuple #[.int .i64 (usesE l), .int .i64 (allE l)]) ∧ Below w.heap.size w w' := by
  have HA := Lib.hid (rall_any A c l w hs)
  by_cases he : allE l = 0
  · have hz := all_zero he
    have HU : Hid (usesE l = sumU l) := by unfold Hid usesE; rw [if_pos he]
    have HSm := Lib.hid (fun w' (hb : Below w.heap.size w w') => rsums_any A c l hz.2.1 (by omega) w' ((hs.below hb).more hb.size))
    rw [he] at HA ⊢
    clear hs hz he
    go_enter Tryz.func21, Tryz.ntmps21
    go_wp2_with (first
      | (go_at_call 44; refine HA.out.mono ?_; rintro e w' ⟨rfl, hb1⟩)
      | (go_at_call 45; refine (HSm.out _ hb1).mono ?_; rintro e w2 ⟨rfl, hb2⟩))
    go_ret2
    exact ⟨by rw [HU.out]; rfl, hb1.trans (hb2.mono hb1.size)⟩
  · have HU : Hid (usesE l = 0) := by unfold Hid usesE; rw [if_neg he]
    have hb : (allE l == 0) = false := beq_eq_false_iff_ne.2 he
    have hbn : (allE l != 0) = true := by simp [he]
    have HA2 := Lib.hid (fun w' (hb : Below w.heap.size w w') => rall_any A c l w' ((hs.below hb).more hb.size))
    generalize allE l = x at HA HA2 hb hbn ⊢
    clear hs he
    go_enter Tryz.func21, Tryz.ntmps21
    go_wp2_with (first
      | (go_at_call 44; refine HA.out.mono ?_; rintro e w' ⟨rfl, hb1⟩)
      | (go_at_call 44; refine (HA2.out _ hb1).mono ?_; rintro e w2 ⟨rfl, hb2⟩))
    go_ret2
    exact ⟨by rw [HU.out]; rfl, hb1.trans (hb2.mono hb1.size)⟩
set_option maxHeartbeats 1000000 in
theorem rmakes_any (A : Option Addr) (c : Nat) (l : List Stc) (w : World) (hs : SlT w w.heap.size A l) :
    Calls Tryz.prog 22 #[.slice A l.length c] w fun e w' => e = .returned (.tuple #[.int .i64 (makesE l), .int .i64 (allE l)]) ∧ Below w.heap.size w w' := by
  have HA := Lib.hid (rall_any A c l w hs)
  by_cases he : allE l = 0
  · have hz := all_zero he
    have HU : Hid (makesE l = sumM l) := by unfold Hid makesE; rw [if_pos he]
    have HSm := Lib.hid (fun w' (hb : Below w.heap.size w w') => rsums_any A c l hz.2.1 (by omega) w' ((hs.below hb).more hb.size))
    rw [he] at HA ⊢
    clear hs hz he
    go_enter Tryz.func22, Tryz.ntmps22
    go_wp2_with (first
      | (go_at_call 44; refine HA.out.mono ?_; rintro e w' ⟨rfl, hb1⟩)
      | (go_at_call 45; refine (HSm.out _ hb1).mono ?_; rintro e w2 ⟨rfl, hb2⟩))
    go_ret2
    exact ⟨by rw [HU.out]; rfl, hb1.trans (hb2.mono hb1.size)⟩
  · have HU : Hid (makesE l = 0) := by unfold Hid makesE; rw [if_neg he]
    have hb : (allE l == 0) = false := beq_eq_false_iff_ne.2 he
    have hbn : (allE l != 0) = true := by simp [he]
    have HA2 := Lib.hid (fun w' (hb : Below w.heap.size w w') => rall_any A c l w' ((hs.below hb).more hb.size))
    generalize allE l = x at HA HA2 hb hbn ⊢
    clear hs he
    go_enter Tryz.func22, Tryz.ntmps22
    go_wp2_with (first
      | (go_at_call 44; refine HA.out.mono ?_; rintro e w' ⟨rfl, hb1⟩)
      | (go_at_call 44; refine (HA2.out _ hb1).mono ?_; rintro e w2 ⟨rfl, hb2⟩))
    go_ret2
    exact ⟨by rw [HU.out]; rfl, hb1.trans (hb2.mono hb1.size)⟩
end Go.Proofs.YtbnddpknejgmhaaGreat
namespace Go.Proofs.YtbnddpknejgmhaaGreat
open Go.RowKit Go.Shelf
set_option maxRecDepth 100000

def greatS (n : Nat) : Bool := decide (60 < n ∧ n ≤ 200) || decide (300 < n)
def greatC (p : List RowC) : Bool := (p.take 150).any (fun r => greatS r.2.length) || decide (12 < p.length ∧ p.length ≤ 100) || decide (150 < p.length)
set_option maxHeartbeats 1000000 in
theorem rgreatS_any (A : Option Addr) (n c : Nat) (w : World) : Calls Tryz.prog 20 #[.slice A n c] w fun e w' => e = .returned (.bool (greatS n)) ∧ Below w.heap.size w w' := by
  have hbl := Lib.hid (Below.refl w.heap.size w)
  by_cases h1 : 300 < n
  · have HE : Hid (greatS n = true) := by unfold Hid greatS; simp [h1]
    clear hbl
    go_enter Tryz.func20, Tryz.ntmps20
    go_wp2
    all_goals go_ret
    all_goals exact ⟨ret_bool (by rw [HE.out]; try simp [*]; try omega), Below.refl _ _⟩
  · by_cases h2 : 60 < n ∧ n ≤ 200
    · have HE : Hid (greatS n = true) := by unfold Hid greatS; simp [h2]
      obtain ⟨h3, h4⟩ := h2
      go_enter Tryz.func20, Tryz.ntmps20
      go_wp2
      all_goals go_ret
      all_goals exact ⟨ret_bool (by rw [HE.out]; try simp [*]; try omega), Below.refl _ _⟩
    · have HE : Hid (greatS n = false) := by unfold Hid greatS; simp [h2]; omega
      go_enter Tryz.func20, Tryz.ntmps20
      go_wp2
      all_goals go_ret
      all_goals exact ⟨ret_bool (by rw [HE.out]; try simp [*]; try omega), Below.refl _ _⟩
theorem takeR_any {f : RowC → Bool} {p : List RowC} {k : Nat} {r : RowC} (hr : p[k]? = some r) (h : ∀ x ∈ p.take k, f x = false) (hf : f r = false) : ∀ x ∈ p.take (k + 1), f x = false := fun x hx => by
  obtain ⟨hk', e⟩ := List.getElem?_eq_some_iff.1 hr
  rw [List.take_succ_eq_append_getElem hk', e] at hx
  rcases List.mem_append.1 hx with h' | h'
  · exact h x h'
  · rw [List.mem_singleton.1 h']; exact hf
set_option maxHeartbeats 2000000 in
theorem rgreat_any (start : Int) (A : Option Addr) (c : Nat) (p : List RowC) (w : World) (hs : SlC w w.heap.size A p) :
    Calls Tryz.prog 5 #[.agg #[.int .i64 start, .slice A p.length c]] w fun e w' => e = .returned (.bool (greatC p)) ∧ Below w.heap.size w w' := by
  go_enter Tryz.func5, Tryz.ntmps5
  go_wp2
  have hc1 := cell_new (w1 := w.alloc (.cells #[.int .i64 start, .slice A p.length c] 24)) (b := w.heap.size) (o := 1) rfl rfl rfl
  have HC := Lib.hid hc1
  clear hc1
  go_loopw [3] (fun i wr => ∃ k : Nat, k ≤ p.length ∧ k ≤ 150 ∧ i = .int .i64 k ∧ Hid (∀ r ∈ p.take k, greatS r.2.length = false) ∧ Below w.heap.size w wr ∧ wr.cell? ⟨w.heap.size, 1, none⟩ = some (.slice A p.length c)) (fun i _ => p.length - (intOf i).toNat)
  case atStart => exact ⟨0, Nat.zero_le _, by omega, rfl, (fun r hr => by simp at hr), (Below.refl _ _).alloc (Nat.le_refl _) _, HC.out⟩
  case round =>
    obtain ⟨k, hk, hk2, rfl, H, hbw, hcs⟩ := hrel
    by_cases hlt : k < p.length ∧ k < 150
    · obtain ⟨hl1, hl2⟩ := hlt
      obtain ⟨b, off, r, A', C', rfl, hB, hr, hcr0, hcr1, hC, hsi⟩ := hs.at_ hl1
      have hc1 := (bcell hbw hB _).trans hcr1
      have hz := hbw.size
      have hcl := Lib.hid (fun w1 => rgreatS_any A' r.2.length C' w1)
      have HR : Hid (p[k]? = some r) := hr
      have HKc := Lib.hid (fun (w2 : World) (hb : Below wr.heap.size wr w2) => (bcell hb (lt_of_cell hcs) 1).trans hcs)
      clear hs hr hsi hcr0 hcr1
      cases hq : greatS r.2.length with
      | true =>
        rw [hq] at hcl
        have HF : Hid (greatC p = true) := by
          have hm : (p.take 150).any (fun r => greatS r.2.length) = true := by
            refine List.any_eq_true.2 ⟨r, ?_, hq⟩
            have : (p.take 150)[k]? = some r := by rw [List.getElem?_take, if_pos hl2]; exact HR.out
            exact List.mem_of_getElem? this
          unfold Hid greatC
          rw [hm]; rfl
        clear hq H
        go_wp2_with (go_at_call 20; refine (hcl.out _).mono ?_; rintro e w' ⟨rfl, hb1⟩)
        go_ret
        exact ⟨ret_bool HF.out.symm, hbw.trans (hb1.mono hz)⟩
      | false =>
        rw [hq] at hcl
        have HQ : Hid (∀ x ∈ p.take (k + 1), greatS x.2.length = false) := takeR_any (f := fun x => greatS x.2.length) HR.out H.out hq
        clear hq H
        go_wp2_with (go_at_call 20; refine (hcl.out _).mono ?_; rintro e w' ⟨rfl, hb1⟩)
        go_roundw
        case rel => exact ⟨k + 1, by omega, by omega, by go_num, HQ, hbw.trans (hb1.mono hz), HKc.out _ hb1⟩
        case measure => simp [intOf]; omega
    · have hke : p.take k = p.take 150 := by
        by_cases h1 : k < p.length
        · rw [show k = 150 by omega]
        · rw [List.take_of_length_le (by omega), List.take_of_length_le (by omega)]
      have hm : (p.take 150).any (fun r => greatS r.2.length) = false := by
        rw [List.any_eq_false]
        intro x hx
        rw [← hke] at hx
        simp [H.out x hx]
      have HF : Hid (greatC p = (decide (12 < p.length ∧ p.length ≤ 100) || decide (150 < p.length))) := by
        unfold Hid greatC
        rw [hm]; rfl
      clear hs H hke hm
      have fin : ∀ (q1 q2 q3 : Bool), decide (12 < (p.length : Int)) = q1 → decide ((p.length : Int) ≤ 100) = q2 → decide (150 < (p.length : Int)) = q3 → Hid (greatC p = ((q1 && q2) || q3)) := fun q1 q2 q3 h1 h2 h3 => by
        unfold Hid; rw [HF.out, ← h1, ← h2, ← h3, Bool.eq_iff_iff]; simp; omega
      by_cases hk1 : k < p.length
      · have hk3 : k = 150 := by omega
        have h12 : decide (12 < (p.length : Int)) = true := decide_eq_true (by omega)
        have h100 : decide ((p.length : Int) ≤ 100) = false := decide_eq_false (by omega)
        have h150 : decide (150 < (p.length : Int)) = true := decide_eq_true (by omega)
        have HF2 : Hid (greatC p = true) := fin _ _ _ h12 h100 h150
        have hkk : decide ((k : Int) < 150) = false := decide_eq_false (by omega)
        clear hlt HF fin hk3 hk2
        go_wp2
        go_ret
        exact ⟨ret_bool HF2.out.symm, hbw⟩
      · have hkk : decide ((k : Int) < (p.length : Int)) = false := decide_eq_false (by omega)
        by_cases h4 : 12 < p.length
        · have h12 : decide (12 < (p.length : Int)) = true := decide_eq_true (by omega)
          by_cases h5 : p.length ≤ 100
          · have h100 : decide ((p.length : Int) ≤ 100) = true := decide_eq_true (by omega)
            have HF2 : Hid (greatC p = true) := fin _ _ _ h12 h100 rfl
            clear hlt HF fin hk2
            go_wp2
            go_ret
            exact ⟨ret_bool HF2.out.symm, hbw⟩
          · have h100 : decide ((p.length : Int) ≤ 100) = false := decide_eq_false (by omega)
            by_cases h6 : 150 < p.length
            · have h150 : decide (150 < (p.length : Int)) = true := decide_eq_true (by omega)
              have HF2 : Hid (greatC p = true) := fin _ _ _ h12 h100 h150
              clear hlt HF fin hk2
              go_wp2
              go_ret
              exact ⟨ret_bool HF2.out.symm, hbw⟩
            · have h150 : decide (150 < (p.length : Int)) = false := decide_eq_false (by omega)
              have HF2 : Hid (greatC p = false) := fin _ _ _ h12 h100 h150
              clear hlt HF fin hk2
              go_wp2
              go_ret
              exact ⟨ret_bool HF2.out.symm, hbw⟩
        · have h12 : decide (12 < (p.length : Int)) = false := decide_eq_false (by omega)
          have h150 : decide (150 < (p.length : Int)) = false := decide_eq_false (by omega)
          have HF2 : Hid (greatC p = false) := fin _ _ _ h12 rfl h150
          clear hlt HF fin hk2
          go_wp2
          go_ret
          exact ⟨ret_bool HF2.out.symm, hbw⟩

def isInt (v : Value) : Prop := ∃ z : Int, v = .int .i64 z
set_option maxHeartbeats 4000000 in
theorem rcheck_any (start : Int) (A : Option Addr) (c : Nat) (p : List RowC) (w : World) (hs : SlC w w.heap.size A p) :
    Calls Tryz.prog 6 #[.agg #[.int .i64 start, .slice A p.length c]] w fun e w' => RetE (chartE start p) w e w' := by
  have hbl := Lib.hid (fun o => (Below.refl w.heap.size w).alloc (Nat.le_refl _) o)
  by_cases h1 : 100 < p.length
  · have HE : Hid (chartE start p = 4) := by unfold Hid chartE; rw [if_pos h1]
    clear hs
    go_enter Tryz.func6, Tryz.ntmps6
    go_wp2
    go_ret
    exact RetE.mk' HE.out (hbl.out _)
  by_cases h2 : start < 0
  · have HE : Hid (chartE start p = 8) := by unfold Hid chartE; rw [if_neg h1, if_pos (Or.inl h2)]
    clear hs
    go_enter Tryz.func6, Tryz.ntmps6
    go_wp2
    go_ret
    exact RetE.mk' HE.out (hbl.out _)
  by_cases h3 : 200 < start
  · have HE : Hid (chartE start p = 8) := by unfold Hid chartE; rw [if_neg h1, if_pos (Or.inr h3)]
    clear hs
    go_enter Tryz.func6, Tryz.ntmps6
    go_wp2
    go_ret
    exact RetE.mk' HE.out (hbl.out _)
  have HE : Hid (chartE start p = errR start p) := by unfold Hid chartE; rw [if_neg h1, if_neg (by omega)]
  have hlen : p.length ≤ 100 := by omega
  go_enter Tryz.func6, Tryz.ntmps6
  go_wp2
  have hc1 := cell_new (w1 := w.alloc (.cells #[.int .i64 start, .slice A p.length c] 24)) (b := w.heap.size) (o := 1) rfl rfl rfl
  have HC := Lib.hid hc1
  clear hc1 h2 h3
  go_loopw [3, 4, 5, 6] (fun s3 s4 s5 s6 wr => ∃ (k : Nat) (n : Int), k ≤ p.length ∧ s3 = .int .i64 n ∧ s4 = .int .i64 k ∧ (k = 0 ∨ isInt s5 ∧ isInt s6) ∧ Hid (errR start p = errR n (p.drop k)) ∧ Below w.heap.size w wr ∧ wr.cell? ⟨w.heap.size, 1, none⟩ = some (.slice A p.length c)) (fun _ s4 _ _ _ => p.length - (intOf s4).toNat)
  case atStart => exact ⟨0, start, Nat.zero_le _, rfl, rfl, Or.inl rfl, (by simp [Hid]), (Below.refl _ _).alloc (Nat.le_refl _) _, HC.out⟩
  case round =>
    obtain ⟨k, n, hk, rfl, rfl, _, H, hbw, hcs⟩ := hrel
    by_cases hlt : k < p.length
    · obtain ⟨b, off, r, A', C', rfl, hB, hr, hcr0, hcr1, hC, hsi⟩ := hs.at_ hlt
      have hc1 := (bcell hbw hB _).trans hcr1
      have hz := hbw.size
      have HU := Lib.hid (ruses_any A' C' r.2 wr ((hsi.below hbw).more hz))
      have HM := Lib.hid (fun w2 (hb : Below wr.heap.size wr w2) => rmakes_any A' C' r.2 w2 (((hsi.below hbw).more hz |>.below hb).more hb.size))
      have HKc := Lib.hid (fun (w2 : World) (hb : Below wr.heap.size wr w2) => (show _ ∧ _ from ⟨(bcell hb (lt_of_cell hcs) 1).trans hcs, (bcell hb (lt_of_cell hc1) _).trans hc1⟩))
      have e0 : p.drop k = r :: p.drop (k + 1) := by
        obtain ⟨hk', e⟩ := List.getElem?_eq_some_iff.1 hr
        rw [List.drop_eq_getElem_cons hk', e]
      have e1 : errR start p = if rowE n r.2 = 0 then errR (rowA n r.2) (p.drop (k + 1)) else rowE n r.2 := by rw [H.out, e0]; rfl
      clear hs hr hsi hcr0 hcr1 H e0
      by_cases ha : allE r.2 = 0
      · by_cases hu : usesE r.2 = n
        · have e2 : rowE n r.2 = 0 := by unfold rowE; rw [if_neg (by simpa using ha), if_neg (by simpa using hu)]
          have H2 : Hid (errR start p = errR (makesE r.2) (p.drop (k + 1))) := by
            unfold Hid; rw [e1, if_pos e2]
            unfold rowA; rw [if_pos e2]
          have hun : (usesE r.2 != n) = false := by simp [hu]
          have hun2 : (usesE r.2 == n) = true := by simp [hu]
          rw [ha] at HU HM
          generalize usesE r.2 = u at HU hun hun2
          generalize makesE r.2 = m at HM H2
          clear e1 e2 ha hu
          go_wp2_with (first
            | (go_at_call 21; refine HU.out.mono ?_; rintro e w1 ⟨rfl, hb1⟩; obtain ⟨t1, t2⟩ := HKc.out _ hb1)
            | (go_at_call 22; refine (HM.out _ hb1).mono ?_; rintro e w2 ⟨rfl, hb2⟩))
          go_roundw
          case rel => exact ⟨k + 1, m, by omega, rfl, by go_num, Or.inr ⟨⟨_, rfl⟩, ⟨_, rfl⟩⟩, H2, hbw.trans ((hb1.trans (hb2.mono hb1.size)).mono hz), (HKc.out _ (hb1.trans (hb2.mono hb1.size))).1⟩
          case measure => simp [intOf]; omega
        · have e2 : rowE n r.2 = 26 := by unfold rowE; rw [if_neg (by simpa using ha), if_pos hu]
          have H2 : Hid (chartE start p = 26) := by
            unfold Hid; rw [HE.out, e1, if_neg (by rw [e2]; decide), e2]
          have hun : (usesE r.2 != n) = true := by simp [hu]
          have hun2 : (usesE r.2 == n) = false := by simp [hu]
          rw [ha] at HU HM
          generalize usesE r.2 = u at HU hun hun2
          clear e1 e2 ha hu
          go_wp2_with (go_at_call 21; refine HU.out.mono ?_; rintro e w1 ⟨rfl, hb1⟩; obtain ⟨t1, t2⟩ := HKc.out _ hb1)
          go_ret
          exact RetE.mk' H2.out (hbw.trans (hb1.mono hz))
      · have e2 : rowE n r.2 = allE r.2 := by unfold rowE; rw [if_pos ha]
        have H2 : Hid (chartE start p = allE r.2) := by
          unfold Hid; rw [HE.out, e1, if_neg (by rw [e2]; exact ha), e2]
        have hun : (allE r.2 != 0) = true := by simp [ha]
        have hun2 : (allE r.2 == 0) = false := by simp [ha]
        generalize allE r.2 = ae at HU H2 hun hun2
        clear e1 e2 ha HM
        go_wp2_with (go_at_call 21; refine HU.out.mono ?_; rintro e w1 ⟨rfl, hb1⟩; obtain ⟨t1, t2⟩ := HKc.out _ hb1)
        go_ret
        exact RetE.mk' H2.out (hbw.trans (hb1.mono hz))
    · obtain rfl : k = p.length := by omega
      have HF : Hid (chartE start p = 0) := by
        unfold Hid
        rw [HE.out, H.out, List.drop_length]; rfl
      clear hs H
      go_wp2
      go_ret
      exact RetE.mk' HF.out hbw
end Go.Proofs.YtbnddpknejgmhaaGreat
