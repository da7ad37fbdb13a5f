/- The reference's layer 25: Check, Used, Gives. The reference's layer 25: sums, All, Uses, Makes, Great. -/
import Derived.Test.YtflpikickbellaaKSt4
namespace Go.Proofs.Ytflpikickbellaa
open Go.RowKit
set_option maxRecDepth 100000

theorem err_of {k : Int} {pl : Bool} {a b : Int} {v : Int} (q : Bool) (h : (⟨k, pl, a, b⟩ : Stc).ok = q) (hv : v = if q then 0 else 8) : (⟨k, pl, a, b⟩ : Stc).err = v := by unfold Stc.err; rw [h, hv]
set_option maxHeartbeats 4000000 in
theorem rscheck_any (s : Stc) (w : World) : Calls Try.prog 75 #[s.val] w fun e w' => RetE s.err w e w' := by
  obtain ⟨k, pl, a, b⟩ := s
  have hbl := Lib.hid (fun o => (Below.refl w.heap.size w).alloc (Nat.le_refl _) o)
  by_cases h : 1 ≤ k ∧ k ≤ 10
  · rcases (by omega : k = 1 ∨ k = 2 ∨ k = 3 ∨ k = 4 ∨ k = 5 ∨ k = 6 ∨ k = 7 ∨ k = 8 ∨ k = 9 ∨ k = 10) with rfl | rfl | rfl | rfl | rfl | rfl | rfl | rfl | rfl | rfl
    all_goals clear h
    all_goals cases pl
    all_goals
      go_enter Try.func75, Try.ntmps75
      go_wp2
      all_goals go_ret
      all_goals exact RetE.mk' (by (try simp only [Bool.not_eq_true', Bool.not_eq_false', beq_eq_false_iff_ne, beq_iff_eq, ne_eq, decide_eq_true_eq, decide_eq_false_iff_not] at *); simp [Stc.err, Stc.ok, formI, formT, form0] <;> omega) (hbl.out _)
  · have hn : ∀ j : Int, 1 ≤ j → j ≤ 10 → (k == j) = false := fun j h1 h2 => beq_eq_false_iff_ne.2 (by omega)
    have e1 := hn 1 (by decide) (by decide)
    have e2 := hn 2 (by decide) (by decide)
    have e3 := hn 3 (by decide) (by decide)
    have e4 := hn 4 (by decide) (by decide)
    have e5 := hn 5 (by decide) (by decide)
    have e6 := hn 6 (by decide) (by decide)
    have e7 := hn 7 (by decide) (by decide)
    have e8 := hn 8 (by decide) (by decide)
    have e9 := hn 9 (by decide) (by decide)
    have e10 := hn 10 (by decide) (by decide)
    have HE : Hid ((⟨k, pl, a, b⟩ : Stc).err = 8) := by unfold Hid Stc.err Stc.ok; simp [h]
    clear hn h
    go_enter Try.func75, Try.ntmps75
    go_wp2
    all_goals go_ret
    all_goals exact RetE.mk' HE.out (hbl.out _)
set_option maxHeartbeats 2000000 in
theorem rused_any (s : Stc) (ho : s.ok = true) (w : World) : Calls Try.prog 79 #[s.val] w fun e w' => RetE (usesS s) w e w' := by
  have hr := ok_rng ho
  have hk : 1 ≤ s.kind ∧ s.kind ≤ 10 := by
    unfold Stc.ok at ho
    simp only [Bool.and_eq_true, decide_eq_true_eq] at ho
    exact ho.1
  clear ho
  obtain ⟨k, pl, a, b⟩ := s
  have hbl := Lib.hid (fun o => (Below.refl w.heap.size w).alloc (Nat.le_refl _) o)
  have hw : IntKind.i64.wrap (a + b) = a + b := IntWalk.i64_in _ (by simp only at hr; omega)
  simp only at hk
  clear hr
  rcases (by omega : k = 1 ∨ k = 2 ∨ k = 3 ∨ k = 4 ∨ k = 5 ∨ k = 6 ∨ k = 7 ∨ k = 8 ∨ k = 9 ∨ k = 10) with rfl | rfl | rfl | rfl | rfl | rfl | rfl | rfl | rfl | rfl
  all_goals clear hk
  all_goals
    go_enter Try.func79, Try.ntmps79
    go_wp2
    go_ret
    exact RetE.mk' (by simp [usesS, loopsI, formI, formT, form0]) (hbl.out _)
set_option maxHeartbeats 2000000 in
theorem rgives_any (s : Stc) (ho : s.ok = true) (w : World) : Calls Try.prog 99 #[s.val] w fun e w' => RetE (makesS s) w e w' := by
  have hr := ok_rng ho
  have hk : 1 ≤ s.kind ∧ s.kind ≤ 10 := by
    unfold Stc.ok at ho
    simp only [Bool.and_eq_true, decide_eq_true_eq] at ho
    exact ho.1
  clear ho
  obtain ⟨k, pl, a, b⟩ := s
  have hbl := Lib.hid (fun o => (Below.refl w.heap.size w).alloc (Nat.le_refl _) o)
  have hw : IntKind.i64.wrap (a + b) = a + b := IntWalk.i64_in _ (by simp only at hr; omega)
  simp only at hk
  clear hr
  rcases (by omega : k = 1 ∨ k = 2 ∨ k = 3 ∨ k = 4 ∨ k = 5 ∨ k = 6 ∨ k = 7 ∨ k = 8 ∨ k = 9 ∨ k = 10) with rfl | rfl | rfl | rfl | rfl | rfl | rfl | rfl | rfl | rfl
  all_goals clear hk
  all_goals
    go_enter Try.func99, Try.ntmps99
    go_wp2
    go_ret
    exact RetE.mk' (by simp [makesS, loopsI, formI, formT, form0]) (hbl.out _)
end Go.Proofs.Ytflpikickbellaa
namespace Go.Proofs.Ytflpikickbellaa
open Go.RowKit
set_option maxRecDepth 100000

set_option maxHeartbeats 2000000 in
theorem rsums_any (A : Option Addr) (c : Nat) (l : List Stc) (hok : ∀ s ∈ l, s.ok = true) (hn : l.length ≤ 1000000) (w : World) (hs : SlT w w.heap.size A l) :
    Calls Try.prog 76 #[.slice A l.length c] w fun e w' => e = .returned (.tuple #[.int .i64 (sumU l), .int .i64 (sumM l)]) ∧ Below w.heap.size w w' := by
  go_enter Try.func76, Try.ntmps76
  go_wp2
  go_loopw [4, 5, 6] (fun s4 s5 s6 wr => ∃ (k : Nat) (u m : Int), k ≤ l.length ∧ s6 = .int .i64 k ∧ s4 = .int .i64 u ∧ s5 = .int .i64 m ∧ Hid (u = ((l.take k).map usesS).sum) ∧ Hid (m = ((l.take k).map makesS).sum) ∧ Below w.heap.size w wr) (fun _ _ s6 _ => l.length - (intOf s6).toNat)
  case atStart => exact ⟨0, 0, 0, Nat.zero_le _, rfl, rfl, rfl, rfl, rfl, Below.refl _ _⟩
  case round =>
    obtain ⟨k, u, m, hk, rfl, rfl, rfl, HU, HM, hbw⟩ := hrel
    by_cases hlt : k < l.length
    · obtain ⟨b, off, s, rfl, hB, hz, hc⟩ := hs.at_ hlt
      have hmem := List.mem_of_getElem? hz
      have hsok := hok s hmem
      obtain ⟨c0, c1, c2, c3⟩ := hc.below hbw hB
      have HU2 : Hid (u + usesS s = ((l.take (k + 1)).map usesS).sum) := by unfold Hid; rw [sum_take hz, ← HU.out]
      have HM2 : Hid (m + makesS s = ((l.take (k + 1)).map makesS).sum) := by unfold Hid; rw [sum_take hz, ← HM.out]
      have hru := sum_rng (f := usesS) (l := l.take k) fun x hx => loopsI_rng (hok x (List.mem_of_mem_take hx)) _
      have hrm := sum_rng (f := makesS) (l := l.take k) fun x hx => loopsI_rng (hok x (List.mem_of_mem_take hx)) _
      rw [← HU.out, List.length_take] at hru
      rw [← HM.out, List.length_take] at hrm
      have hsu : 0 ≤ usesS s ∧ usesS s ≤ 206 := loopsI_rng hsok _
      have hsm : 0 ≤ makesS s ∧ makesS s ≤ 206 := loopsI_rng hsok _
      have hwu : IntKind.i64.wrap (u + usesS s) = u + usesS s := IntWalk.i64_in _ (by omega)
      have hwm : IntKind.i64.wrap (m + makesS s) = m + makesS s := IntWalk.i64_in _ (by omega)
      have HLu := Lib.hid (fun w => rused_any s hsok w)
      have HLm := Lib.hid (fun w => rgives_any s hsok w)
      have HCs := Lib.hid (fun (w2 : World) (hb : Below wr.heap.size wr w2) => (hc.below hbw hB).below hb (Nat.lt_of_lt_of_le hB hbw.size))
      generalize usesS s = us at HU2 hwu HLu hsu
      generalize makesS s = ms at HM2 hwm HLm hsm
      clear hs hc hok HU HM hru hrm hsu hsm hz hmem hsok
      go_wp2_with (first
        | (go_at_call 79; refine (HLu.out _).mono ?_; rintro e w2 ⟨rfl, hb2⟩
           obtain ⟨t0, t1, t2, t3⟩ := HCs.out _ hb2)
        | (go_at_call 99; refine (HLm.out _).mono ?_; rintro e w3 ⟨rfl, hb3⟩))
      go_roundw
      case rel => exact ⟨k + 1, _, _, by omega, by go_num, rfl, rfl, HU2, HM2, hbw.trans ((hb2.trans (hb3.mono hb2.size)).mono hbw.size)⟩
      case measure => simp [intOf]; omega
    · obtain rfl : k = l.length := by omega
      have HU2 : Hid (u = sumU l) := by have := HU.out; rwa [List.take_length] at this
      have HM2 : Hid (m = sumM l) := by have := HM.out; rwa [List.take_length] at this
      clear hs hok HU HM
      go_wp2
      go_ret2
      exact ⟨by rw [← HU2.out, ← HM2.out]; rfl, hbw⟩

theorem any_err {l : List Stc} (h : ∀ s ∈ l.take l.length, s.err = 0) : l.any (fun s => decide (s.err ≠ 0)) = false := by
  rw [List.take_length] at h
  rw [List.any_eq_false]
  intro s hs
  simp [h s hs]
set_option maxHeartbeats 2000000 in
theorem rall_any (A : Option Addr) (c : Nat) (l : List Stc) (w : World) (hs : SlT w w.heap.size A l) :
    Calls Try.prog 54 #[.slice A l.length c] w fun e w' => RetE (allE l) w e w' := by
  by_cases h1 : 200 < l.length
  · have HE : Hid (allE l = 4) := by unfold Hid allE; rw [if_pos h1]
    clear hs
    go_enter Try.func54, Try.ntmps54
    go_wp2
    go_ret
    exact RetE.mk' HE.out (Below.refl _ _)
  have hsz : l.length ≤ 200 := by omega
  go_enter Try.func54, Try.ntmps54
  go_wp2
  go_loopw [3] (fun s3 wr => ∃ k : Nat, k ≤ l.length ∧ s3 = .int .i64 k ∧ Hid (∀ s ∈ l.take k, s.err = 0) ∧ Below w.heap.size w wr) (fun s3 _ => l.length - (intOf s3).toNat)
  case atStart => exact ⟨0, Nat.zero_le _, rfl, (fun r hr => by simp at hr), Below.refl _ _⟩
  case round =>
    obtain ⟨k, hk, rfl, H, hbw⟩ := hrel
    by_cases hlt : k < l.length
    · obtain ⟨b, off, s, rfl, hB, hz, hc⟩ := hs.at_ hlt
      obtain ⟨c0, c1, c2, c3⟩ := hc.below hbw hB
      have HC := Lib.hid (fun w => rscheck_any s w)
      have HZ := Lib.hid hz
      have hbz := hbw.size
      clear hs hc hz
      by_cases he : s.err = 0
      · have HQ : Hid (∀ x ∈ l.take (k + 1), x.err = 0) := fun x hx => by
          obtain ⟨hk', e⟩ := List.getElem?_eq_some_iff.1 HZ.out
          rw [List.take_succ_eq_append_getElem hk', e] at hx
          rcases List.mem_append.1 hx with h | h
          · exact H.out x h
          · rw [List.mem_singleton.1 h]; exact he
        rw [he] at HC
        clear he H
        go_wp2_with (go_at_call 75; refine (HC.out _).mono ?_; rintro e w1 ⟨rfl, hb1⟩)
        go_roundw
        case rel => exact ⟨k + 1, by omega, by go_num, HQ, hbw.trans (hb1.mono hbz)⟩
        case measure => simp [intOf]; omega
      · have HE : Hid (allE l = 8) := by
          unfold Hid allE
          rw [if_neg h1, if_pos]
          exact List.any_eq_true.2 ⟨s, List.mem_of_getElem? HZ.out, by simp [he]⟩
        have hbn : (s.err != 0) = true := by simp [he]
        have hbn2 : (s.err == 0) = false := by simp [he]
        clear he H
        go_wp2_with (go_at_call 75; refine (HC.out _).mono ?_; rintro e w1 ⟨rfl, hb1⟩)
        go_ret
        exact RetE.mk' HE.out (hbw.trans (hb1.mono hbz))
    · obtain rfl : k = l.length := by omega
      have hb := any_err H.out
      have HE : Hid (allE l = if 200 < sumU l ∨ 200 < sumM l then 4 else 0) := by unfold Hid allE; rw [if_neg h1, hb, if_neg (by simp)]
      have hok : ∀ s ∈ l, s.ok = true := fun s hs => by
        rw [List.any_eq_false] at hb
        exact err_ok (by simpa using hb s hs)
      have HSm := Lib.hid (rsums_any A c l hok (by omega) wr ((hs.below hbw).more hbw.size))
      have hbz := hbw.size
      clear hs H hb hok
      generalize sumU l = u at HE HSm
      generalize sumM l = m at HE HSm
      by_cases h2 : 200 < u
      · have HE2 : Hid (allE l = 4) := by unfold Hid; rw [HE.out, if_pos (Or.inl h2)]
        clear HE
        go_wp2_with (go_at_call 76; refine HSm.out.mono ?_; rintro e w1 ⟨rfl, hb1⟩)
        go_ret
        exact RetE.mk' HE2.out (hbw.trans (hb1.mono hbz))
      · by_cases h3 : 200 < m
        · have HE2 : Hid (allE l = 4) := by unfold Hid; rw [HE.out, if_pos (Or.inr h3)]
          clear HE
          go_wp2_with (go_at_call 76; refine HSm.out.mono ?_; rintro e w1 ⟨rfl, hb1⟩)
          go_ret
          exact RetE.mk' HE2.out (hbw.trans (hb1.mono hbz))
        · have HE2 : Hid (allE l = 0) := by unfold Hid; rw [HE.out, if_neg (by omega)]
          clear HE
          go_wp2_with (go_at_call 76; refine HSm.out.mono ?_; rintro e w1 ⟨rfl, hb1⟩)
          go_ret
          exact RetE.mk' HE2.out (hbw.trans (hb1.mono hbz))
set_option maxHeartbeats 1000000 in
theorem ruses_any (A : Option Addr) (c : Nat) (l : List Stc) (w : World) (hs : SlT w w.heap.size A l) :
    Calls Try.prog 55 #[.slice A l.length c] w fun e w' => e = .returned (.tuple #[.int .i64 (usesE l), .int .i64 (allE l)]) ∧ Below w.heap.size w w' := by
  have HA := Lib.hid (rall_any A c l w hs)
  by_cases he : allE l = 0
  · have hz := all_zero he
    have HU : Hid (usesE l = sumU l) := by unfold Hid usesE; rw [if_pos he]
    have HSm := Lib.hid (fun w' (hb : Below w.heap.size w w') => rsums_any A c l hz.2.1 (by omega) w' ((hs.below hb).more hb.size))
    rw [he] at HA ⊢
    clear hs hz he
    go_enter Try.func55, Try.ntmps55
    go_wp2_with (first
      | (go_at_call 54; refine HA.out.mono ?_; rintro e w' ⟨rfl, hb1⟩)
      | (go_at_call 76; refine (HSm.out _ hb1).mono ?_; rintro e w2 ⟨rfl, hb2⟩))
    go_ret2
    exact ⟨by rw [HU.out]; rfl, hb1.trans (hb2.mono hb1.size)⟩
  · have HU : Hid (usesE l = 0) := by unfold Hid usesE; rw [if_neg he]
    have hb : (allE l == 0) = false := beq_eq_false_iff_ne.2 he
    have hbn : (allE l != 0) = true := by simp [he]
    have HA2 := Lib.hid (fun w' (hb : Below w.heap.size w w') => rall_any A c l w' ((hs.below hb).more hb.size))
    generalize allE l = x at HA HA2 hb hbn ⊢
    clear hs he
    go_enter Try.func55, Try.ntmps55
    go_wp2_with (first
      | (go_at_call 54; refine HA.out.mono ?_; rintro e w' ⟨rfl, hb1⟩)
      | (go_at_call 54; refine (HA2.out _ hb1).mono ?_; rintro e w2 ⟨rfl, hb2⟩))
    go_ret2
    exact ⟨by rw [HU.out]; rfl, hb1.trans (hb2.mono hb1.size)⟩
end Go.Proofs.Ytflpikickbellaa
