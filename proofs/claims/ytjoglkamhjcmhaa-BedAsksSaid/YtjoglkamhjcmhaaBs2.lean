/- Layer 30: BinarySearchFunc over carriers; a carrier found. -/
import Derived.Test.YtjoglkamhjcmhaaBs
import Derived.Test.YtjoglkamhjcmhaaRise2
namespace Go.Proofs.Ytjoglkamhjcmhaa
open Go.RowKit
set_option maxRecDepth 100000

def defF : Fd := ⟨0, false, 0⟩
def cmpF (l : List Fd) (c : Int) (j : Nat) : Int := (l.getD j defF).car - c
theorem getF_at {l : List Fd} {j : Nat} {h : Fd} (hr : l[j]? = some h) : l.getD j defF = h := by rw [List.getD, hr]; rfl
set_option maxHeartbeats 1000000 in
theorem feedcmp2_any (a : Fd) (c : Int) (ha : carP a.car) (hc : carP c) (w : World) :
    Calls Try.prog 56 #[.agg #[.int .i64 a.car, .bool a.fresh, .int .i64 a.place], .int .i64 c] w fun e w' => e = .returned (.int .i64 (a.car - c)) ∧ Below w.heap.size w w' := by
  have hbl := Lib.hid (fun o => (Below.refl w.heap.size w).alloc (Nat.le_refl _) o)
  unfold carP at ha hc
  have hw1 : IntKind.i64.wrap (a.car - c) = a.car - c := IntWalk.i64_in _ (by omega)
  go_enter Try.func56, Try.ntmps56
  go_wp2
  go_ret
  exact ⟨rfl, hbl.out _⟩
set_option maxHeartbeats 4000000 in
theorem bsF_any (A : Option Addr) (cp : Nat) (l : List Fd) (hn : l.length ≤ 10000) (hk : ∀ h ∈ l, carP h.car) (c : Int) (hc : carP c) (hm : ∀ i j, i ≤ j → j < l.length → cmpF l c j < 0 → cmpF l c i < 0) (w : World) (hs : SlF w w.heap.size A l) :
    Calls Try.prog 55 #[.slice A l.length cp, .int .i64 c, .func (.func 56) #[] #[]] w fun e w' => ∃ (i : Nat) (q : Bool), e = .returned (.tuple #[.int .i64 (i : Int), .bool q]) ∧ Found (cmpF l c) l.length i q ∧ Below w.heap.size w w' := by
  go_enter Try.func55, Try.ntmps55
  go_wp2
  go_loopw [9, 10, 11] (fun s9 s10 s11 wr => ∃ (i j : Nat) (v11 : Value), i ≤ j ∧ j ≤ l.length ∧ s9 = .int .i64 (i : Int) ∧ s10 = .int .i64 (j : Int) ∧ v11 = s11 ∧ Hid (∀ x, x < i → cmpF l c x < 0) ∧ Hid (∀ x, j ≤ x → x < l.length → 0 ≤ cmpF l c x) ∧ Below w.heap.size w wr) (fun s9 s10 _ _ => (intOf s10).toNat - (intOf s9).toNat)
  case atStart => exact ⟨0, l.length, _, Nat.zero_le _, Nat.le_refl _, rfl, rfl, rfl, (fun x hx => absurd hx (Nat.not_lt_zero x)), (fun x hx hx2 => by omega), Below.refl _ _⟩
  case round =>
    obtain ⟨i, j, v11, hij, hj, rfl, rfl, rfl, HLo, HHi, hbw⟩ := hrel
    by_cases hlt : i < j
    · obtain ⟨h, hh⟩ : ∃ h, h = (i + j) / 2 := ⟨_, rfl⟩
      have hil : (i : Int) < (j : Int) := by omega
      have hmid : ((i : Int) + (j : Int)) / 2 = (h : Int) := by omega
      have hhl : h < l.length := by omega
      have hih : i ≤ h := by omega
      have hhj : h < j := by omega
      obtain ⟨b, off, x, rfl, hB, hx, x0, x1, x2⟩ := hs.at_ hhl
      have hxn := hk x (List.mem_of_getElem? hx)
      have d0 := (bcell hbw hB _).trans x0
      have d1 := (bcell hbw hB _).trans x1
      have d2 := (bcell hbw hB _).trans x2
      have HPl := Lib.hid (fun w => feedcmp2_any x c hxn hc w)
      have HCm : Hid (cmpF l c h = x.car - c) := by unfold Hid cmpF; rw [getF_at hx]
      have hkm : (h : Int) < (l.length : Int) := by omega
      have HM : Hid (∀ i j, i ≤ j → j < l.length → cmpF l c j < 0 → cmpF l c i < 0) := hm
      have HH := Lib.hid (show _ ∧ _ from ⟨hh, hhl⟩)
      have hbz := hbw.size
      clear hs hk hx x0 x1 x2 hxn hc hm hh
      generalize x.car - c = z at HPl HCm
      by_cases hz : z < 0
      · have hzd : decide (z < 0) = true := decide_eq_true hz
        have HLo2 : Hid (∀ y, y < h + 1 → cmpF l c y < 0) := fun y hy => HM.out y h (by omega) HH.out.2 (by rw [HCm.out]; exact hz)
        clear hz HCm HM HLo
        go_wp2_with (go_at_call 56; refine (HPl.out _).mono ?_; rintro e w' ⟨rfl, hb1⟩)
        go_roundw
        case rel => exact ⟨h + 1, j, _, by omega, hj, by go_num, rfl, rfl, HLo2, HHi, hbw.trans (hb1.mono hbz)⟩
        case measure => simp [intOf]; omega
      · have hzd : decide (z < 0) = false := decide_eq_false hz
        have HHi2 : Hid (∀ y, h ≤ y → y < l.length → 0 ≤ cmpF l c y) := fun y hy hyl => by
          rcases Int.lt_or_le (cmpF l c y) 0 with hneg | hge
          · have := HM.out h y hy hyl hneg
            rw [HCm.out] at this; exact absurd this hz
          · exact hge
        clear hz HCm HM HHi
        go_wp2_with (go_at_call 56; refine (HPl.out _).mono ?_; rintro e w' ⟨rfl, hb1⟩)
        go_roundw
        case rel => exact ⟨i, h, _, hih, by omega, rfl, rfl, rfl, HLo, HHi2, hbw.trans (hb1.mono hbz)⟩
        case measure => simp [intOf]; omega
    · obtain rfl : i = j := by omega
      have hil : decide ((i : Int) < (i : Int)) = false := decide_eq_false (by omega)
      by_cases hin : i < l.length
      case neg =>
        have hind : decide ((i : Int) < (l.length : Int)) = false := decide_eq_false (by omega)
        have HF : Hid (Found (cmpF l c) l.length i false) := ⟨hj, HLo.out, HHi.out, by rw [decide_eq_false hin]; rfl⟩
        clear hs hk hc hm HLo HHi
        go_wp2
        go_ret2
        exact ⟨i, false, rfl, HF.out, hbw⟩
      case pos =>
        obtain ⟨b, off, x, rfl, hB, hx, x0, x1, x2⟩ := hs.at_ hin
        have hxn := hk x (List.mem_of_getElem? hx)
        have d0 := (bcell hbw hB _).trans x0
        have d1 := (bcell hbw hB _).trans x1
        have d2 := (bcell hbw hB _).trans x2
        have HPl := Lib.hid (fun w => feedcmp2_any x c hxn hc w)
        have HF : Hid (Found (cmpF l c) l.length i (x.car - c == 0)) := ⟨hj, HLo.out, HHi.out, by
          unfold cmpF; rw [decide_eq_true hin, getF_at hx, Bool.true_and, Bool.eq_iff_iff]; simp⟩
        have hkm : (i : Int) < (l.length : Int) := by omega
        have hind : decide ((i : Int) < (l.length : Int)) = true := decide_eq_true (by omega)
        have hbz := hbw.size
        clear hs hk hx x0 x1 x2 hxn hc hm HLo HHi
        generalize x.car - c = z at HPl HF
        cases hq : (z == 0) with
        | false =>
          rw [hq] at HF
          go_wp2_with (go_at_call 56; refine (HPl.out _).mono ?_; rintro e w' ⟨rfl, hb1⟩)
          go_ret2
          exact ⟨i, _, rfl, HF.out, hbw.trans (hb1.mono hbz)⟩
        | true =>
          rw [hq] at HF
          go_wp2_with (go_at_call 56; refine (HPl.out _).mono ?_; rintro e w' ⟨rfl, hb1⟩)
          go_ret2
          exact ⟨i, _, rfl, HF.out, hbw.trans (hb1.mono hbz)⟩
end Go.Proofs.Ytjoglkamhjcmhaa
