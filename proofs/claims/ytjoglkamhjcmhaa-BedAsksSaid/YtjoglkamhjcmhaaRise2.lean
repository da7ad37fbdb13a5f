/- Layer 30: rising over carriers. -/
import Derived.Test.YtjoglkamhjcmhaaRise
namespace Go.Proofs.Ytjoglkamhjcmhaa
open Go.RowKit
set_option maxRecDepth 100000

theorem feed_lt (a b : Fd) : decide (0 ≤ a.car - b.car) = !ltF a b := by
  unfold ltF
  rw [Bool.eq_iff_iff]
  simp only [decide_eq_true_eq, Bool.not_eq_true', decide_eq_false_iff_not]
  omega
set_option maxHeartbeats 4000000 in
theorem risingF_any (A : Option Addr) (c : Nat) (l : List Fd) (hn : l.length ≤ 1000000) (hk : ∀ h ∈ l, carP h.car) (w : World) (hs : SlF w w.heap.size A l) :
    Calls Try.prog 47 #[.slice A l.length c, .func (.func 48) #[] #[]] w fun e w' => e = .returned (.bool (risB ltF l)) ∧ Below w.heap.size w w' := by
  go_enter Try.func47, Try.ntmps47
  go_wp2
  go_loopw [5] (fun s5 wr => ∃ k : Nat, s5 = .int .i64 ((k + 1 : Nat) : Int) ∧ k ≤ l.length ∧ Hid (risB ltF (l.take (k + 1)) = true) ∧ Below w.heap.size w wr) (fun s5 _ => l.length - (intOf s5).toNat)
  case atStart =>
    refine ⟨0, rfl, Nat.zero_le _, ?_, Below.refl _ _⟩
    cases l with
    | nil => rfl
    | cons a t => rfl
  case round =>
    obtain ⟨k, rfl, hkl, H, hbw⟩ := hrel
    by_cases hlt : k + 1 < l.length
    · obtain ⟨b, off, p, rfl, hB, hp, p0, p1, p2⟩ := hs.at_ (k := k) (by omega)
      obtain ⟨b', off', x, e', hB', hx, x0, x1, x2⟩ := hs.at_ (k := k + 1) hlt
      cases e'
      have hpn := hk p (List.mem_of_getElem? hp)
      have hxn := hk x (List.mem_of_getElem? hx)
      have HR := Lib.hid (ris_take (lt := ltF) hp hx H.out)
      have HPl := Lib.hid (fun w => feedcmp_any p x hpn hxn w)
      have HLt := Lib.hid (feed_lt p x)
      have HS0 : Hid (wr.cell? ⟨b, off + k * 3, none⟩ = some (.int .i64 p.car) ∧ wr.cell? ⟨b, off + k * 3 + 1, none⟩ = some (.bool p.fresh) ∧ wr.cell? ⟨b, off + k * 3 + 2, none⟩ = some (.int .i64 p.place) ∧ wr.cell? ⟨b, off + (k + 1) * 3, none⟩ = some (.int .i64 x.car) ∧ wr.cell? ⟨b, off + (k + 1) * 3 + 1, none⟩ = some (.bool x.fresh) ∧ wr.cell? ⟨b, off + (k + 1) * 3 + 2, none⟩ = some (.int .i64 x.place) ∧ Below wr.heap.size wr wr) :=
        ⟨(bcell hbw hB _).trans p0, (bcell hbw hB _).trans p1, (bcell hbw hB _).trans p2, (bcell hbw hB _).trans x0, (bcell hbw hB _).trans x1, (bcell hbw hB _).trans x2, Below.refl _ _⟩
      have hw1 : IntKind.i64.wrap (((k + 1 : Nat) : Int) - 1) = (k : Int) := by rw [show ((k + 1 : Nat) : Int) - 1 = (k : Int) by omega]; exact IntWalk.i64_in _ (by omega)
      have hkm : (k : Int) < (l.length : Int) := by omega
      have hk0 : (0 : Int) ≤ (k : Int) := by omega
      have hk1 : (0 : Int) ≤ (k : Int) + 1 := by omega
      have hkm1 : (k : Int) + 1 < (l.length : Int) := by omega
      have hw2 : IntKind.i64.wrap ((k : Int) + 1 - 1) = (k : Int) := by rw [show (k : Int) + 1 - 1 = (k : Int) by omega]; exact IntWalk.i64_in _ (by omega)
      have hw3 : IntKind.i64.wrap (k : Int) = (k : Int) := IntWalk.i64_in _ (by omega)
      have htn : ((k : Int) + 1).toNat = k + 1 := by omega
      have hkd : decide (((k + 1 : Nat) : Int) < (l.length : Int)) = true := decide_eq_true (by omega)
      clear hs hk hp hx p0 p1 p2 x0 x1 x2 hpn hxn H
      generalize p.car - x.car = z at HPl HLt
      cases hq : ltF p x with
      | true =>
        rw [hq] at HR HLt
        have hz : decide (0 ≤ z) = false := HLt.out
        have HR2 : Hid (risB ltF (l.take (k + 1 + 1)) = true) := HR.out
        clear hq HR HLt
        go_wp2
        go_region_held3 (fun WW => WW.cell? ⟨b, off + k * 3, none⟩ = some (.int .i64 p.car) ∧ WW.cell? ⟨b, off + k * 3 + 1, none⟩ = some (.bool p.fresh) ∧ WW.cell? ⟨b, off + k * 3 + 2, none⟩ = some (.int .i64 p.place) ∧ WW.cell? ⟨b, off + (k + 1) * 3, none⟩ = some (.int .i64 x.car) ∧ WW.cell? ⟨b, off + (k + 1) * 3 + 1, none⟩ = some (.bool x.fresh) ∧ WW.cell? ⟨b, off + (k + 1) * 3 + 2, none⟩ = some (.int .i64 x.place) ∧ Below wr.heap.size wr WW)
          (first | exact keep6 HS0.out (Below.drew (Below.refl _ _)) | exact keep6 (by assumption) (by assumption))
          (first | (go_at_call 48; refine (HPl.out _).mono ?_; rintro e w' ⟨rfl, hb1⟩))
        rename_i hS1
        have hB1 := hbw.trans (hS1.2.2.2.2.2.2.mono hbw.size)
        clear hS1 HS0
        go_wp2
        go_roundw
        case rel => exact ⟨k + 1, by go_num, by omega, HR2, hB1⟩
        case measure => simp [intOf]; omega
      | false =>
        rw [hq] at HR HLt
        have hz : decide (0 ≤ z) = true := HLt.out
        have HF : Hid (risB ltF l = false) := ris_not HR.out
        clear hq HR HLt
        go_wp2
        go_region_held3 (fun WW => WW.cell? ⟨b, off + k * 3, none⟩ = some (.int .i64 p.car) ∧ WW.cell? ⟨b, off + k * 3 + 1, none⟩ = some (.bool p.fresh) ∧ WW.cell? ⟨b, off + k * 3 + 2, none⟩ = some (.int .i64 p.place) ∧ WW.cell? ⟨b, off + (k + 1) * 3, none⟩ = some (.int .i64 x.car) ∧ WW.cell? ⟨b, off + (k + 1) * 3 + 1, none⟩ = some (.bool x.fresh) ∧ WW.cell? ⟨b, off + (k + 1) * 3 + 2, none⟩ = some (.int .i64 x.place) ∧ Below wr.heap.size wr WW)
          (first | exact keep6 HS0.out (Below.drew (Below.refl _ _)) | exact keep6 (by assumption) (by assumption))
          (first | (go_at_call 48; refine (HPl.out _).mono ?_; rintro e w' ⟨rfl, hb1⟩))
        rename_i hS1
        have HB1 := Lib.hid (hbw.trans (hS1.2.2.2.2.2.2.mono hbw.size))
        clear hS1 HS0
        go_wp2
        go_ret
        exact ⟨ret_bool HF.out.symm, HB1.out⟩
    · have HF : Hid (risB ltF l = true) := by have h := H.out; rwa [List.take_of_length_le (by omega)] at h
      have hkd : decide (((k + 1 : Nat) : Int) < (l.length : Int)) = false := decide_eq_false (by omega)
      clear hs hk H
      go_wp2
      go_ret
      exact ⟨ret_bool HF.out.symm, hbw⟩
end Go.Proofs.Ytjoglkamhjcmhaa
