/- Layer 30: BinarySearchFunc over needles. Layer 30: rising over carriers. Layer 30: BinarySearchFunc over carriers; a carrier found. Words for ranges over functions: all cells but those of one block are kept. -/
import Derived.Test.YtbnddpknejgmhaaGreatKP2
import Derived.Test.YtbnddpknejgmhaaGreatKP1
import Derived.BigQuiet
import Derived.RangeFuncNested
import Derived.RangeFuncBound
import Derived.RangeFuncCalls
import Derived.RangeFuncLeaves
import Derived.Shelf.RegionOpen
import Derived.OwnWalkIn
import Derived.TacticsInMore
import Derived.LoopNIn
import Derived.LoopIn
namespace Go.Proofs.YtbnddpknejgmhaaGreat
open Go.RowKit
set_option maxRecDepth 100000

theorem keep33 {W0 W W' : World} {b b2 o1 o2 o3 o4 o5 o6 : Nat} {v1 v2 v3 v4 v5 v6 : Value} (h : W.cell? ⟨b, o1, none⟩ = some v1 ∧ W.cell? ⟨b, o2, none⟩ = some v2 ∧ W.cell? ⟨b, o3, none⟩ = some v3 ∧ W.cell? ⟨b2, o4, none⟩ = some v4 ∧ W.cell? ⟨b2, o5, none⟩ = some v5 ∧ W.cell? ⟨b2, o6, none⟩ = some v6 ∧ Below W0.heap.size W0 W) (hb : Below W.heap.size W W') :
    W'.cell? ⟨b, o1, none⟩ = some v1 ∧ W'.cell? ⟨b, o2, none⟩ = some v2 ∧ W'.cell? ⟨b, o3, none⟩ = some v3 ∧ W'.cell? ⟨b2, o4, none⟩ = some v4 ∧ W'.cell? ⟨b2, o5, none⟩ = some v5 ∧ W'.cell? ⟨b2, o6, none⟩ = some v6 ∧ Below W0.heap.size W0 W' := by
  obtain ⟨h1, h2, h3, h4, h5, h6, h7⟩ := h
  have hl := lt_of_cell h1
  have hl2 := lt_of_cell h4
  exact ⟨(bcell hb hl _).trans h1, (bcell hb hl _).trans h2, (bcell hb hl _).trans h3, (bcell hb hl2 _).trans h4, (bcell hb hl2 _).trans h5, (bcell hb hl2 _).trans h6, h7.trans (hb.mono h7.size)⟩
/-- What a binary search finds: the number of the elements that lie before the target. -/
structure Found (f : Nat → Int) (n i : Nat) (q : Bool) : Prop where
  le : i ≤ n
  lo : ∀ j, j < i → f j < 0
  hi : ∀ j, i ≤ j → j < n → 0 ≤ f j
  is : q = (decide (i < n) && decide (f i = 0))
def defH : Hk := ⟨0, 0, []⟩
def cmpH (l : List Hk) (t : Hk) (j : Nat) : Int := placeI (l.getD j defH) t
theorem getD_at {l : List Hk} {j : Nat} {h : Hk} (hr : l[j]? = some h) : l.getD j defH = h := by rw [List.getD, hr]; rfl
set_option maxHeartbeats 4000000 in
theorem bsH_any (A : Option Addr) (c : Nat) (l : List Hk) (hn : l.length ≤ 10000) (hk : ∀ h ∈ l, h.near) (t : Hk) (ht : t.near) (vt : Value) (hm : ∀ i j, i ≤ j → j < l.length → cmpH l t j < 0 → cmpH l t i < 0) (w : World) (hs : SlHk w w.heap.size A l) :
    Calls Tryz.prog 97 #[.slice A l.length c, .agg #[.int .u8 t.bed, .int .i64 t.at_, vt], .func (.func 54) #[] #[]] w fun e w' => ∃ (i : Nat) (q : Bool), e = .returned (.tuple #[.int .i64 (i : Int), .bool q]) ∧ Found (cmpH l t) l.length i q ∧ Below w.heap.size w w' := by
  go_enter Tryz.func97, Tryz.ntmps97
  go_wp2
  have HAl := Lib.hid ((Below.refl w.heap.size w).alloc (Nat.le_refl _) (.cells #[.int .u8 t.bed, .int .i64 t.at_, vt] 87))
  have HT : Hid (∀ W, Below (w.heap.size + 1) (w.alloc (.cells #[.int .u8 t.bed, .int .i64 t.at_, vt] 87)) W → W.cell? ⟨w.heap.size, 0, none⟩ = some (.int .u8 t.bed) ∧ W.cell? ⟨w.heap.size, 1, none⟩ = some (.int .i64 t.at_) ∧ W.cell? ⟨w.heap.size, 2, none⟩ = some vt) := fun W hb =>
    ⟨(bcell hb (by omega) _).trans (cell_new rfl rfl rfl), (bcell hb (by omega) _).trans (cell_new rfl rfl rfl), (bcell hb (by omega) _).trans (cell_new rfl rfl rfl)⟩
  go_loopw [9, 10, 11] (fun s9 s10 s11 wr => ∃ (i j : Nat) (v11 : Value), i ≤ j ∧ j ≤ l.length ∧ s9 = .int .i64 (i : Int) ∧ s10 = .int .i64 (j : Int) ∧ v11 = s11 ∧ Hid (∀ x, x < i → cmpH l t x < 0) ∧ Hid (∀ x, j ≤ x → x < l.length → 0 ≤ cmpH l t x) ∧ Below (w.heap.size + 1) (w.alloc (.cells #[.int .u8 t.bed, .int .i64 t.at_, vt] 87)) wr) (fun s9 s10 _ _ => (intOf s10).toNat - (intOf s9).toNat)
  case atStart => exact ⟨0, l.length, _, Nat.zero_le _, Nat.le_refl _, rfl, rfl, rfl, (fun x hx => absurd hx (Nat.not_lt_zero x)), (fun x hx hx2 => by omega), Below.refl _ _⟩
  case round =>
    obtain ⟨i, j, v11, hij, hj, rfl, rfl, rfl, HLo, HHi, hbw⟩ := hrel
    have hbww : Below w.heap.size w wr := HAl.out.trans (hbw.mono (by omega))
    by_cases hlt : i < j
    · obtain ⟨h, hh⟩ : ∃ h, h = (i + j) / 2 := ⟨_, rfl⟩
      have hil : (i : Int) < (j : Int) := by omega
      have hmid : ((i : Int) + (j : Int)) / 2 = (h : Int) := by omega
      have hhl : h < l.length := by omega
      have hih : i ≤ h := by omega
      have hhj : h < j := by omega
      obtain ⟨b, off, x, A1, C1, rfl, hB, hx, x0, x1, x2, _, _⟩ := hs.at_ hhl
      obtain ⟨t0, t1, t2⟩ := HT.out wr hbw
      have hxn := hk x (List.mem_of_getElem? hx)
      have HS0 : Hid (wr.cell? ⟨b, off + h * 3, none⟩ = some (.int .u8 x.bed) ∧ wr.cell? ⟨b, off + h * 3 + 1, none⟩ = some (.int .i64 x.at_) ∧ wr.cell? ⟨b, off + h * 3 + 2, none⟩ = some (.slice A1 x.loops.length C1) ∧ wr.cell? ⟨w.heap.size, 0, none⟩ = some (.int .u8 t.bed) ∧ wr.cell? ⟨w.heap.size, 1, none⟩ = some (.int .i64 t.at_) ∧ wr.cell? ⟨w.heap.size, 2, none⟩ = some vt ∧ Below wr.heap.size wr wr) :=
        ⟨(bcell hbww hB _).trans x0, (bcell hbww hB _).trans x1, (bcell hbww hB _).trans x2, t0, t1, t2, Below.refl _ _⟩
      have HPl := Lib.hid (fun w => place_any x t hxn ht (.slice A1 x.loops.length C1) vt w)
      have HCm : Hid (cmpH l t h = placeI x t) := by unfold Hid cmpH; rw [getD_at hx]
      have hkm : (h : Int) < (l.length : Int) := by omega
      have hk0 : (0 : Int) ≤ (h : Int) := by omega
      have HM : Hid (∀ i j, i ≤ j → j < l.length → cmpH l t j < 0 → cmpH l t i < 0) := hm
      have HH := Lib.hid (show _ ∧ _ from ⟨hh, hhl⟩)
      have hsz := lt_of_cell t0
      clear hs hk hx x0 x1 x2 hxn ht t0 t1 t2 hm hh
      generalize placeI x t = z at HPl HCm
      by_cases hz : z < 0
      · have hzd : decide (z < 0) = true := decide_eq_true hz
        have HLo2 : Hid (∀ y, y < h + 1 → cmpH l t y < 0) := fun y hy => HM.out y h (by omega) HH.out.2 (by rw [HCm.out]; exact hz)
        clear hz HCm HM HLo
        go_upto_region 5 with fail
        go_region_held3 (fun WW => WW.cell? ⟨b, off + h * 3, none⟩ = some (.int .u8 x.bed) ∧ WW.cell? ⟨b, off + h * 3 + 1, none⟩ = some (.int .i64 x.at_) ∧ WW.cell? ⟨b, off + h * 3 + 2, none⟩ = some (.slice A1 x.loops.length C1) ∧ WW.cell? ⟨w.heap.size, 0, none⟩ = some (.int .u8 t.bed) ∧ WW.cell? ⟨w.heap.size, 1, none⟩ = some (.int .i64 t.at_) ∧ WW.cell? ⟨w.heap.size, 2, none⟩ = some vt ∧ Below wr.heap.size wr WW)
          (first | exact keep33 HS0.out (Below.drew (Below.refl _ _)) | exact keep33 (by assumption) (by assumption))
          (first | (go_at_call 54; refine (HPl.out _).mono ?_; rintro e w' ⟨rfl, hb1⟩))
        rename_i hS1
        have hB1 := hbw.trans (hS1.2.2.2.2.2.2.mono (by omega))
        clear hS1 HS0
        go_wp2
        go_roundw
        case rel => exact ⟨h + 1, j, _, by omega, hj, by go_num, rfl, rfl, HLo2, HHi, hB1⟩
        case measure => simp [intOf]; omega
      · have hzd : decide (z < 0) = false := decide_eq_false hz
        have HHi2 : Hid (∀ y, h ≤ y → y < l.length → 0 ≤ cmpH l t y) := fun y hy hyl => by
          rcases Int.lt_or_le (cmpH l t y) 0 with hneg | hge
          · have := HM.out h y hy hyl hneg
            rw [HCm.out] at this; exact absurd this hz
          · exact hge
        clear hz HCm HM HHi
        go_upto_region 5 with fail
        go_region_held3 (fun WW => WW.cell? ⟨b, off + h * 3, none⟩ = some (.int .u8 x.bed) ∧ WW.cell? ⟨b, off + h * 3 + 1, none⟩ = some (.int .i64 x.at_) ∧ WW.cell? ⟨b, off + h * 3 + 2, none⟩ = some (.slice A1 x.loops.length C1) ∧ WW.cell? ⟨w.heap.size, 0, none⟩ = some (.int .u8 t.bed) ∧ WW.cell? ⟨w.heap.size, 1, none⟩ = some (.int .i64 t.at_) ∧ WW.cell? ⟨w.heap.size, 2, none⟩ = some vt ∧ Below wr.heap.size wr WW)
          (first | exact keep33 HS0.out (Below.drew (Below.refl _ _)) | exact keep33 (by assumption) (by assumption))
          (first | (go_at_call 54; refine (HPl.out _).mono ?_; rintro e w' ⟨rfl, hb1⟩))
        rename_i hS1
        have hB1 := hbw.trans (hS1.2.2.2.2.2.2.mono (by omega))
        clear hS1 HS0
        go_wp2
        go_roundw
        case rel => exact ⟨i, h, _, hih, by omega, rfl, rfl, rfl, HLo, HHi2, hB1⟩
        case measure => simp [intOf]; omega
    · obtain rfl : i = j := by omega
      have hil : decide ((i : Int) < (i : Int)) = false := decide_eq_false (by omega)
      by_cases hin : i < l.length
      case neg =>
        have hind : decide ((i : Int) < (l.length : Int)) = false := decide_eq_false (by omega)
        have HF : Hid (Found (cmpH l t) l.length i false) := ⟨hj, HLo.out, HHi.out, by rw [decide_eq_false hin]; rfl⟩
        clear hs hk ht hm HLo HHi
        go_wp2
        go_quiet (fail)
        go_wp2
        go_ret2
        exact ⟨i, false, rfl, HF.out, below_drewN hbww _⟩
      case pos =>
        obtain ⟨b, off, x, A1, C1, rfl, hB, hx, x0, x1, x2, _, _⟩ := hs.at_ hin
        obtain ⟨t0, t1, t2⟩ := HT.out wr hbw
        have hxn := hk x (List.mem_of_getElem? hx)
        have HS0 : Hid (wr.cell? ⟨b, off + i * 3, none⟩ = some (.int .u8 x.bed) ∧ wr.cell? ⟨b, off + i * 3 + 1, none⟩ = some (.int .i64 x.at_) ∧ wr.cell? ⟨b, off + i * 3 + 2, none⟩ = some (.slice A1 x.loops.length C1) ∧ wr.cell? ⟨w.heap.size, 0, none⟩ = some (.int .u8 t.bed) ∧ wr.cell? ⟨w.heap.size, 1, none⟩ = some (.int .i64 t.at_) ∧ wr.cell? ⟨w.heap.size, 2, none⟩ = some vt ∧ Below wr.heap.size wr wr) :=
          ⟨(bcell hbww hB _).trans x0, (bcell hbww hB _).trans x1, (bcell hbww hB _).trans x2, t0, t1, t2, Below.refl _ _⟩
        have HPl := Lib.hid (fun w => place_any x t hxn ht (.slice A1 x.loops.length C1) vt w)
        have HF : Hid (Found (cmpH l t) l.length i (placeI x t == 0)) := ⟨hj, HLo.out, HHi.out, by
          unfold cmpH; rw [decide_eq_true hin, getD_at hx, Bool.true_and, Bool.eq_iff_iff]; simp⟩
        have hkm : (i : Int) < (l.length : Int) := by omega
        have hk0 : (0 : Int) ≤ (i : Int) := by omega
        have hind : decide ((i : Int) < (l.length : Int)) = true := decide_eq_true (by omega)
        have HB := Lib.hid hbww
        have hsz := lt_of_cell t0
        clear hs hk hx x0 x1 x2 hxn ht t0 t1 t2 hm HLo HHi
        generalize placeI x t = z at HPl HF
        go_upto_region 8 with fail
        go_region_held3 (fun WW => WW.cell? ⟨b, off + i * 3, none⟩ = some (.int .u8 x.bed) ∧ WW.cell? ⟨b, off + i * 3 + 1, none⟩ = some (.int .i64 x.at_) ∧ WW.cell? ⟨b, off + i * 3 + 2, none⟩ = some (.slice A1 x.loops.length C1) ∧ WW.cell? ⟨w.heap.size, 0, none⟩ = some (.int .u8 t.bed) ∧ WW.cell? ⟨w.heap.size, 1, none⟩ = some (.int .i64 t.at_) ∧ WW.cell? ⟨w.heap.size, 2, none⟩ = some vt ∧ Below wr.heap.size wr WW)
          (first | exact keep33 HS0.out (Below.drew (Below.refl _ _)) | exact keep33 (by assumption) (by assumption))
          (first | (go_at_call 54; refine (HPl.out _).mono ?_; rintro e w' ⟨rfl, hb1⟩))
        rename_i hS1
        have HB1 := Lib.hid (HB.out.trans (hS1.2.2.2.2.2.2.mono HB.out.size))
        clear hS1 HS0
        go_wp2
        go_ret2
        exact ⟨i, _, rfl, HF.out, HB1.out⟩
end Go.Proofs.YtbnddpknejgmhaaGreat
namespace Go.Proofs.YtbnddpknejgmhaaGreat
open Go.RowKit
set_option maxRecDepth 100000

theorem feed_lt (a b : Fd) : decide (0 ≤ a.car - b.car) = !ltF a b := by
  unfold ltF
  rw [Bool.eq_iff_iff]
  simp only [decide_eq_true_eq, Bool.not_eq_true', decide_eq_false_iff_not]
  omega
set_option maxHeartbeats 4000000 in
theorem risingF_any (A : Option Addr) (c : Nat) (l : List Fd) (hn : l.length ≤ 1000000) (hk : ∀ h ∈ l, carP h.car) (w : World) (hs : SlF w w.heap.size A l) :
    Calls Tryz.prog 55 #[.slice A l.length c, .func (.func 56) #[] #[]] w fun e w' => e = .returned (.bool (risB ltF l)) ∧ Below w.heap.size w w' := by
  go_enter Tryz.func55, Tryz.ntmps55
  go_wp2
  go_loopw [5] (fun s5 wr => ∃ k : Nat, s5 = .int .i64 ((k + 1 : Nat) : Int) ∧ k ≤ l.length ∧ Hid (risB ltF (l.take (k + 1)) = true) ∧ Below w.heap.size w wr) (fun s5 _ => l.length - (intOf s5).toNat)
  case atStart =>
    refine ⟨0, rfl, Nat.zero_le _, ?_, Below.refl _ _⟩
    cases l with
    | nil => rfl
    | cons a t => rfl
  case round =>
    obtain ⟨k, rfl, hkl, H, hbw⟩ := hrel
    by_cases hlt : k + 1 < l.length
    · obtain ⟨b, off, p, rfl, hB, hp, p0, p1, p2⟩ := hs.at_ (k := k) (by omega)
      obtain ⟨b', off', x, e', hB', hx, x0, x1, x2⟩ := hs.at_ (k := k + 1) hlt
      cases e'
      have hpn := hk p (List.mem_of_getElem? hp)
      have hxn := hk x (List.mem_of_getElem? hx)
      have HR := Lib.hid (ris_take (lt := ltF) hp hx H.out)
      have HPl := Lib.hid (fun w => feedcmp_any p x hpn hxn w)
      have HLt := Lib.hid (feed_lt p x)
      have HS0 : Hid (wr.cell? ⟨b, off + k * 3, none⟩ = some (.int .i64 p.car) ∧ wr.cell? ⟨b, off + k * 3 + 1, none⟩ = some (.bool p.fresh) ∧ wr.cell? ⟨b, off + k * 3 + 2, none⟩ = some (.int .i64 p.place) ∧ wr.cell? ⟨b, off + (k + 1) * 3, none⟩ = some (.int .i64 x.car) ∧ wr.cell? ⟨b, off + (k + 1) * 3 + 1, none⟩ = some (.bool x.fresh) ∧ wr.cell? ⟨b, off + (k + 1) * 3 + 2, none⟩ = some (.int .i64 x.place) ∧ Below wr.heap.size wr wr) :=
        ⟨(bcell hbw hB _).trans p0, (bcell hbw hB _).trans p1, (bcell hbw hB _).trans p2, (bcell hbw hB _).trans x0, (bcell hbw hB _).trans x1, (bcell hbw hB _).trans x2, Below.refl _ _⟩
      have hw1 : IntKind.i64.wrap (((k + 1 : Nat) : Int) - 1) = (k : Int) := by rw [show ((k + 1 : Nat) : Int) - 1 = (k : Int) by omega]; exact IntWalk.i64_in _ (by omega)
      have hkm : (k : Int) < (l.length : Int) := by omega
      have hk0 : (0 : Int) ≤ (k : Int) := by omega
      have hk1 : (0 : Int) ≤ (k : Int) + 1 := by omega
      have hkm1 : (k : Int) + 1 < (l.length : Int) := by omega
      have hw2 : IntKind.i64.wrap ((k : Int) + 1 - 1) = (k : Int) := by rw [show (k : Int) + 1 - 1 = (k : Int) by omega]; exact IntWalk.i64_in _ (by omega)
      have hw3 : IntKind.i64.wrap (k : Int) = (k : Int) := IntWalk.i64_in _ (by omega)
      have htn : ((k : Int) + 1).toNat = k + 1 := by omega
      have hkd : decide (((k + 1 : Nat) : Int) < (l.length : Int)) = true := decide_eq_true (by omega)
      clear hs hk hp hx p0 p1 p2 x0 x1 x2 hpn hxn H
      generalize p.car - x.car = z at HPl HLt
      cases hq : ltF p x with
      | true =>
        rw [hq] at HR HLt
        have hz : decide (0 ≤ z) = false := HLt.out
        have HR2 : Hid (risB ltF (l.take (k + 1 + 1)) = true) := HR.out
        clear hq HR HLt
        go_wp2
        go_region_held3 (fun WW => WW.cell? ⟨b, off + k * 3, none⟩ = some (.int .i64 p.car) ∧ WW.cell? ⟨b, off + k * 3 + 1, none⟩ = some (.bool p.fresh) ∧ WW.cell? ⟨b, off + k * 3 + 2, none⟩ = some (.int .i64 p.place) ∧ WW.cell? ⟨b, off + (k + 1) * 3, none⟩ = some (.int .i64 x.car) ∧ WW.cell? ⟨b, off + (k + 1) * 3 + 1, none⟩ = some (.bool x.fresh) ∧ WW.cell? ⟨b, off + (k + 1) * 3 + 2, none⟩ = some (.int .i64 x.place) ∧ Below wr.heap.size wr WW)
          (first | exact keep6 HS0.out (Below.drew (Below.refl _ _)) | exact keep6 (by assumption) (by assumption))
          (first | (go_at_call 56; refine (HPl.out _).mono ?_; rintro e w' ⟨rfl, hb1⟩))
        rename_i hS1
        have hB1 := hbw.trans (hS1.2.2.2.2.2.2.mono hbw.size)
        clear hS1 HS0
        go_wp2
        go_roundw
        case rel => exact ⟨k + 1, by go_num, by omega, HR2, hB1⟩
        case measure => simp [intOf]; omega
      | false =>
        rw [hq] at HR HLt
        have hz : decide (0 ≤ z) = true := HLt.out
        have HF : Hid (risB ltF l = false) := ris_not HR.out
        clear hq HR HLt
        go_wp2
        go_region_held3 (fun WW => WW.cell? ⟨b, off + k * 3, none⟩ = some (.int .i64 p.car) ∧ WW.cell? ⟨b, off + k * 3 + 1, none⟩ = some (.bool p.fresh) ∧ WW.cell? ⟨b, off + k * 3 + 2, none⟩ = some (.int .i64 p.place) ∧ WW.cell? ⟨b, off + (k + 1) * 3, none⟩ = some (.int .i64 x.car) ∧ WW.cell? ⟨b, off + (k + 1) * 3 + 1, none⟩ = some (.bool x.fresh) ∧ WW.cell? ⟨b, off + (k + 1) * 3 + 2, none⟩ = some (.int .i64 x.place) ∧ Below wr.heap.size wr WW)
          (first | exact keep6 HS0.out (Below.drew (Below.refl _ _)) | exact keep6 (by assumption) (by assumption))
          (first | (go_at_call 56; refine (HPl.out _).mono ?_; rintro e w' ⟨rfl, hb1⟩))
        rename_i hS1
        have HB1 := Lib.hid (hbw.trans (hS1.2.2.2.2.2.2.mono hbw.size))
        clear hS1 HS0
        go_wp2
        go_ret
        exact ⟨ret_bool HF.out.symm, HB1.out⟩
    · have HF : Hid (risB ltF l = true) := by have h := H.out; rwa [List.take_of_length_le (by omega)] at h
      have hkd : decide (((k + 1 : Nat) : Int) < (l.length : Int)) = false := decide_eq_false (by omega)
      clear hs hk H
      go_wp2
      go_ret
      exact ⟨ret_bool HF.out.symm, hbw⟩
end Go.Proofs.YtbnddpknejgmhaaGreat
namespace Go.Proofs.YtbnddpknejgmhaaGreat
open Go.RowKit
set_option maxRecDepth 100000

def defF : Fd := ⟨0, false, 0⟩
def cmpF (l : List Fd) (c : Int) (j : Nat) : Int := (l.getD j defF).car - c
theorem getF_at {l : List Fd} {j : Nat} {h : Fd} (hr : l[j]? = some h) : l.getD j defF = h := by rw [List.getD, hr]; rfl
set_option maxHeartbeats 1000000 in
theorem feedcmp2_any (a : Fd) (c : Int) (ha : carP a.car) (hc : carP c) (w : World) :
    Calls Tryz.prog 116 #[.agg #[.int .i64 a.car, .bool a.fresh, .int .i64 a.place], .int .i64 c] w fun e w' => e = .returned (.int .i64 (a.car - c)) ∧ Below w.heap.size w w' := by
  have hbl := Lib.hid (fun o => (Below.refl w.heap.size w).alloc (Nat.le_refl _) o)
  unfold carP at ha hc
  have hw1 : IntKind.i64.wrap (a.car - c) = a.car - c := IntWalk.i64_in _ (by omega)
  go_enter Tryz.func116, Tryz.ntmps116
  go_wp2
  go_ret
  exact ⟨rfl, hbl.out _⟩
set_option maxHeartbeats 4000000 in
theorem bsF_any (A : Option Addr) (cp : Nat) (l : List Fd) (hn : l.length ≤ 10000) (hk : ∀ h ∈ l, carP h.car) (c : Int) (hc : carP c) (hm : ∀ i j, i ≤ j → j < l.length → cmpF l c j < 0 → cmpF l c i < 0) (w : World) (hs : SlF w w.heap.size A l) :
    Calls Tryz.prog 115 #[.slice A l.length cp, .int .i64 c, .func (.func 116) #[] #[]] w fun e w' => ∃ (i : Nat) (q : Bool), e = .returned (.tuple #[.int .i64 (i : Int), .bool q]) ∧ Found (cmpF l c) l.length i q ∧ Below w.heap.size w w' := by
  go_enter Tryz.func115, Tryz.ntmps115
  go_wp2
  go_loopw [9, 10, 11] (fun s9 s10 s11 wr => ∃ (i j : Nat) (v11 : Value), i ≤ j ∧ j ≤ l.length ∧ s9 = .int .i64 (i : Int) ∧ s10 = .int .i64 (j : Int) ∧ v11 = s11 ∧ Hid (∀ x, x < i → cmpF l c x < 0) ∧ Hid (∀ x, j ≤ x → x < l.length → 0 ≤ cmpF l c x) ∧ Below w.heap.size w wr) (fun s9 s10 _ _ => (intOf s10).toNat - (intOf s9).toNat)
  case atStart => exact ⟨0, l.length, _, Nat.zero_le _, Nat.le_refl _, rfl, rfl, rfl, (fun x hx => absurd hx (Nat.not_lt_zero x)), (fun x hx hx2 => by omega), Below.refl _ _⟩
  case round =>
    obtain ⟨i, j, v11, hij, hj, rfl, rfl, rfl, HLo, HHi, hbw⟩ := hrel
    by_cases hlt : i < j
    · obtain ⟨h, hh⟩ : ∃ h, h = (i + j) / 2 := ⟨_, rfl⟩
      have hil : (i : Int) < (j : Int) := by omega
      have hmid : ((i : Int) + (j : Int)) / 2 = (h : Int) := by omega
      have hhl : h < l.length := by omega
      have hih : i ≤ h := by omega
      have hhj : h < j := by omega
      obtain ⟨b, off, x, rfl, hB, hx, x0, x1, x2⟩ := hs.at_ hhl
      have hxn := hk x (List.mem_of_getElem? hx)
      have d0 := (bcell hbw hB _).trans x0
      have d1 := (bcell hbw hB _).trans x1
      have d2 := (bcell hbw hB _).trans x2
      have HPl := Lib.hid (fun w => feedcmp2_any x c hxn hc w)
      have HCm : Hid (cmpF l c h = x.car - c) := by unfold Hid cmpF; rw [getF_at hx]
      have hkm : (h : Int) < (l.length : Int) := by omega
      have HM : Hid (∀ i j, i ≤ j → j < l.length → cmpF l c j < 0 → cmpF l c i < 0) := hm
      have HH := Lib.hid (show _ ∧ _ from ⟨hh, hhl⟩)
      have hbz := hbw.size
      clear hs hk hx x0 x1 x2 hxn hc hm hh
      generalize x.car - c = z at HPl HCm
      by_cases hz : z < 0
      · have hzd : decide (z < 0) = true := decide_eq_true hz
        have HLo2 : Hid (∀ y, y < h + 1 → cmpF l c y < 0) := fun y hy => HM.out y h (by omega) HH.out.2 (by rw [HCm.out]; exact hz)
        clear hz HCm HM HLo
        go_wp2_with (go_at_call 116; refine (HPl.out _).mono ?_; rintro e w' ⟨rfl, hb1⟩)
        go_roundw
        case rel => exact ⟨h + 1, j, _, by omega, hj, by go_num, rfl, rfl, HLo2, HHi, hbw.trans (hb1.mono hbz)⟩
        case measure => simp [intOf]; omega
      · have hzd : decide (z < 0) = false := decide_eq_false hz
        have HHi2 : Hid (∀ y, h ≤ y → y < l.length → 0 ≤ cmpF l c y) := fun y hy hyl => by
          rcases Int.lt_or_le (cmpF l c y) 0 with hneg | hge
          · have := HM.out h y hy hyl hneg
            rw [HCm.out] at this; exact absurd this hz
          · exact hge
        clear hz HCm HM HHi
        go_wp2_with (go_at_call 116; refine (HPl.out _).mono ?_; rintro e w' ⟨rfl, hb1⟩)
        go_roundw
        case rel => exact ⟨i, h, _, hih, by omega, rfl, rfl, rfl, HLo, HHi2, hbw.trans (hb1.mono hbz)⟩
        case measure => simp [intOf]; omega
    · obtain rfl : i = j := by omega
      have hil : decide ((i : Int) < (i : Int)) = false := decide_eq_false (by omega)
      by_cases hin : i < l.length
      case neg =>
        have hind : decide ((i : Int) < (l.length : Int)) = false := decide_eq_false (by omega)
        have HF : Hid (Found (cmpF l c) l.length i false) := ⟨hj, HLo.out, HHi.out, by rw [decide_eq_false hin]; rfl⟩
        clear hs hk hc hm HLo HHi
        go_wp2
        go_ret2
        exact ⟨i, false, rfl, HF.out, hbw⟩
      case pos =>
        obtain ⟨b, off, x, rfl, hB, hx, x0, x1, x2⟩ := hs.at_ hin
        have hxn := hk x (List.mem_of_getElem? hx)
        have d0 := (bcell hbw hB _).trans x0
        have d1 := (bcell hbw hB _).trans x1
        have d2 := (bcell hbw hB _).trans x2
        have HPl := Lib.hid (fun w => feedcmp2_any x c hxn hc w)
        have HF : Hid (Found (cmpF l c) l.length i (x.car - c == 0)) := ⟨hj, HLo.out, HHi.out, by
          unfold cmpF; rw [decide_eq_true hin, getF_at hx, Bool.true_and, Bool.eq_iff_iff]; simp⟩
        have hkm : (i : Int) < (l.length : Int) := by omega
        have hind : decide ((i : Int) < (l.length : Int)) = true := decide_eq_true (by omega)
        have hbz := hbw.size
        clear hs hk hx x0 x1 x2 hxn hc hm HLo HHi
        generalize x.car - c = z at HPl HF
        cases hq : (z == 0) with
        | false =>
          rw [hq] at HF
          go_wp2_with (go_at_call 116; refine (HPl.out _).mono ?_; rintro e w' ⟨rfl, hb1⟩)
          go_ret2
          exact ⟨i, _, rfl, HF.out, hbw.trans (hb1.mono hbz)⟩
        | true =>
          rw [hq] at HF
          go_wp2_with (go_at_call 116; refine (HPl.out _).mono ?_; rintro e w' ⟨rfl, hb1⟩)
          go_ret2
          exact ⟨i, _, rfl, HF.out, hbw.trans (hb1.mono hbz)⟩
end Go.Proofs.YtbnddpknejgmhaaGreat
namespace Go.Proofs.YtbnddpknejgmhaaGreat
open Go.RowKit Go.Shelf

/-- Whatever cells lay, but those of block B0, lie as they lay. -/
def KC (B0 : Nat) (W W' : World) : Prop := W.heap.size ≤ W'.heap.size ∧ ∀ k cs t f, k ≠ B0 → W.heap[k]? = some (.cells cs t f) → W'.heap[k]? = some (.cells cs t f)
theorem KC.refl (B0 : Nat) (W : World) : KC B0 W W := ⟨Nat.le_refl _, fun _ _ _ _ _ h => h⟩
theorem KC.trans {B0 : Nat} {A B C : World} (h : KC B0 A B) (k : KC B0 B C) : KC B0 A C := ⟨Nat.le_trans h.1 k.1, fun i cs t f hi hc => k.2 i cs t f hi (h.2 i cs t f hi hc)⟩
theorem KC.of_below {B0 : Nat} {A B : World} (h : Below A.heap.size A B) : KC B0 A B := ⟨h.size, fun i _ _ _ _ hc => (h.block i (Array.getElem?_eq_some_iff.1 hc).1).trans hc⟩
theorem KC.put {B0 : Nat} (W : World) (l : Nat) (o o' : Obj) (h : W.heap[l]? = some o) (ho : o.isCells = false) : KC B0 W (W.putObj l o') := by
  refine ⟨by simp, fun i cs t f _ hc => ?_⟩
  have hne : i ≠ l := by
    rintro rfl
    rw [hc] at h; cases h; cases ho
  rw [World.putObj_heap_other hne]; exact hc
theorem KC.set_ {B0 : Nat} (W : World) (o : Nat) (v : Value) : KC B0 W (W.setCell ⟨B0, o, none⟩ v) :=
  ⟨by simp [World.setCell], fun i _ _ _ hi hc => (Below.heap_setCell W ⟨B0, o, none⟩ v i hi).trans hc⟩
theorem KC.drew {B0 : Nat} {A B : World} (h : KC B0 A B) : KC B0 A B.drew := h
theorem KC.cell {B0 : Nat} {A B : World} (h : KC B0 A B) {b o : Nat} {v : Value} (hb : b ≠ B0) (hc : A.cell? ⟨b, o, none⟩ = some v) : B.cell? ⟨b, o, none⟩ = some v := by
  unfold World.cell? at hc ⊢
  cases hk : A.heap[b]? with
  | none => simp [hk] at hc
  | some ob =>
    cases ob with
    | cells cs t f => rw [h.2 b cs t f hb hk]; rw [hk] at hc; exact hc
    | _ => simp [hk] at hc
theorem KC.own {B0 : Nat} {A B : World} (h : KC B0 A B) {B' : Nat} {e : TypeId} {size n : Nat} {v : Value} {xs : List Value} (hb : v.ownBlock ≠ some B0) (ho : A.ownsRow B' e size v n xs) : B.ownsRow B' e size v n xs := by
  refine ⟨ho.1, ho.2.imp id ?_⟩
  rintro ⟨g, cap, cur, rfl, hg, hh, r⟩
  exact ⟨g, cap, cur, rfl, hg, h.2 g _ _ _ (fun e => hb (by rw [← e]; rfl)) hh, r⟩
theorem KC.sl {B0 : Nat} {A B : World} (h : KC B0 A B) {n : Nat} (hn : n ≤ B0) {a : Option Addr} {zs : List Int} (hs : SlI A n a zs) : SlI B n a zs := fun hz => by
  obtain ⟨b, off, e, hB, hc⟩ := hs hz
  exact ⟨b, off, e, hB, fun j z hj => h.cell (by omega) (hc j z hj)⟩
theorem KC.rows {B0 : Nat} {A B : World} (h : KC B0 A B) {n : Nat} (hn : n ≤ B0) {a : Option Addr} {p : List (List Int)} (hs : SlRows A n a p) : SlRows B n a p := fun hz => by
  obtain ⟨b, off, e, hB, hc⟩ := hs hz
  refine ⟨b, off, e, hB, fun j row hj => ?_⟩
  obtain ⟨A', C', h1, h2, h3⟩ := hc j row hj
  exact ⟨A', C', h.cell (by omega) h1, h2, h.sl hn h3⟩
/-- What lay below a block at or ahead of the heap's end: no block of it is turned. -/
theorem grownN_of_below {W W' : World} {B : Nat} (h : Below B W W') (hB : W.heap.size ≤ B) : W.grownBy W' none := ⟨h.os, h.tape, h.output, h.size, fun k hk _ => h.block k (by omega)⟩
theorem AbidesFrom.below {β : Type} {B : Nat} {J : β → World → Prop} (h : AbidesFrom B J) {s : β} {W W' : World} (hs : J s W) (hb : Below W.heap.size W W') : J s W' :=
  h s W W' none hs (grownN_of_below hb (Nat.le_refl _)) (fun r e => by cases e)
theorem cell_new_l (W : World) (v : Value) (t : TypeId) : (W.alloc (.cells #[v] t)).cell? ⟨W.heap.size, 0, none⟩ = some v ∧ (W.alloc (.cells #[v] t)).frozen? ⟨W.heap.size, 0, none⟩ = false := by
  have h := Boxed.new W t v
  exact ⟨h.cell, h.frozen⟩
theorem cell_alloc_l {W : World} {a : Addr} {v : Value} (o : Obj) (h : W.cell? a = some v) : (W.alloc o).cell? a = some v := cell_kept h (World.grownBy_alloc W o none) (fun r e => by cases e)
theorem frozen_alloc_l {W : World} {a : Addr} {v : Value} (o : Obj) (h : W.cell? a = some v) (hf : W.frozen? a = false) : (W.alloc o).frozen? a = false := (frozen_kept h (World.grownBy_alloc W o none) (fun r e => by cases e)).trans hf
/-- A call that any fence lets: at the wide fence. -/
theorem wide_calls {n : Nat} {P : Program} {f : FuncId} {args : Array Value} {w : World} {R : Ending → World → Prop} (h : Calls P f args w R) : CallsIn Fence.wide n P f args w R := callsIn_wide.2 h
end Go.Proofs.YtbnddpknejgmhaaGreat
