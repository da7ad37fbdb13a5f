/- Layer 30: BinarySearchFunc over needles. -/
import Derived.Test.YtjoglkamhjcmhaaRise
import Derived.BigQuiet
namespace Go.Proofs.Ytjoglkamhjcmhaa
open Go.RowKit
set_option maxRecDepth 100000

theorem keep33 {W0 W W' : World} {b b2 o1 o2 o3 o4 o5 o6 : Nat} {v1 v2 v3 v4 v5 v6 : Value} (h : W.cell? ⟨b, o1, none⟩ = some v1 ∧ W.cell? ⟨b, o2, none⟩ = some v2 ∧ W.cell? ⟨b, o3, none⟩ = some v3 ∧ W.cell? ⟨b2, o4, none⟩ = some v4 ∧ W.cell? ⟨b2, o5, none⟩ = some v5 ∧ W.cell? ⟨b2, o6, none⟩ = some v6 ∧ Below W0.heap.size W0 W) (hb : Below W.heap.size W W') :
    W'.cell? ⟨b, o1, none⟩ = some v1 ∧ W'.cell? ⟨b, o2, none⟩ = some v2 ∧ W'.cell? ⟨b, o3, none⟩ = some v3 ∧ W'.cell? ⟨b2, o4, none⟩ = some v4 ∧ W'.cell? ⟨b2, o5, none⟩ = some v5 ∧ W'.cell? ⟨b2, o6, none⟩ = some v6 ∧ Below W0.heap.size W0 W' := by
  obtain ⟨h1, h2, h3, h4, h5, h6, h7⟩ := h
  have hl := lt_of_cell h1
  have hl2 := lt_of_cell h4
  exact ⟨(bcell hb hl _).trans h1, (bcell hb hl _).trans h2, (bcell hb hl _).trans h3, (bcell hb hl2 _).trans h4, (bcell hb hl2 _).trans h5, (bcell hb hl2 _).trans h6, h7.trans (hb.mono h7.size)⟩
/-- What a binary search finds: the number of the elements that lie before the target. -/
structure Found (f : Nat → Int) (n i : Nat) (q : Bool) : Prop where
  le : i ≤ n
  lo : ∀ j, j < i → f j < 0
  hi : ∀ j, i ≤ j → j < n → 0 ≤ f j
  is : q = (decide (i < n) && decide (f i = 0))
def defH : Hk := ⟨0, 0, []⟩
def cmpH (l : List Hk) (t : Hk) (j : Nat) : Int := placeI (l.getD j defH) t
theorem getD_at {l : List Hk} {j : Nat} {h : Hk} (hr : l[j]? = some h) : l.getD j defH = h := by rw [List.getD, hr]; rfl
set_option maxHeartbeats 4000000 in
theorem bsH_any (A : Option Addr) (c : Nat) (l : List Hk) (hn : l.length ≤ 10000) (hk : ∀ h ∈ l, h.near) (t : Hk) (ht : t.near) (vt : Value) (hm : ∀ i j, i ≤ j → j < l.length → cmpH l t j < 0 → cmpH l t i < 0) (w : World) (hs : SlHk w w.heap.size A l) :
    Calls Try.prog 70 #[.slice A l.length c, .agg #[.int .u8 t.bed, .int .i64 t.at_, vt], .func (.func 46) #[] #[]] w fun e w' => ∃ (i : Nat) (q : Bool), e = .returned (.tuple #[.int .i64 (i : Int), .bool q]) ∧ Found (cmpH l t) l.length i q ∧ Below w.heap.size w w' := by
  go_enter Try.func70, Try.ntmps70
  go_wp2
  have HAl := Lib.hid ((Below.refl w.heap.size w).alloc (Nat.le_refl _) (.cells #[.int .u8 t.bed, .int .i64 t.at_, vt] 67))
  have HT : Hid (∀ W, Below (w.heap.size + 1) (w.alloc (.cells #[.int .u8 t.bed, .int .i64 t.at_, vt] 67)) W → W.cell? ⟨w.heap.size, 0, none⟩ = some (.int .u8 t.bed) ∧ W.cell? ⟨w.heap.size, 1, none⟩ = some (.int .i64 t.at_) ∧ W.cell? ⟨w.heap.size, 2, none⟩ = some vt) := fun W hb =>
    ⟨(bcell hb (by omega) _).trans (cell_new rfl rfl rfl), (bcell hb (by omega) _).trans (cell_new rfl rfl rfl), (bcell hb (by omega) _).trans (cell_new rfl rfl rfl)⟩
  go_loopw [9, 10, 11] (fun s9 s10 s11 wr => ∃ (i j : Nat) (v11 : Value), i ≤ j ∧ j ≤ l.length ∧ s9 = .int .i64 (i : Int) ∧ s10 = .int .i64 (j : Int) ∧ v11 = s11 ∧ Hid (∀ x, x < i → cmpH l t x < 0) ∧ Hid (∀ x, j ≤ x → x < l.length → 0 ≤ cmpH l t x) ∧ Below (w.heap.size + 1) (w.alloc (.cells #[.int .u8 t.bed, .int .i64 t.at_, vt] 67)) wr) (fun s9 s10 _ _ => (intOf s10).toNat - (intOf s9).toNat)
  case atStart => exact ⟨0, l.length, _, Nat.zero_le _, Nat.le_refl _, rfl, rfl, rfl, (fun x hx => absurd hx (Nat.not_lt_zero x)), (fun x hx hx2 => by omega), Below.refl _ _⟩
  case round =>
    obtain ⟨i, j, v11, hij, hj, rfl, rfl, rfl, HLo, HHi, hbw⟩ := hrel
    have hbww : Below w.heap.size w wr := HAl.out.trans (hbw.mono (by omega))
    by_cases hlt : i < j
    · obtain ⟨h, hh⟩ : ∃ h, h = (i + j) / 2 := ⟨_, rfl⟩
      have hil : (i : Int) < (j : Int) := by omega
      have hmid : ((i : Int) + (j : Int)) / 2 = (h : Int) := by omega
      have hhl : h < l.length := by omega
      have hih : i ≤ h := by omega
      have hhj : h < j := by omega
      obtain ⟨b, off, x, A1, C1, rfl, hB, hx, x0, x1, x2, _, _⟩ := hs.at_ hhl
      obtain ⟨t0, t1, t2⟩ := HT.out wr hbw
      have hxn := hk x (List.mem_of_getElem? hx)
      have HS0 : Hid (wr.cell? ⟨b, off + h * 3, none⟩ = some (.int .u8 x.bed) ∧ wr.cell? ⟨b, off + h * 3 + 1, none⟩ = some (.int .i64 x.at_) ∧ wr.cell? ⟨b, off + h * 3 + 2, none⟩ = some (.slice A1 x.loops.length C1) ∧ wr.cell? ⟨w.heap.size, 0, none⟩ = some (.int .u8 t.bed) ∧ wr.cell? ⟨w.heap.size, 1, none⟩ = some (.int .i64 t.at_) ∧ wr.cell? ⟨w.heap.size, 2, none⟩ = some vt ∧ Below wr.heap.size wr wr) :=
        ⟨(bcell hbww hB _).trans x0, (bcell hbww hB _).trans x1, (bcell hbww hB _).trans x2, t0, t1, t2, Below.refl _ _⟩
      have HPl := Lib.hid (fun w => place_any x t hxn ht (.slice A1 x.loops.length C1) vt w)
      have HCm : Hid (cmpH l t h = placeI x t) := by unfold Hid cmpH; rw [getD_at hx]
      have hkm : (h : Int) < (l.length : Int) := by omega
      have hk0 : (0 : Int) ≤ (h : Int) := by omega
      have HM : Hid (∀ i j, i ≤ j → j < l.length → cmpH l t j < 0 → cmpH l t i < 0) := hm
      have HH := Lib.hid (show _ ∧ _ from ⟨hh, hhl⟩)
      have hsz := lt_of_cell t0
      clear hs hk hx x0 x1 x2 hxn ht t0 t1 t2 hm hh
      generalize placeI x t = z at HPl HCm
      by_cases hz : z < 0
      · have hzd : decide (z < 0) = true := decide_eq_true hz
        have HLo2 : Hid (∀ y, y < h + 1 → cmpH l t y < 0) := fun y hy => HM.out y h (by omega) HH.out.2 (by rw [HCm.out]; exact hz)
        clear hz HCm HM HLo
        go_upto_region 5 with fail
        go_region_held3 (fun WW => WW.cell? ⟨b, off + h * 3, none⟩ = some (.int .u8 x.bed) ∧ WW.cell? ⟨b, off + h * 3 + 1, none⟩ = some (.int .i64 x.at_) ∧ WW.cell? ⟨b, off + h * 3 + 2, none⟩ = some (.slice A1 x.loops.length C1) ∧ WW.cell? ⟨w.heap.size, 0, none⟩ = some (.int .u8 t.bed) ∧ WW.cell? ⟨w.heap.size, 1, none⟩ = some (.int .i64 t.at_) ∧ WW.cell? ⟨w.heap.size, 2, none⟩ = some vt ∧ Below wr.heap.size wr WW)
          (first | exact keep33 HS0.out (Below.drew (Below.refl _ _)) | exact keep33 (by assumption) (by assumption))
          (first | (go_at_call 46; refine (HPl.out _).mono ?_; rintro e w' ⟨rfl, hb1⟩))
        rename_i hS1
        have hB1 := hbw.trans (hS1.2.2.2.2.2.2.mono (by omega))
        clear hS1 HS0
        go_wp2
        go_roundw
        case rel => exact ⟨h + 1, j, _, by omega, hj, by go_num, rfl, rfl, HLo2, HHi, hB1⟩
        case measure => simp [intOf]; omega
      · have hzd : decide (z < 0) = false := decide_eq_false hz
        have HHi2 : Hid (∀ y, h ≤ y → y < l.length → 0 ≤ cmpH l t y) := fun y hy hyl => by
          rcases Int.lt_or_le (cmpH l t y) 0 with hneg | hge
          · have := HM.out h y hy hyl hneg
            rw [HCm.out] at this; exact absurd this hz
          · exact hge
        clear hz HCm HM HHi
        go_upto_region 5 with fail
        go_region_held3 (fun WW => WW.cell? ⟨b, off + h * 3, none⟩ = some (.int .u8 x.bed) ∧ WW.cell? ⟨b, off + h * 3 + 1, none⟩ = some (.int .i64 x.at_) ∧ WW.cell? ⟨b, off + h * 3 + 2, none⟩ = some (.slice A1 x.loops.length C1) ∧ WW.cell? ⟨w.heap.size, 0, none⟩ = some (.int .u8 t.bed) ∧ WW.cell? ⟨w.heap.size, 1, none⟩ = some (.int .i64 t.at_) ∧ WW.cell? ⟨w.heap.size, 2, none⟩ = some vt ∧ Below wr.heap.size wr WW)
          (first | exact keep33 HS0.out (Below.drew (Below.refl _ _)) | exact keep33 (by assumption) (by assumption))
          (first | (go_at_call 46; refine (HPl.out _).mono ?_; rintro e w' ⟨rfl, hb1⟩))
        rename_i hS1
        have hB1 := hbw.trans (hS1.2.2.2.2.2.2.mono (by omega))
        clear hS1 HS0
        go_wp2
        go_roundw
        case rel => exact ⟨i, h, _, hih, by omega, rfl, rfl, rfl, HLo, HHi2, hB1⟩
        case measure => simp [intOf]; omega
    · obtain rfl : i = j := by omega
      have hil : decide ((i : Int) < (i : Int)) = false := decide_eq_false (by omega)
      by_cases hin : i < l.length
      case neg =>
        have hind : decide ((i : Int) < (l.length : Int)) = false := decide_eq_false (by omega)
        have HF : Hid (Found (cmpH l t) l.length i false) := ⟨hj, HLo.out, HHi.out, by rw [decide_eq_false hin]; rfl⟩
        clear hs hk ht hm HLo HHi
        go_wp2
        go_quiet (fail)
        go_wp2
        go_ret2
        exact ⟨i, false, rfl, HF.out, below_drewN hbww _⟩
      case pos =>
        obtain ⟨b, off, x, A1, C1, rfl, hB, hx, x0, x1, x2, _, _⟩ := hs.at_ hin
        obtain ⟨t0, t1, t2⟩ := HT.out wr hbw
        have hxn := hk x (List.mem_of_getElem? hx)
        have HS0 : Hid (wr.cell? ⟨b, off + i * 3, none⟩ = some (.int .u8 x.bed) ∧ wr.cell? ⟨b, off + i * 3 + 1, none⟩ = some (.int .i64 x.at_) ∧ wr.cell? ⟨b, off + i * 3 + 2, none⟩ = some (.slice A1 x.loops.length C1) ∧ wr.cell? ⟨w.heap.size, 0, none⟩ = some (.int .u8 t.bed) ∧ wr.cell? ⟨w.heap.size, 1, none⟩ = some (.int .i64 t.at_) ∧ wr.cell? ⟨w.heap.size, 2, none⟩ = some vt ∧ Below wr.heap.size wr wr) :=
          ⟨(bcell hbww hB _).trans x0, (bcell hbww hB _).trans x1, (bcell hbww hB _).trans x2, t0, t1, t2, Below.refl _ _⟩
        have HPl := Lib.hid (fun w => place_any x t hxn ht (.slice A1 x.loops.length C1) vt w)
        have HF : Hid (Found (cmpH l t) l.length i (placeI x t == 0)) := ⟨hj, HLo.out, HHi.out, by
          unfold cmpH; rw [decide_eq_true hin, getD_at hx, Bool.true_and, Bool.eq_iff_iff]; simp⟩
        have hkm : (i : Int) < (l.length : Int) := by omega
        have hk0 : (0 : Int) ≤ (i : Int) := by omega
        have hind : decide ((i : Int) < (l.length : Int)) = true := decide_eq_true (by omega)
        have HB := Lib.hid hbww
        have hsz := lt_of_cell t0
        clear hs hk hx x0 x1 x2 hxn ht t0 t1 t2 hm HLo HHi
        generalize placeI x t = z at HPl HF
        go_upto_region 8 with fail
        go_region_held3 (fun WW => WW.cell? ⟨b, off + i * 3, none⟩ = some (.int .u8 x.bed) ∧ WW.cell? ⟨b, off + i * 3 + 1, none⟩ = some (.int .i64 x.at_) ∧ WW.cell? ⟨b, off + i * 3 + 2, none⟩ = some (.slice A1 x.loops.length C1) ∧ WW.cell? ⟨w.heap.size, 0, none⟩ = some (.int .u8 t.bed) ∧ WW.cell? ⟨w.heap.size, 1, none⟩ = some (.int .i64 t.at_) ∧ WW.cell? ⟨w.heap.size, 2, none⟩ = some vt ∧ Below wr.heap.size wr WW)
          (first | exact keep33 HS0.out (Below.drew (Below.refl _ _)) | exact keep33 (by assumption) (by assumption))
          (first | (go_at_call 46; refine (HPl.out _).mono ?_; rintro e w' ⟨rfl, hb1⟩))
        rename_i hS1
        have HB1 := Lib.hid (HB.out.trans (hS1.2.2.2.2.2.2.mono HB.out.size))
        clear hS1 HS0
        go_wp2
        go_ret2
        exact ⟨i, _, rfl, HF.out, HB1.out⟩
end Go.Proofs.Ytjoglkamhjcmhaa
