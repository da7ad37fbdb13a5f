/- Layer 30: place, rising. Layer 30: BinarySearchFunc over needles. Layer 30: rising over carriers. Layer 30: BinarySearchFunc over carriers; a carrier found. -/
import Derived.Test.YthedmiilkeclaaaGreatKPa
import Derived.Deep.RegionHeld3
import Derived.BigQuiet
namespace Go.Proofs.YthedmiilkeclaaaGreat
open Go.RowKit
set_option maxRecDepth 100000

/-- What a needle's and a carrier's numbers are bound by. -/
def Hk.near (h : Hk) : Prop := 0 ≤ h.bed ∧ h.bed ≤ 1 ∧ -100 ≤ h.at_ ∧ h.at_ ≤ 100
def placeI (a b : Hk) : Int := if a.bed = b.bed then a.at_ - b.at_ else a.bed - b.bed
theorem place_lt (a b : Hk) : decide (0 ≤ placeI a b) = !ltH a b := by
  unfold placeI ltH
  rw [Bool.eq_iff_iff]
  simp only [decide_eq_true_eq, Bool.not_eq_true', decide_eq_false_iff_not]
  split <;> omega
set_option maxHeartbeats 1000000 in
theorem place_any (a b : Hk) (ha : a.near) (hb : b.near) (va vb : Value) (w : World) :
    Calls Tryz.prog 53 #[.agg #[.int .u8 a.bed, .int .i64 a.at_, va], .agg #[.int .u8 b.bed, .int .i64 b.at_, vb]] w fun e w' => e = .returned (.int .i64 (placeI a b)) ∧ Below w.heap.size w w' := by
  have hbl := Lib.hid (fun o o2 => ((Below.refl w.heap.size w).alloc (Nat.le_refl _) o).alloc (by simp) o2)
  unfold Hk.near at ha hb
  have hw1 : IntKind.i64.wrap (a.at_ - b.at_) = a.at_ - b.at_ := IntWalk.i64_in _ (by omega)
  have hw2 : IntKind.i64.wrap (a.bed - b.bed) = a.bed - b.bed := IntWalk.i64_in _ (by omega)
  have hw3 : IntKind.i64.wrap a.bed = a.bed := IntWalk.i64_in _ (by omega)
  have hw4 : IntKind.i64.wrap b.bed = b.bed := IntWalk.i64_in _ (by omega)
  by_cases h : a.bed = b.bed
  · have HF : Hid (placeI a b = a.at_ - b.at_) := by unfold Hid placeI; rw [if_pos h]
    have e1 : (a.bed != b.bed) = false := by simp [h]
    have e2 : (a.bed == b.bed) = true := by simp [h]
    clear h ha hb
    go_enter Tryz.func53, Tryz.ntmps53
    go_wp2
    go_ret
    exact ⟨ret_int HF.out.symm, hbl.out _ _⟩
  · have HF : Hid (placeI a b = a.bed - b.bed) := by unfold Hid placeI; rw [if_neg h]
    have e1 : (a.bed != b.bed) = true := by simp [h]
    have e2 : (a.bed == b.bed) = false := by simp [h]
    clear h ha hb
    go_enter Tryz.func53, Tryz.ntmps53
    go_wp2
    go_ret
    exact ⟨ret_int HF.out.symm, hbl.out _ _⟩
set_option maxHeartbeats 1000000 in
theorem feedcmp_any (a b : Fd) (ha : carP a.car) (hb : carP b.car) (w : World) :
    Calls Tryz.prog 55 #[.agg #[.int .i64 a.car, .bool a.fresh, .int .i64 a.place], .agg #[.int .i64 b.car, .bool b.fresh, .int .i64 b.place]] w fun e w' => e = .returned (.int .i64 (a.car - b.car)) ∧ Below w.heap.size w w' := by
  have hbl := Lib.hid (fun o o2 => ((Below.refl w.heap.size w).alloc (Nat.le_refl _) o).alloc (by simp) o2)
  unfold carP at ha hb
  have hw1 : IntKind.i64.wrap (a.car - b.car) = a.car - b.car := IntWalk.i64_in _ (by omega)
  go_enter Tryz.func55, Tryz.ntmps55
  go_wp2
  go_ret
  exact ⟨rfl, hbl.out _ _⟩
theorem keep6 {W0 W W' : World} {b o1 o2 o3 o4 o5 o6 : Nat} {v1 v2 v3 v4 v5 v6 : Value} (h : W.cell? ⟨b, o1, none⟩ = some v1 ∧ W.cell? ⟨b, o2, none⟩ = some v2 ∧ W.cell? ⟨b, o3, none⟩ = some v3 ∧ W.cell? ⟨b, o4, none⟩ = some v4 ∧ W.cell? ⟨b, o5, none⟩ = some v5 ∧ W.cell? ⟨b, o6, none⟩ = some v6 ∧ Below W0.heap.size W0 W) (hb : Below W.heap.size W W') :
    W'.cell? ⟨b, o1, none⟩ = some v1 ∧ W'.cell? ⟨b, o2, none⟩ = some v2 ∧ W'.cell? ⟨b, o3, none⟩ = some v3 ∧ W'.cell? ⟨b, o4, none⟩ = some v4 ∧ W'.cell? ⟨b, o5, none⟩ = some v5 ∧ W'.cell? ⟨b, o6, none⟩ = some v6 ∧ Below W0.heap.size W0 W' := by
  obtain ⟨h1, h2, h3, h4, h5, h6, h7⟩ := h
  have hl := lt_of_cell h1
  exact ⟨(bcell hb hl _).trans h1, (bcell hb hl _).trans h2, (bcell hb hl _).trans h3, (bcell hb hl _).trans h4, (bcell hb hl _).trans h5, (bcell hb hl _).trans h6, h7.trans (hb.mono h7.size)⟩
/-- The first k elements rise. -/
theorem ris_snoc {α : Type} {lt : α → α → Bool} : ∀ {l : List α} {p x : α}, risB lt (l ++ [p]) = true → risB lt (l ++ [p, x]) = lt p x
  | [], p, x, _ => by simp [risB]
  | [a], p, x, h => by
    simp only [List.cons_append, List.nil_append, risB, Bool.and_true] at h ⊢
    rw [h, Bool.true_and]
  | a :: b :: t, p, x, h => by
    simp only [List.cons_append, risB, Bool.and_eq_true] at h ⊢
    have := ris_snoc (l := b :: t) (p := p) (x := x) h.2
    simp only [List.cons_append] at this
    rw [h.1, Bool.true_and, this]
theorem ris_take {α : Type} {lt : α → α → Bool} {l : List α} {k : Nat} {p x : α} (hp : l[k]? = some p) (hx : l[k + 1]? = some x) (h : risB lt (l.take (k + 1)) = true) : risB lt (l.take (k + 2)) = lt p x := by
  obtain ⟨h1, e1⟩ := List.getElem?_eq_some_iff.1 hp
  obtain ⟨h2, e2⟩ := List.getElem?_eq_some_iff.1 hx
  have t1 : l.take (k + 1) = l.take k ++ [p] := by rw [List.take_succ_eq_append_getElem h1, e1]
  have t2 : l.take (k + 2) = l.take k ++ [p, x] := by
    rw [List.take_succ_eq_append_getElem (i := k + 1) h2, e2, t1, List.append_assoc]; rfl
  rw [t1] at h
  rw [t2]
  exact ris_snoc h
theorem ris_pre {α : Type} {lt : α → α → Bool} : ∀ {l : List α} {k : Nat}, risB lt l = true → risB lt (l.take k) = true
  | [], k, _ => by simp [risB]
  | [a], 0, _ => rfl
  | [a], k + 1, _ => by simp [risB]
  | a :: b :: t, 0, _ => rfl
  | a :: b :: t, 1, _ => rfl
  | a :: b :: t, k + 2, h => by
    simp only [risB, Bool.and_eq_true, List.take_succ_cons] at h ⊢
    have := ris_pre (l := b :: t) (k := k + 1) h.2
    rw [List.take_succ_cons] at this
    exact ⟨h.1, this⟩
theorem ris_not {α : Type} {lt : α → α → Bool} {l : List α} {k : Nat} (h : risB lt (l.take k) = false) : risB lt l = false := by
  cases hr : risB lt l with
  | false => rfl
  | true => rw [ris_pre hr] at h; cases h
set_option maxHeartbeats 4000000 in
theorem risingH_any (A : Option Addr) (c : Nat) (l : List Hk) (hn : l.length ≤ 1000000) (hk : ∀ h ∈ l, h.near) (w : World) (hs : SlHk w w.heap.size A l) :
    Calls Tryz.prog 52 #[.slice A l.length c, .func (.func 53) #[] #[]] w fun e w' => e = .returned (.bool (risB ltH l)) ∧ Below w.heap.size w w' := by
  go_enter Tryz.func52, Tryz.ntmps52
  go_wp2
  go_loopw [5] (fun s5 wr => ∃ k : Nat, s5 = .int .i64 ((k + 1 : Nat) : Int) ∧ k ≤ l.length ∧ Hid (risB ltH (l.take (k + 1)) = true) ∧ Below w.heap.size w wr) (fun s5 _ => l.length - (intOf s5).toNat)
  case atStart =>
    refine ⟨0, rfl, Nat.zero_le _, ?_, Below.refl _ _⟩
    cases l with
    | nil => rfl
    | cons a t => rfl
  case round =>
    obtain ⟨k, rfl, hkl, H, hbw⟩ := hrel
    by_cases hlt : k + 1 < l.length
    · obtain ⟨b, off, p, A1, C1, rfl, hB, hp, p0, p1, p2, _, _⟩ := hs.at_ (k := k) (by omega)
      obtain ⟨b', off', x, A2, C2, e', hB', hx, x0, x1, x2, _, _⟩ := hs.at_ (k := k + 1) hlt
      cases e'
      have hpn := hk p (List.mem_of_getElem? hp)
      have hxn := hk x (List.mem_of_getElem? hx)
      have HR := Lib.hid (ris_take (lt := ltH) hp hx H.out)
      have HPl := Lib.hid (fun w => place_any p x hpn hxn (.slice A1 p.loops.length C1) (.slice A2 x.loops.length C2) w)
      have HLt := Lib.hid (place_lt p x)
      have HS0 : Hid (wr.cell? ⟨b, off + k * 3, none⟩ = some (.int .u8 p.bed) ∧ wr.cell? ⟨b, off + k * 3 + 1, none⟩ = some (.int .i64 p.at_) ∧ wr.cell? ⟨b, off + k * 3 + 2, none⟩ = some (.slice A1 p.loops.length C1) ∧ wr.cell? ⟨b, off + (k + 1) * 3, none⟩ = some (.int .u8 x.bed) ∧ wr.cell? ⟨b, off + (k + 1) * 3 + 1, none⟩ = some (.int .i64 x.at_) ∧ wr.cell? ⟨b, off + (k + 1) * 3 + 2, none⟩ = some (.slice A2 x.loops.length C2) ∧ Below wr.heap.size wr wr) :=
        ⟨(bcell hbw hB _).trans p0, (bcell hbw hB _).trans p1, (bcell hbw hB _).trans p2, (bcell hbw hB _).trans x0, (bcell hbw hB _).trans x1, (bcell hbw hB _).trans x2, Below.refl _ _⟩
      have hw1 : IntKind.i64.wrap (((k + 1 : Nat) : Int) - 1) = (k : Int) := by rw [show ((k + 1 : Nat) : Int) - 1 = (k : Int) by omega]; exact IntWalk.i64_in _ (by omega)
      have hkm : (k : Int) < (l.length : Int) := by omega
      have hk0 : (0 : Int) ≤ (k : Int) := by omega
      have hk1 : (0 : Int) ≤ (k : Int) + 1 := by omega
      have hkm1 : (k : Int) + 1 < (l.length : Int) := by omega
      have hw2 : IntKind.i64.wrap ((k : Int) + 1 - 1) = (k : Int) := by rw [show (k : Int) + 1 - 1 = (k : Int) by omega]; exact IntWalk.i64_in _ (by omega)
      have hw3 : IntKind.i64.wrap (k : Int) = (k : Int) := IntWalk.i64_in _ (by omega)
      have htn : ((k : Int) + 1).toNat = k + 1 := by omega
      have hkd : decide (((k + 1 : Nat) : Int) < (l.length : Int)) = true := decide_eq_true (by omega)
      clear hs hk hp hx p0 p1 p2 x0 x1 x2 hpn hxn H
      generalize placeI p x = z at HPl HLt
      cases hq : ltH p x with
      | true =>
        rw [hq] at HR HLt
        have hz : decide (0 ≤ z) = false := HLt.out
        have HR2 : Hid (risB ltH (l.take (k + 1 + 1)) = true) := HR.out
        clear hq HR HLt
        go_wp2
        go_region_held3 (fun WW => WW.cell? ⟨b, off + k * 3, none⟩ = some (.int .u8 p.bed) ∧ WW.cell? ⟨b, off + k * 3 + 1, none⟩ = some (.int .i64 p.at_) ∧ WW.cell? ⟨b, off + k * 3 + 2, none⟩ = some (.slice A1 p.loops.length C1) ∧ WW.cell? ⟨b, off + (k + 1) * 3, none⟩ = some (.int .u8 x.bed) ∧ WW.cell? ⟨b, off + (k + 1) * 3 + 1, none⟩ = some (.int .i64 x.at_) ∧ WW.cell? ⟨b, off + (k + 1) * 3 + 2, none⟩ = some (.slice A2 x.loops.length C2) ∧ Below wr.heap.size wr WW)
          (first | exact keep6 HS0.out (Below.drew (Below.refl _ _)) | exact keep6 (by assumption) (by assumption))
          (first | (go_at_call 53; refine (HPl.out _).mono ?_; rintro e w' ⟨rfl, hb1⟩))
        rename_i hS1
        have hB1 := hbw.trans (hS1.2.2.2.2.2.2.mono hbw.size)
        clear hS1 HS0
        go_wp2
        go_roundw
        case rel => exact ⟨k + 1, by go_num, by omega, HR2, hB1⟩
        case measure => simp [intOf]; omega
      | false =>
        rw [hq] at HR HLt
        have hz : decide (0 ≤ z) = true := HLt.out
        have HF : Hid (risB ltH l = false) := ris_not HR.out
        clear hq HR HLt
        go_wp2
        go_region_held3 (fun WW => WW.cell? ⟨b, off + k * 3, none⟩ = some (.int .u8 p.bed) ∧ WW.cell? ⟨b, off + k * 3 + 1, none⟩ = some (.int .i64 p.at_) ∧ WW.cell? ⟨b, off + k * 3 + 2, none⟩ = some (.slice A1 p.loops.length C1) ∧ WW.cell? ⟨b, off + (k + 1) * 3, none⟩ = some (.int .u8 x.bed) ∧ WW.cell? ⟨b, off + (k + 1) * 3 + 1, none⟩ = some (.int .i64 x.at_) ∧ WW.cell? ⟨b, off + (k + 1) * 3 + 2, none⟩ = some (.slice A2 x.loops.length C2) ∧ Below wr.heap.size wr WW)
          (first | exact keep6 HS0.out (Below.drew (Below.refl _ _)) | exact keep6 (by assumption) (by assumption))
          (first | (go_at_call 53; refine (HPl.out _).mono ?_; rintro e w' ⟨rfl, hb1⟩))
        rename_i hS1
        have HB1 := Lib.hid (hbw.trans (hS1.2.2.2.2.2.2.mono hbw.size))
        clear hS1 HS0
        go_wp2
        go_ret
        exact ⟨ret_bool HF.out.symm, HB1.out⟩
    · have HF : Hid (risB ltH l = true) := by have h := H.out; rwa [List.take_of_length_le (by omega)] at h
      have hkd : decide (((k + 1 : Nat) : Int) < (l.length : Int)) = false := decide_eq_false (by omega)
      clear hs hk H
      go_wp2
      go_ret
      exact ⟨ret_bool HF.out.symm, hbw⟩
end Go.Proofs.YthedmiilkeclaaaGreat
namespace Go.Proofs.YthedmiilkeclaaaGreat
open Go.RowKit
set_option maxRecDepth 100000

theorem keep33 {W0 W W' : World} {b b2 o1 o2 o3 o4 o5 o6 : Nat} {v1 v2 v3 v4 v5 v6 : Value} (h : W.cell? ⟨b, o1, none⟩ = some v1 ∧ W.cell? ⟨b, o2, none⟩ = some v2 ∧ W.cell? ⟨b, o3, none⟩ = some v3 ∧ W.cell? ⟨b2, o4, none⟩ = some v4 ∧ W.cell? ⟨b2, o5, none⟩ = some v5 ∧ W.cell? ⟨b2, o6, none⟩ = some v6 ∧ Below W0.heap.size W0 W) (hb : Below W.heap.size W W') :
    W'.cell? ⟨b, o1, none⟩ = some v1 ∧ W'.cell? ⟨b, o2, none⟩ = some v2 ∧ W'.cell? ⟨b, o3, none⟩ = some v3 ∧ W'.cell? ⟨b2, o4, none⟩ = some v4 ∧ W'.cell? ⟨b2, o5, none⟩ = some v5 ∧ W'.cell? ⟨b2, o6, none⟩ = some v6 ∧ Below W0.heap.size W0 W' := by
  obtain ⟨h1, h2, h3, h4, h5, h6, h7⟩ := h
  have hl := lt_of_cell h1
  have hl2 := lt_of_cell h4
  exact ⟨(bcell hb hl _).trans h1, (bcell hb hl _).trans h2, (bcell hb hl _).trans h3, (bcell hb hl2 _).trans h4, (bcell hb hl2 _).trans h5, (bcell hb hl2 _).trans h6, h7.trans (hb.mono h7.size)⟩
/-- What a binary search finds: the number of the elements that lie before the target. -/
structure Found (f : Nat → Int) (n i : Nat) (q : Bool) : Prop where
  le : i ≤ n
  lo : ∀ j, j < i → f j < 0
  hi : ∀ j, i ≤ j → j < n → 0 ≤ f j
  is : q = (decide (i < n) && decide (f i = 0))
def defH : Hk := ⟨0, 0, []⟩
def cmpH (l : List Hk) (t : Hk) (j : Nat) : Int := placeI (l.getD j defH) t
theorem getD_at {l : List Hk} {j : Nat} {h : Hk} (hr : l[j]? = some h) : l.getD j defH = h := by rw [List.getD, hr]; rfl
set_option maxHeartbeats 4000000 in
theorem bsH_any (A : Option Addr) (c : Nat) (l : List Hk) (hn : l.length ≤ 10000) (hk : ∀ h ∈ l, h.near) (t : Hk) (ht : t.near) (vt : Value) (hm : ∀ i j, i ≤ j → j < l.length → cmpH l t j < 0 → cmpH l t i < 0) (w : World) (hs : SlHk w w.heap.size A l) :
    Calls Tryz.prog 119 #[.slice A l.length c, .agg #[.int .u8 t.bed, .int .i64 t.at_, vt], .func (.func 53) #[] #[]] w fun e w' => ∃ (i : Nat) (q : Bool), e = .returned (.tuple #[.int .i64 (i : Int), .bool q]) ∧ Found (cmpH l t) l.length i q ∧ Below w.heap.size w w' := by
  go_enter Tryz.func119, Tryz.ntmps119
  go_wp2
  have HAl := Lib.hid ((Below.refl w.heap.size w).alloc (Nat.le_refl _) (.cells #[.int .u8 t.bed, .int .i64 t.at_, vt] 92))
  have HT : Hid (∀ W, Below (w.heap.size + 1) (w.alloc (.cells #[.int .u8 t.bed, .int .i64 t.at_, vt] 92)) W → W.cell? ⟨w.heap.size, 0, none⟩ = some (.int .u8 t.bed) ∧ W.cell? ⟨w.heap.size, 1, none⟩ = some (.int .i64 t.at_) ∧ W.cell? ⟨w.heap.size, 2, none⟩ = some vt) := fun W hb =>
    ⟨(bcell hb (by omega) _).trans (cell_new rfl rfl rfl), (bcell hb (by omega) _).trans (cell_new rfl rfl rfl), (bcell hb (by omega) _).trans (cell_new rfl rfl rfl)⟩
  go_loopw [9, 10, 11] (fun s9 s10 s11 wr => ∃ (i j : Nat) (v11 : Value), i ≤ j ∧ j ≤ l.length ∧ s9 = .int .i64 (i : Int) ∧ s10 = .int .i64 (j : Int) ∧ v11 = s11 ∧ Hid (∀ x, x < i → cmpH l t x < 0) ∧ Hid (∀ x, j ≤ x → x < l.length → 0 ≤ cmpH l t x) ∧ Below (w.heap.size + 1) (w.alloc (.cells #[.int .u8 t.bed, .int .i64 t.at_, vt] 92)) wr) (fun s9 s10 _ _ => (intOf s10).toNat - (intOf s9).toNat)
  case atStart => exact ⟨0, l.length, _, Nat.zero_le _, Nat.le_refl _, rfl, rfl, rfl, (fun x hx => absurd hx (Nat.not_lt_zero x)), (fun x hx hx2 => by omega), Below.refl _ _⟩
  case round =>
    obtain ⟨i, j, v11, hij, hj, rfl, rfl, rfl, HLo, HHi, hbw⟩ := hrel
    have hbww : Below w.heap.size w wr := HAl.out.trans (hbw.mono (by omega))
    by_cases hlt : i < j
    · obtain ⟨h, hh⟩ : ∃ h, h = (i + j) / 2 := ⟨_, rfl⟩
      have hil : (i : Int) < (j : Int) := by omega
      have hmid : ((i : Int) + (j : Int)) / 2 = (h : Int) := by omega
      have hhl : h < l.length := by omega
      have hih : i ≤ h := by omega
      have hhj : h < j := by omega
      obtain ⟨b, off, x, A1, C1, rfl, hB, hx, x0, x1, x2, _, _⟩ := hs.at_ hhl
      obtain ⟨t0, t1, t2⟩ := HT.out wr hbw
      have hxn := hk x (List.mem_of_getElem? hx)
      have HS0 : Hid (wr.cell? ⟨b, off + h * 3, none⟩ = some (.int .u8 x.bed) ∧ wr.cell? ⟨b, off + h * 3 + 1, none⟩ = some (.int .i64 x.at_) ∧ wr.cell? ⟨b, off + h * 3 + 2, none⟩ = some (.slice A1 x.loops.length C1) ∧ wr.cell? ⟨w.heap.size, 0, none⟩ = some (.int .u8 t.bed) ∧ wr.cell? ⟨w.heap.size, 1, none⟩ = some (.int .i64 t.at_) ∧ wr.cell? ⟨w.heap.size, 2, none⟩ = some vt ∧ Below wr.heap.size wr wr) :=
        ⟨(bcell hbww hB _).trans x0, (bcell hbww hB _).trans x1, (bcell hbww hB _).trans x2, t0, t1, t2, Below.refl _ _⟩
      have HPl := Lib.hid (fun w => place_any x t hxn ht (.slice A1 x.loops.length C1) vt w)
      have HCm : Hid (cmpH l t h = placeI x t) := by unfold Hid cmpH; rw [getD_at hx]
      have hkm : (h : Int) < (l.length : Int) := by omega
      have hk0 : (0 : Int) ≤ (h : Int) := by omega
      have HM : Hid (∀ i j, i ≤ j → j < l.length → cmpH l t j < 0 → cmpH l t i < 0) := hm
      have HH := Lib.hid (show _ ∧ _ from ⟨hh, hhl⟩)
      have hsz := lt_of_cell t0
      clear hs hk hx x0 x1 x2 hxn ht t0 t1 t2 hm hh
      generalize placeI x t = z at HPl HCm
      by_cases hz : z < 0
      · have hzd : decide (z < 0) = true := decide_eq_true hz
        have HLo2 : Hid (∀ y, y < h + 1 → cmpH l t y < 0) := fun y hy => HM.out y h (by omega) HH.out.2 (by rw [HCm.out]; exact hz)
        clear hz HCm HM HLo
        go_upto_region 5 with fail
        go_region_held3 (fun WW => WW.cell? ⟨b, off + h * 3, none⟩ = some (.int .u8 x.bed) ∧ WW.cell? ⟨b, off + h * 3 + 1, none⟩ = some (.int .i64 x.at_) ∧ WW.cell? ⟨b, off + h * 3 + 2, none⟩ = some (.slice A1 x.loops.length C1) ∧ WW.cell? ⟨w.heap.size, 0, none⟩ = some (.int .u8 t.bed) ∧ WW.cell? ⟨w.heap.size, 1, none⟩ = some (.int .i64 t.at_) ∧ WW.cell? ⟨w.heap.size, 2, none⟩ = some vt ∧ Below wr.heap.size wr WW)
          (first | exact keep33 HS0.out (Below.drew (Below.refl _ _)) | exact keep33 (by assumption) (by assumption))
          (first | (go_at_call 53; refine (HPl.out _).mono ?_; rintro e w' ⟨rfl, hb1⟩))
        rename_i hS1
        have hB1 := hbw.trans (hS1.2.2.2.2.2.2.mono (by omega))
        clear hS1 HS0
        go_wp2
        go_roundw
        case rel => exact ⟨h + 1, j, _, by omega, hj, by go_num, rfl, rfl, HLo2, HHi, hB1⟩
        case measure => simp [intOf]; omega
      · have hzd : decide (z < 0) = false := decide_eq_false hz
        have HHi2 : Hid (∀ y, h ≤ y → y < l.length → 0 ≤ cmpH l t y) := fun y hy hyl => by
          rcases Int.lt_or_le (cmpH l t y) 0 with hneg | hge
          · have := HM.out h y hy hyl hneg
            rw [HCm.out] at this; exact absurd this hz
          · exact hge
        clear hz HCm HM HHi
        go_upto_region 5 with fail
        go_region_held3 (fun WW => WW.cell? ⟨b, off + h * 3, none⟩ = some (.int .u8 x.bed) ∧ WW.cell? ⟨b, off + h * 3 + 1, none⟩ = some (.int .i64 x.at_) ∧ WW.cell? ⟨b, off + h * 3 + 2, none⟩ = some (.slice A1 x.loops.length C1) ∧ WW.cell? ⟨w.heap.size, 0, none⟩ = some (.int .u8 t.bed) ∧ WW.cell? ⟨w.heap.size, 1, none⟩ = some (.int .i64 t.at_) ∧ WW.cell? ⟨w.heap.size, 2, none⟩ = some vt ∧ Below wr.heap.size wr WW)
          (first | exact keep33 HS0.out (Below.drew (Below.refl _ _)) | exact keep33 (by assumption) (by assumption))
          (first | (go_at_call 53; refine (HPl.out _).mono ?_; rintro e w' ⟨rfl, hb1⟩))
        rename_i hS1
        have hB1 := hbw.trans (hS1.2.2.2.2.2.2.mono (by omega))
        clear hS1 HS0
        go_wp2
        go_roundw
        case rel => exact ⟨i, h, _, hih, by omega, rfl, rfl, rfl, HLo, HHi2, hB1⟩
        case measure => simp [intOf]; omega
    · obtain rfl : i = j := by omega
      have hil : decide ((i : Int) < (i : Int)) = false := decide_eq_false (by omega)
      by_cases hin : i < l.length
      case neg =>
        have hind : decide ((i : Int) < (l.length : Int)) = false := decide_eq_false (by omega)
        have HF : Hid (Found (cmpH l t) l.length i false) := ⟨hj, HLo.out, HHi.out, by rw [decide_eq_false hin]; rfl⟩
        clear hs hk ht hm HLo HHi
        go_wp2
        go_quiet (fail)
        go_wp2
        go_ret2
        exact ⟨i, false, rfl, HF.out, below_drewN hbww _⟩
      case pos =>
        obtain ⟨b, off, x, A1, C1, rfl, hB, hx, x0, x1, x2, _, _⟩ := hs.at_ hin
        obtain ⟨t0, t1, t2⟩ := HT.out wr hbw
        have hxn := hk x (List.mem_of_getElem? hx)
        have HS0 : Hid (wr.cell? ⟨b, off + i * 3, none⟩ = some (.int .u8 x.bed) ∧ wr.cell? ⟨b, off + i * 3 + 1, none⟩ = some (.int .i64 x.at_) ∧ wr.cell? ⟨b, off + i * 3 + 2, none⟩ = some (.slice A1 x.loops.length C1) ∧ wr.cell? ⟨w.heap.size, 0, none⟩ = some (.int .u8 t.bed) ∧ wr.cell? ⟨w.heap.size, 1, none⟩ = some (.int .i64 t.at_) ∧ wr.cell? ⟨w.heap.size, 2, none⟩ = some vt ∧ Below wr.heap.size wr wr) :=
          ⟨(bcell hbww hB _).trans x0, (bcell hbww hB _).trans x1, (bcell hbww hB _).trans x2, t0, t1, t2, Below.refl _ _⟩
        have HPl := Lib.hid (fun w => place_any x t hxn ht (.slice A1 x.loops.length C1) vt w)
        have HF : Hid (Found (cmpH l t) l.length i (placeI x t == 0)) := ⟨hj, HLo.out, HHi.out, by
          unfold cmpH; rw [decide_eq_true hin, getD_at hx, Bool.true_and, Bool.eq_iff_iff]; simp⟩
        have hkm : (i : Int) < (l.length : Int) := by omega
        have hk0 : (0 : Int) ≤ (i : Int) := by omega
        have hind : decide ((i : Int) < (l.length : Int)) = true := decide_eq_true (by omega)
        have HB := Lib.hid hbww
        have hsz := lt_of_cell t0
        clear hs hk hx x0 x1 x2 hxn ht t0 t1 t2 hm HLo HHi
        generalize placeI x t = z at HPl HF
        go_upto_region 8 with fail
        go_region_held3 (fun WW => WW.cell? ⟨b, off + i * 3, none⟩ = some (.int .u8 x.bed) ∧ WW.cell? ⟨b, off + i * 3 + 1, none⟩ = some (.int .i64 x.at_) ∧ WW.cell? ⟨b, off + i * 3 + 2, none⟩ = some (.slice A1 x.loops.length C1) ∧ WW.cell? ⟨w.heap.size, 0, none⟩ = some (.int .u8 t.bed) ∧ WW.cell? ⟨w.heap.size, 1, none⟩ = some (.int .i64 t.at_) ∧ WW.cell? ⟨w.heap.size, 2, none⟩ = some vt ∧ Below wr.heap.size wr WW)
          (first | exact keep33 HS0.out (Below.drew (Below.refl _ _)) | exact keep33 (by assumption) (by assumption))
          (first | (go_at_call 53; refine (HPl.out _).mono ?_; rintro e w' ⟨rfl, hb1⟩))
        rename_i hS1
        have HB1 := Lib.hid (HB.out.trans (hS1.2.2.2.2.2.2.mono HB.out.size))
        clear hS1 HS0
        go_wp2
        go_ret2
        exact ⟨i, _, rfl, HF.out, HB1.out⟩
end Go.Proofs.YthedmiilkeclaaaGreat
namespace Go.Proofs.YthedmiilkeclaaaGreat
open Go.RowKit
set_option maxRecDepth 100000

theorem feed_lt (a b : Fd) : decide (0 ≤ a.car - b.car) = !ltF a b := by
  unfold ltF
  rw [Bool.eq_iff_iff]
  simp only [decide_eq_true_eq, Bool.not_eq_true', decide_eq_false_iff_not]
  omega
set_option maxHeartbeats 4000000 in
theorem risingF_any (A : Option Addr) (c : Nat) (l : List Fd) (hn : l.length ≤ 1000000) (hk : ∀ h ∈ l, carP h.car) (w : World) (hs : SlF w w.heap.size A l) :
    Calls Tryz.prog 54 #[.slice A l.length c, .func (.func 55) #[] #[]] w fun e w' => e = .returned (.bool (risB ltF l)) ∧ Below w.heap.size w w' := by
  go_enter Tryz.func54, Tryz.ntmps54
  go_wp2
  go_loopw [5] (fun s5 wr => ∃ k : Nat, s5 = .int .i64 ((k + 1 : Nat) : Int) ∧ k ≤ l.length ∧ Hid (risB ltF (l.take (k + 1)) = true) ∧ Below w.heap.size w wr) (fun s5 _ => l.length - (intOf s5).toNat)
  case atStart =>
    refine ⟨0, rfl, Nat.zero_le _, ?_, Below.refl _ _⟩
    cases l with
    | nil => rfl
    | cons a t => rfl
  case round =>
    obtain ⟨k, rfl, hkl, H, hbw⟩ := hrel
    by_cases hlt : k + 1 < l.length
    · obtain ⟨b, off, p, rfl, hB, hp, p0, p1, p2⟩ := hs.at_ (k := k) (by omega)
      obtain ⟨b', off', x, e', hB', hx, x0, x1, x2⟩ := hs.at_ (k := k + 1) hlt
      cases e'
      have hpn := hk p (List.mem_of_getElem? hp)
      have hxn := hk x (List.mem_of_getElem? hx)
      have HR := Lib.hid (ris_take (lt := ltF) hp hx H.out)
      have HPl := Lib.hid (fun w => feedcmp_any p x hpn hxn w)
      have HLt := Lib.hid (feed_lt p x)
      have HS0 : Hid (wr.cell? ⟨b, off + k * 3, none⟩ = some (.int .i64 p.car) ∧ wr.cell? ⟨b, off + k * 3 + 1, none⟩ = some (.bool p.fresh) ∧ wr.cell? ⟨b, off + k * 3 + 2, none⟩ = some (.int .i64 p.place) ∧ wr.cell? ⟨b, off + (k + 1) * 3, none⟩ = some (.int .i64 x.car) ∧ wr.cell? ⟨b, off + (k + 1) * 3 + 1, none⟩ = some (.bool x.fresh) ∧ wr.cell? ⟨b, off + (k + 1) * 3 + 2, none⟩ = some (.int .i64 x.place) ∧ Below wr.heap.size wr wr) :=
        ⟨(bcell hbw hB _).trans p0, (bcell hbw hB _).trans p1, (bcell hbw hB _).trans p2, (bcell hbw hB _).trans x0, (bcell hbw hB _).trans x1, (bcell hbw hB _).trans x2, Below.refl _ _⟩
      have hw1 : IntKind.i64.wrap (((k + 1 : Nat) : Int) - 1) = (k : Int) := by rw [show ((k + 1 : Nat) : Int) - 1 = (k : Int) by omega]; exact IntWalk.i64_in _ (by omega)
      have hkm : (k : Int) < (l.length : Int) := by omega
      have hk0 : (0 : Int) ≤ (k : Int) := by omega
      have hk1 : (0 : Int) ≤ (k : Int) + 1 := by omega
      have hkm1 : (k : Int) + 1 < (l.length : Int) := by omega
      have hw2 : IntKind.i64.wrap ((k : Int) + 1 - 1) = (k : Int) := by rw [show (k : Int) + 1 - 1 = (k : Int) by omega]; exact IntWalk.i64_in _ (by omega)
      have hw3 : IntKind.i64.wrap (k : Int) = (k : Int) := IntWalk.i64_in _ (by omega)
      have htn : ((k : Int) + 1).toNat = k + 1 := by omega
      have hkd : decide (((k + 1 : Nat) : Int) < (l.length : Int)) = true := decide_eq_true (by omega)
      clear hs hk hp hx p0 p1 p2 x0 x1 x2 hpn hxn H
      generalize p.car - x.car = z at HPl HLt
      cases hq : ltF p x with
      | true =>
        rw [hq] at HR HLt
        have hz : decide (0 ≤ z) = false := HLt.out
        have HR2 : Hid (risB ltF (l.take (k + 1 + 1)) = true) := HR.out
        clear hq HR HLt
        go_wp2
        go_region_held3 (fun WW => WW.cell? ⟨b, off + k * 3, none⟩ = some (.int .i64 p.car) ∧ WW.cell? ⟨b, off + k * 3 + 1, none⟩ = some (.bool p.fresh) ∧ WW.cell? ⟨b, off + k * 3 + 2, none⟩ = some (.int .i64 p.place) ∧ WW.cell? ⟨b, off + (k + 1) * 3, none⟩ = some (.int .i64 x.car) ∧ WW.cell? ⟨b, off + (k + 1) * 3 + 1, none⟩ = some (.bool x.fresh) ∧ WW.cell? ⟨b, off + (k + 1) * 3 + 2, none⟩ = some (.int .i64 x.place) ∧ Below wr.heap.size wr WW)
          (first | exact keep6 HS0.out (Below.drew (Below.refl _ _)) | exact keep6 (by assumption) (by assumption))
          (first | (go_at_call 55; refine (HPl.out _).mono ?_; rintro e w' ⟨rfl, hb1⟩))
        rename_i hS1
        have hB1 := hbw.trans (hS1.2.2.2.2.2.2.mono hbw.size)
        clear hS1 HS0
        go_wp2
        go_roundw
        case rel => exact ⟨k + 1, by go_num, by omega, HR2, hB1⟩
        case measure => simp [intOf]; omega
      | false =>
        rw [hq] at HR HLt
        have hz : decide (0 ≤ z) = true := HLt.out
        have HF : Hid (risB ltF l = false) := ris_not HR.out
        clear hq HR HLt
        go_wp2
        go_region_held3 (fun WW => WW.cell? ⟨b, off + k * 3, none⟩ = some (.int .i64 p.car) ∧ WW.cell? ⟨b, off + k * 3 + 1, none⟩ = some (.bool p.fresh) ∧ WW.cell? ⟨b, off + k * 3 + 2, none⟩ = some (.int .i64 p.place) ∧ WW.cell? ⟨b, off + (k + 1) * 3, none⟩ = some (.int .i64 x.car) ∧ WW.cell? ⟨b, off + (k + 1) * 3 + 1, none⟩ = some (.bool x.fresh) ∧ WW.cell? ⟨b, off + (k + 1) * 3 + 2, none⟩ = some (.int .i64 x.place) ∧ Below wr.heap.size wr WW)
          (first | exact keep6 HS0.out (Below.drew (Below.refl _ _)) | exact keep6 (by assumption) (by assumption))
          (first | (go_at_call 55; refine (HPl.out _).mono ?_; rintro e w' ⟨rfl, hb1⟩))
        rename_i hS1
        have HB1 := Lib.hid (hbw.trans (hS1.2.2.2.2.2.2.mono hbw.size))
        clear hS1 HS0
        go_wp2
        go_ret
        exact ⟨ret_bool HF.out.symm, HB1.out⟩
    · have HF : Hid (risB ltF l = true) := by have h := H.out; rwa [List.take_of_length_le (by omega)] at h
      have hkd : decide (((k + 1 : Nat) : Int) < (l.length : Int)) = false := decide_eq_false (by omega)
      clear hs hk H
      go_wp2
      go_ret
      exact ⟨ret_bool HF.out.symm, hbw⟩
end Go.Proofs.YthedmiilkeclaaaGreat
namespace Go.Proofs.YthedmiilkeclaaaGreat
open Go.RowKit
set_option maxRecDepth 100000

def defF : Fd := ⟨0, false, 0⟩
def cmpF (l : List Fd) (c : Int) (j : Nat) : Int := (l.getD j defF).car - c
theorem getF_at {l : List Fd} {j : Nat} {h : Fd} (hr : l[j]? = some h) : l.getD j defF = h := by rw [List.getD, hr]; rfl
set_option maxHeartbeats 1000000 in
theorem feedcmp2_any (a : Fd) (c : Int) (ha : carP a.car) (hc : carP c) (w : World) :
    Calls Tryz.prog 102 #[.agg #[.int .i64 a.car, .bool a.fresh, .int .i64 a.place], .int .i64 c] w fun e w' => e = .returned (.int .i64 (a.car - c)) ∧ Below w.heap.size w w' := by
  have hbl := Lib.hid (fun o => (Below.refl w.heap.size w).alloc (Nat.le_refl _) o)
  unfold carP at ha hc
  have hw1 : IntKind.i64.wrap (a.car - c) = a.car - c := IntWalk.i64_in _ (by omega)
  go_enter Tryz.func102, Tryz.ntmps102
  go_wp2
  go_ret
  exact ⟨rfl, hbl.out _⟩
set_option maxHeartbeats 4000000 in
theorem bsF_any (A : Option Addr) (cp : Nat) (l : List Fd) (hn : l.length ≤ 10000) (hk : ∀ h ∈ l, carP h.car) (c : Int) (hc : carP c) (hm : ∀ i j, i ≤ j → j < l.length → cmpF l c j < 0 → cmpF l c i < 0) (w : World) (hs : SlF w w.heap.size A l) :
    Calls Tryz.prog 101 #[.slice A l.length cp, .int .i64 c, .func (.func 102) #[] #[]] w fun e w' => ∃ (i : Nat) (q : Bool), e = .returned (.tuple #[.int .i64 (i : Int), .bool q]) ∧ Found (cmpF l c) l.length i q ∧ Below w.heap.size w w' := by
  go_enter Tryz.func101, Tryz.ntmps101
  go_wp2
  go_loopw [9, 10, 11] (fun s9 s10 s11 wr => ∃ (i j : Nat) (v11 : Value), i ≤ j ∧ j ≤ l.length ∧ s9 = .int .i64 (i : Int) ∧ s10 = .int .i64 (j : Int) ∧ v11 = s11 ∧ Hid (∀ x, x < i → cmpF l c x < 0) ∧ Hid (∀ x, j ≤ x → x < l.length → 0 ≤ cmpF l c x) ∧ Below w.heap.size w wr) (fun s9 s10 _ _ => (intOf s10).toNat - (intOf s9).toNat)
  case atStart => exact ⟨0, l.length, _, Nat.zero_le _, Nat.le_refl _, rfl, rfl, rfl, (fun x hx => absurd hx (Nat.not_lt_zero x)), (fun x hx hx2 => by omega), Below.refl _ _⟩
  case round =>
    obtain ⟨i, j, v11, hij, hj, rfl, rfl, rfl, HLo, HHi, hbw⟩ := hrel
    by_cases hlt : i < j
    · obtain ⟨h, hh⟩ : ∃ h, h = (i + j) / 2 := ⟨_, rfl⟩
      have hil : (i : Int) < (j : Int) := by omega
      have hmid : ((i : Int) + (j : Int)) / 2 = (h : Int) := by omega
      have hhl : h < l.length := by omega
      have hih : i ≤ h := by omega
      have hhj : h < j := by omega
      obtain ⟨b, off, x, rfl, hB, hx, x0, x1, x2⟩ := hs.at_ hhl
      have hxn := hk x (List.mem_of_getElem? hx)
      have d0 := (bcell hbw hB _).trans x0
      have d1 := (bcell hbw hB _).trans x1
      have d2 := (bcell hbw hB _).trans x2
      have HPl := Lib.hid (fun w => feedcmp2_any x c hxn hc w)
      have HCm : Hid (cmpF l c h = x.car - c) := by unfold Hid cmpF; rw [getF_at hx]
      have hkm : (h : Int) < (l.length : Int) := by omega
      have HM : Hid (∀ i j, i ≤ j → j < l.length → cmpF l c j < 0 → cmpF l c i < 0) := hm
      have HH := Lib.hid (show _ ∧ _ from ⟨hh, hhl⟩)
      have hbz := hbw.size
      clear hs hk hx x0 x1 x2 hxn hc hm hh
      generalize x.car - c = z at HPl HCm
      by_cases hz : z < 0
      · have hzd : decide (z < 0) = true := decide_eq_true hz
        have HLo2 : Hid (∀ y, y < h + 1 → cmpF l c y < 0) := fun y hy => HM.out y h (by omega) HH.out.2 (by rw [HCm.out]; exact hz)
        clear hz HCm HM HLo
        go_wp2_with (go_at_call 102; refine (HPl.out _).mono ?_; rintro e w' ⟨rfl, hb1⟩)
        go_roundw
        case rel => exact ⟨h + 1, j, _, by omega, hj, by go_num, rfl, rfl, HLo2, HHi, hbw.trans (hb1.mono hbz)⟩
        case measure => simp [intOf]; omega
      · have hzd : decide (z < 0) = false := decide_eq_false hz
        have HHi2 : Hid (∀ y, h ≤ y → y < l.length → 0 ≤ cmpF l c y) := fun y hy hyl => by
          rcases Int.lt_or_le (cmpF l c y) 0 with hneg | hge
          · have := HM.out h y hy hyl hneg
            rw [HCm.out] at this; exact absurd this hz
          · exact hge
        clear hz HCm HM HHi
        go_wp2_with (go_at_call 102; refine (HPl.out _).mono ?_; rintro e w' ⟨rfl, hb1⟩)
        go_roundw
        case rel => exact ⟨i, h, _, hih, by omega, rfl, rfl, rfl, HLo, HHi2, hbw.trans (hb1.mono hbz)⟩
        case measure => simp [intOf]; omega
    · obtain rfl : i = j := by omega
      have hil : decide ((i : Int) < (i : Int)) = false := decide_eq_false (by omega)
      by_cases hin : i < l.length
      case neg =>
        have hind : decide ((i : Int) < (l.length : Int)) = false := decide_eq_false (by omega)
        have HF : Hid (Found (cmpF l c) l.length i false) := ⟨hj, HLo.out, HHi.out, by rw [decide_eq_false hin]; rfl⟩
        clear hs hk hc hm HLo HHi
        go_wp2
        go_ret2
        exact ⟨i, false, rfl, HF.out, hbw⟩
      case pos =>
        obtain ⟨b, off, x, rfl, hB, hx, x0, x1, x2⟩ := hs.at_ hin
        have hxn := hk x (List.mem_of_getElem? hx)
        have d0 := (bcell hbw hB _).trans x0
        have d1 := (bcell hbw hB _).trans x1
        have d2 := (bcell hbw hB _).trans x2
        have HPl := Lib.hid (fun w => feedcmp2_any x c hxn hc w)
        have HF : Hid (Found (cmpF l c) l.length i (x.car - c == 0)) := ⟨hj, HLo.out, HHi.out, by
          unfold cmpF; rw [decide_eq_true hin, getF_at hx, Bool.true_and, Bool.eq_iff_iff]; simp⟩
        have hkm : (i : Int) < (l.length : Int) := by omega
        have hind : decide ((i : Int) < (l.length : Int)) = true := decide_eq_true (by omega)
        have hbz := hbw.size
        clear hs hk hx x0 x1 x2 hxn hc hm HLo HHi
        generalize x.car - c = z at HPl HF
        cases hq : (z == 0) with
        | false =>
          rw [hq] at HF
          go_wp2_with (go_at_call 102; refine (HPl.out _).mono ?_; rintro e w' ⟨rfl, hb1⟩)
          go_ret2
          exact ⟨i, _, rfl, HF.out, hbw.trans (hb1.mono hbz)⟩
        | true =>
          rw [hq] at HF
          go_wp2_with (go_at_call 102; refine (HPl.out _).mono ?_; rintro e w' ⟨rfl, hb1⟩)
          go_ret2
          exact ⟨i, _, rfl, HF.out, hbw.trans (hb1.mono hbz)⟩
end Go.Proofs.YthedmiilkeclaaaGreat
