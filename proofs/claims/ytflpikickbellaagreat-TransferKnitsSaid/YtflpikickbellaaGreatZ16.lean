/- Layer 30. -/
import Derived.Test.YtflpikickbellaaGreatZ11
import Derived.Test.YtflpikickbellaaGreatZ15
namespace Go.Proofs.YtflpikickbellaaGreat
open Go.RowKit
set_option maxRecDepth 100000
def Hk.near (h : Hk) : Prop := 0 ≤ h.bed ∧ h.bed ≤ 1 ∧ -100 ≤ h.at_ ∧ h.at_ ≤ 100
def placeI (a b : Hk) : Int := if a.bed = b.bed then a.at_ - b.at_ else a.bed - b.bed
theorem place_lt (a b : Hk) : decide (0 ≤ placeI a b) = !ltH a b := by
 unfold placeI ltH
 rw [Bool.eq_iff_iff]
 simp only [decide_eq_true_eq, Bool.not_eq_true', decide_eq_false_iff_not]
 split <;> omega
set_option maxHeartbeats 1000000 in
theorem place_any (a b : Hk) (ha : a.near) (hb : b.near) (va vb : Value) (w : World) :
 Calls Tryz.prog 69 #[.agg #[.int .u8 a.bed, .int .i64 a.at_, va], .agg #[.int .u8 b.bed, .int .i64 b.at_, vb]] w fun e w' => e = .returned (.int .i64 (placeI a b)) ∧ Below w.heap.size w w' := by
 have hbl := Lib.hid (fun o o2 => ((Below.refl w.heap.size w).alloc (Nat.le_refl _) o).alloc (by simp) o2)
 unfold Hk.near at ha hb
 have hw1 : IntKind.i64.wrap (a.at_ - b.at_) = a.at_ - b.at_ := IntWalk.i64_in _ (by omega)
 have hw2 : IntKind.i64.wrap (a.bed - b.bed) = a.bed - b.bed := IntWalk.i64_in _ (by omega)
 have hw3 : IntKind.i64.wrap a.bed = a.bed := IntWalk.i64_in _ (by omega)
 have hw4 : IntKind.i64.wrap b.bed = b.bed := IntWalk.i64_in _ (by omega)
 by_cases h : a.bed = b.bed
 · have HF : Hid (placeI a b = a.at_ - b.at_) := by unfold Hid placeI; rw [if_pos h]
   have e1 : (a.bed != b.bed) = false := by simp [h]
   have e2 : (a.bed == b.bed) = true := by simp [h]
   clear h ha hb
   go_enter Tryz.func69, Tryz.ntmps69
   go_wp2
   go_ret
   exact ⟨ret_int HF.out.symm, hbl.out _ _⟩
 · have HF : Hid (placeI a b = a.bed - b.bed) := by unfold Hid placeI; rw [if_neg h]
   have e1 : (a.bed != b.bed) = true := by simp [h]
   have e2 : (a.bed == b.bed) = false := by simp [h]
   clear h ha hb
   go_enter Tryz.func69, Tryz.ntmps69
   go_wp2
   go_ret
   exact ⟨ret_int HF.out.symm, hbl.out _ _⟩
set_option maxHeartbeats 1000000 in
theorem feedcmp_any (a b : Fd) (ha : carP a.car) (hb : carP b.car) (w : World) :
 Calls Tryz.prog 71 #[.agg #[.int .i64 a.car, .bool a.fresh, .int .i64 a.place], .agg #[.int .i64 b.car, .bool b.fresh, .int .i64 b.place]] w fun e w' => e = .returned (.int .i64 (a.car - b.car)) ∧ Below w.heap.size w w' := by
 have hbl := Lib.hid (fun o o2 => ((Below.refl w.heap.size w).alloc (Nat.le_refl _) o).alloc (by simp) o2)
 unfold carP at ha hb
 have hw1 : IntKind.i64.wrap (a.car - b.car) = a.car - b.car := IntWalk.i64_in _ (by omega)
 go_enter Tryz.func71, Tryz.ntmps71
 go_wp2
 go_ret
 exact ⟨rfl, hbl.out _ _⟩
theorem keep6 {W0 W W' : World} {b o1 o2 o3 o4 o5 o6 : Nat} {v1 v2 v3 v4 v5 v6 : Value} (h : W.cell? ⟨b, o1, none⟩ = some v1 ∧ W.cell? ⟨b, o2, none⟩ = some v2 ∧ W.cell? ⟨b, o3, none⟩ = some v3 ∧ W.cell? ⟨b, o4, none⟩ = some v4 ∧ W.cell? ⟨b, o5, none⟩ = some v5 ∧ W.cell? ⟨b, o6, none⟩ = some v6 ∧ Below W0.heap.size W0 W) (hb : Below W.heap.size W W') :
 W'.cell? ⟨b, o1, none⟩ = some v1 ∧ W'.cell? ⟨b, o2, none⟩ = some v2 ∧ W'.cell? ⟨b, o3, none⟩ = some v3 ∧ W'.cell? ⟨b, o4, none⟩ = some v4 ∧ W'.cell? ⟨b, o5, none⟩ = some v5 ∧ W'.cell? ⟨b, o6, none⟩ = some v6 ∧ Below W0.heap.size W0 W' := by
 obtain ⟨h1, h2, h3, h4, h5, h6, h7⟩ := h
 have hl := lt_of_cell h1
 exact ⟨(bcell hb hl _).trans h1, (bcell hb hl _).trans h2, (bcell hb hl _).trans h3, (bcell hb hl _).trans h4, (bcell hb hl _).trans h5, (bcell hb hl _).trans h6, h7.trans (hb.mono h7.size)⟩
theorem ris_snoc {α : Type} {lt : α → α → Bool} : ∀ {l : List α} {p x : α}, risB lt (l ++ [p]) = true → risB lt (l ++ [p, x]) = lt p x
 | [], p, x, _ => by simp [risB]
 | [a], p, x, h => by
   simp only [List.cons_append, List.nil_append, risB, Bool.and_true] at h ⊢
   rw [h, Bool.true_and]
 | a :: b :: t, p, x, h => by
   simp only [List.cons_append, risB, Bool.and_eq_true] at h ⊢
   have := ris_snoc (l := b :: t) (p := p) (x := x) h.2
   simp only [List.cons_append] at this
   rw [h.1, Bool.true_and, this]
theorem ris_take {α : Type} {lt : α → α → Bool} {l : List α} {k : Nat} {p x : α} (hp : l[k]? = some p) (hx : l[k + 1]? = some x) (h : risB lt (l.take (k + 1)) = true) : risB lt (l.take (k + 2)) = lt p x := by
 obtain ⟨h1, e1⟩ := List.getElem?_eq_some_iff.1 hp
 obtain ⟨h2, e2⟩ := List.getElem?_eq_some_iff.1 hx
 have t1 : l.take (k + 1) = l.take k ++ [p] := by rw [List.take_succ_eq_append_getElem h1, e1]
 have t2 : l.take (k + 2) = l.take k ++ [p, x] := by
  rw [List.take_succ_eq_append_getElem (i := k + 1) h2, e2, t1, List.append_assoc]; rfl
 rw [t1] at h
 rw [t2]
 exact ris_snoc h
theorem ris_pre {α : Type} {lt : α → α → Bool} : ∀ {l : List α} {k : Nat}, risB lt l = true → risB lt (l.take k) = true
 | [], k, _ => by simp [risB]
 | [a], 0, _ => rfl
 | [a], k + 1, _ => by simp [risB]
 | a :: b :: t, 0, _ => rfl
 | a :: b :: t, 1, _ => rfl
 | a :: b :: t, k + 2, h => by
   simp only [risB, Bool.and_eq_true, List.take_succ_cons] at h ⊢
   have := ris_pre (l := b :: t) (k := k + 1) h.2
   rw [List.take_succ_cons] at this
   exact ⟨h.1, this⟩
theorem ris_not {α : Type} {lt : α → α → Bool} {l : List α} {k : Nat} (h : risB lt (l.take k) = false) : risB lt l = false := by
 cases hr : risB lt l with
 | false => rfl
 | true => rw [ris_pre hr] at h; cases h
set_option maxHeartbeats 4000000 in
theorem risingH_any (A : Option Addr) (c : Nat) (l : List Hk) (hn : l.length ≤ 1000000) (hk : ∀ h ∈ l, h.near) (w : World) (hs : SlHk w w.heap.size A l) :
 Calls Tryz.prog 68 #[.slice A l.length c, .func (.func 69) #[] #[]] w fun e w' => e = .returned (.bool (risB ltH l)) ∧ Below w.heap.size w w' := by
 go_enter Tryz.func68, Tryz.ntmps68
 go_wp2
 go_loopw [5] (fun s5 wr => ∃ k : Nat, s5 = .int .i64 ((k + 1 : Nat) : Int) ∧ k ≤ l.length ∧ Hid (risB ltH (l.take (k + 1)) = true) ∧ Below w.heap.size w wr) (fun s5 _ => l.length - (intOf s5).toNat)
 case atStart =>
  refine ⟨0, rfl, Nat.zero_le _, ?_, Below.refl _ _⟩
  cases l with
  | nil => rfl
  | cons a t => rfl
 case round =>
  obtain ⟨k, rfl, hkl, H, hbw⟩ := hrel
  by_cases hlt : k + 1 < l.length
  · obtain ⟨b, off, p, A1, C1, rfl, hB, hp, p0, p1, p2, _, _⟩ := hs.at_ (k := k) (by omega)
    obtain ⟨b', off', x, A2, C2, e', hB', hx, x0, x1, x2, _, _⟩ := hs.at_ (k := k + 1) hlt
    cases e'
    have hpn := hk p (List.mem_of_getElem? hp)
    have hxn := hk x (List.mem_of_getElem? hx)
    have HR := Lib.hid (ris_take (lt := ltH) hp hx H.out)
    have HPl := Lib.hid (fun w => place_any p x hpn hxn (.slice A1 p.loops.length C1) (.slice A2 x.loops.length C2) w)
    have HLt := Lib.hid (place_lt p x)
    have HS0 : Hid (wr.cell? ⟨b, off + k * 3, none⟩ = some (.int .u8 p.bed) ∧ wr.cell? ⟨b, off + k * 3 + 1, none⟩ = some (.int .i64 p.at_) ∧ wr.cell? ⟨b, off + k * 3 + 2, none⟩ = some (.slice A1 p.loops.length C1) ∧ wr.cell? ⟨b, off + (k + 1) * 3, none⟩ = some (.int .u8 x.bed) ∧ wr.cell? ⟨b, off + (k + 1) * 3 + 1, none⟩ = some (.int .i64 x.at_) ∧ wr.cell? ⟨b, off + (k + 1) * 3 + 2, none⟩ = some (.slice A2 x.loops.length C2) ∧ Below wr.heap.size wr wr) :=
     ⟨(bcell hbw hB _).trans p0, (bcell hbw hB _).trans p1, (bcell hbw hB _).trans p2, (bcell hbw hB _).trans x0, (bcell hbw hB _).trans x1, (bcell hbw hB _).trans x2, Below.refl _ _⟩
    have hw1 : IntKind.i64.wrap (((k + 1 : Nat) : Int) - 1) = (k : Int) := by rw [show ((k + 1 : Nat) : Int) - 1 = (k : Int) by omega]; exact IntWalk.i64_in _ (by omega)
    have hkm : (k : Int) < (l.length : Int) := by omega
    have hk0 : (0 : Int) ≤ (k : Int) := by omega
    have hk1 : (0 : Int) ≤ (k : Int) + 1 := by omega
    have hkm1 : (k : Int) + 1 < (l.length : Int) := by omega
    have hw2 : IntKind.i64.wrap ((k : Int) + 1 - 1) = (k : Int) := by rw [show (k : Int) + 1 - 1 = (k : Int) by omega]; exact IntWalk.i64_in _ (by omega)
    have hw3 : IntKind.i64.wrap (k : Int) = (k : Int) := IntWalk.i64_in _ (by omega)
    have htn : ((k : Int) + 1).toNat = k + 1 := by omega
    have hkd : decide (((k + 1 : Nat) : Int) < (l.length : Int)) = true := decide_eq_true (by omega)
    clear hs hk hp hx p0 p1 p2 x0 x1 x2 hpn hxn H
    generalize placeI p x = z at HPl HLt
    cases hq : ltH p x with
    | true =>
      rw [hq] at HR HLt
      have hz : decide (0 ≤ z) = false := HLt.out
      have HR2 : Hid (risB ltH (l.take (k + 1 + 1)) = true) := HR.out
      clear hq HR HLt
      go_wp2
      go_region_held3 (fun WW => WW.cell? ⟨b, off + k * 3, none⟩ = some (.int .u8 p.bed) ∧ WW.cell? ⟨b, off + k * 3 + 1, none⟩ = some (.int .i64 p.at_) ∧ WW.cell? ⟨b, off + k * 3 + 2, none⟩ = some (.slice A1 p.loops.length C1) ∧ WW.cell? ⟨b, off + (k + 1) * 3, none⟩ = some (.int .u8 x.bed) ∧ WW.cell? ⟨b, off + (k + 1) * 3 + 1, none⟩ = some (.int .i64 x.at_) ∧ WW.cell? ⟨b, off + (k + 1) * 3 + 2, none⟩ = some (.slice A2 x.loops.length C2) ∧ Below wr.heap.size wr WW)
       (first | exact keep6 HS0.out (Below.drew (Below.refl _ _)) | exact keep6 (by assumption) (by assumption))
       (first | (go_at_call 69; refine (HPl.out _).mono ?_; rintro e w' ⟨rfl, hb1⟩))
      rename_i hS1
      have hB1 := hbw.trans (hS1.2.2.2.2.2.2.mono hbw.size)
      clear hS1 HS0
      go_wp2
      go_roundw
      case rel => exact ⟨k + 1, by go_num, by omega, HR2, hB1⟩
      case measure => simp [intOf]; omega
    | false =>
      rw [hq] at HR HLt
      have hz : decide (0 ≤ z) = true := HLt.out
      have HF : Hid (risB ltH l = false) := ris_not HR.out
      clear hq HR HLt
      go_wp2
      go_region_held3 (fun WW => WW.cell? ⟨b, off + k * 3, none⟩ = some (.int .u8 p.bed) ∧ WW.cell? ⟨b, off + k * 3 + 1, none⟩ = some (.int .i64 p.at_) ∧ WW.cell? ⟨b, off + k * 3 + 2, none⟩ = some (.slice A1 p.loops.length C1) ∧ WW.cell? ⟨b, off + (k + 1) * 3, none⟩ = some (.int .u8 x.bed) ∧ WW.cell? ⟨b, off + (k + 1) * 3 + 1, none⟩ = some (.int .i64 x.at_) ∧ WW.cell? ⟨b, off + (k + 1) * 3 + 2, none⟩ = some (.slice A2 x.loops.length C2) ∧ Below wr.heap.size wr WW)
       (first | exact keep6 HS0.out (Below.drew (Below.refl _ _)) | exact keep6 (by assumption) (by assumption))
       (first | (go_at_call 69; refine (HPl.out _).mono ?_; rintro e w' ⟨rfl, hb1⟩))
      rename_i hS1
      have HB1 := Lib.hid (hbw.trans (hS1.2.2.2.2.2.2.mono hbw.size))
      clear hS1 HS0
      go_wp2
      go_ret
      exact ⟨ret_bool HF.out.symm, HB1.out⟩
  · have HF : Hid (risB ltH l = true) := by have h := H.out; rwa [List.take_of_length_le (by omega)] at h
    have hkd : decide (((k + 1 : Nat) : Int) < (l.length : Int)) = false := decide_eq_false (by omega)
    clear hs hk H
    go_wp2
    go_ret
    exact ⟨ret_bool HF.out.symm, hbw⟩
theorem keep33 {W0 W W' : World} {b b2 o1 o2 o3 o4 o5 o6 : Nat} {v1 v2 v3 v4 v5 v6 : Value} (h : W.cell? ⟨b, o1, none⟩ = some v1 ∧ W.cell? ⟨b, o2, none⟩ = some v2 ∧ W.cell? ⟨b, o3, none⟩ = some v3 ∧ W.cell? ⟨b2, o4, none⟩ = some v4 ∧ W.cell? ⟨b2, o5, none⟩ = some v5 ∧ W.cell? ⟨b2, o6, none⟩ = some v6 ∧ Below W0.heap.size W0 W) (hb : Below W.heap.size W W') :
 W'.cell? ⟨b, o1, none⟩ = some v1 ∧ W'.cell? ⟨b, o2, none⟩ = some v2 ∧ W'.cell? ⟨b, o3, none⟩ = some v3 ∧ W'.cell? ⟨b2, o4, none⟩ = some v4 ∧ W'.cell? ⟨b2, o5, none⟩ = some v5 ∧ W'.cell? ⟨b2, o6, none⟩ = some v6 ∧ Below W0.heap.size W0 W' := by
 obtain ⟨h1, h2, h3, h4, h5, h6, h7⟩ := h
 have hl := lt_of_cell h1
 have hl2 := lt_of_cell h4
 exact ⟨(bcell hb hl _).trans h1, (bcell hb hl _).trans h2, (bcell hb hl _).trans h3, (bcell hb hl2 _).trans h4, (bcell hb hl2 _).trans h5, (bcell hb hl2 _).trans h6, h7.trans (hb.mono h7.size)⟩
structure Found (f : Nat → Int) (n i : Nat) (q : Bool) : Prop where
 le : i ≤ n
 lo : ∀ j, j < i → f j < 0
 hi : ∀ j, i ≤ j → j < n → 0 ≤ f j
 is : q = (decide (i < n) && decide (f i = 0))
def defH : Hk := ⟨0, 0, []⟩
def cmpH (l : List Hk) (t : Hk) (j : Nat) : Int := placeI (l.getD j defH) t
theorem getD_at {l : List Hk} {j : Nat} {h : Hk} (hr : l[j]? = some h) : l.getD j defH = h := by rw [List.getD, hr]; rfl
set_option maxHeartbeats 4000000 in
theorem bsH_any (A : Option Addr) (c : Nat) (l : List Hk) (hn : l.length ≤ 10000) (hk : ∀ h ∈ l, h.near) (t : Hk) (ht : t.near) (vt : Value) (hm : ∀ i j, i ≤ j → j < l.length → cmpH l t j < 0 → cmpH l t i < 0) (w : World) (hs : SlHk w w.heap.size A l) :
 Calls Tryz.prog 108 #[.slice A l.length c, .agg #[.int .u8 t.bed, .int .i64 t.at_, vt], .func (.func 69) #[] #[]] w fun e w' => ∃ (i : Nat) (q : Bool), e = .returned (.tuple #[.int .i64 (i : Int), .bool q]) ∧ Found (cmpH l t) l.length i q ∧ Below w.heap.size w w' := by
 go_enter Tryz.func108, Tryz.ntmps108
 go_wp2
 have HAl := Lib.hid ((Below.refl w.heap.size w).alloc (Nat.le_refl _) (.cells #[.int .u8 t.bed, .int .i64 t.at_, vt] 82))
 have HT : Hid (∀ W, Below (w.heap.size + 1) (w.alloc (.cells #[.int .u8 t.bed, .int .i64 t.at_, vt] 82)) W → W.cell? ⟨w.heap.size, 0, none⟩ = some (.int .u8 t.bed) ∧ W.cell? ⟨w.heap.size, 1, none⟩ = some (.int .i64 t.at_) ∧ W.cell? ⟨w.heap.size, 2, none⟩ = some vt) := fun W hb =>
  ⟨(bcell hb (by omega) _).trans (cell_new rfl rfl rfl), (bcell hb (by omega) _).trans (cell_new rfl rfl rfl), (bcell hb (by omega) _).trans (cell_new rfl rfl rfl)⟩
 go_loopw [9, 10, 11] (fun s9 s10 s11 wr => ∃ (i j : Nat) (v11 : Value), i ≤ j ∧ j ≤ l.length ∧ s9 = .int .i64 (i : Int) ∧ s10 = .int .i64 (j : Int) ∧ v11 = s11 ∧ Hid (∀ x, x < i → cmpH l t x < 0) ∧ Hid (∀ x, j ≤ x → x < l.length → 0 ≤ cmpH l t x) ∧ Below (w.heap.size + 1) (w.alloc (.cells #[.int .u8 t.bed, .int .i64 t.at_, vt] 82)) wr) (fun s9 s10 _ _ => (intOf s10).toNat - (intOf s9).toNat)
 case atStart => exact ⟨0, l.length, _, Nat.zero_le _, Nat.le_refl _, rfl, rfl, rfl, (fun x hx => absurd hx (Nat.not_lt_zero x)), (fun x hx hx2 => by omega), Below.refl _ _⟩
 case round =>
  obtain ⟨i, j, v11, hij, hj, rfl, rfl, rfl, HLo, HHi, hbw⟩ := hrel
  have hbww : Below w.heap.size w wr := HAl.out.trans (hbw.mono (by omega))
  by_cases hlt : i < j
  · obtain ⟨h, hh⟩ : ∃ h, h = (i + j) / 2 := ⟨_, rfl⟩
    have hil : (i : Int) < (j : Int) := by omega
    have hmid : ((i : Int) + (j : Int)) / 2 = (h : Int) := by omega
    have hhl : h < l.length := by omega
    have hih : i ≤ h := by omega
    have hhj : h < j := by omega
    obtain ⟨b, off, x, A1, C1, rfl, hB, hx, x0, x1, x2, _, _⟩ := hs.at_ hhl
    obtain ⟨t0, t1, t2⟩ := HT.out wr hbw
    have hxn := hk x (List.mem_of_getElem? hx)
    have HS0 : Hid (wr.cell? ⟨b, off + h * 3, none⟩ = some (.int .u8 x.bed) ∧ wr.cell? ⟨b, off + h * 3 + 1, none⟩ = some (.int .i64 x.at_) ∧ wr.cell? ⟨b, off + h * 3 + 2, none⟩ = some (.slice A1 x.loops.length C1) ∧ wr.cell? ⟨w.heap.size, 0, none⟩ = some (.int .u8 t.bed) ∧ wr.cell? ⟨w.heap.size, 1, none⟩ = some (.int .i64 t.at_) ∧ wr.cell? ⟨w.heap.size, 2, none⟩ = some vt ∧ Below wr.heap.size wr wr) :=
     ⟨(bcell hbww hB _).trans x0, (bcell hbww hB _).trans x1, (bcell hbww hB _).trans x2, t0, t1, t2, Below.refl _ _⟩
    have HPl := Lib.hid (fun w => place_any x t hxn ht (.slice A1 x.loops.length C1) vt w)
    have HCm : Hid (cmpH l t h = placeI x t) := by unfold Hid cmpH; rw [getD_at hx]
    have hkm : (h : Int) < (l.length : Int) := by omega
    have hk0 : (0 : Int) ≤ (h : Int) := by omega
    have HM : Hid (∀ i j, i ≤ j → j < l.length → cmpH l t j < 0 → cmpH l t i < 0) := hm
    have HH := Lib.hid (show _ ∧ _ from ⟨hh, hhl⟩)
    have hsz := lt_of_cell t0
    clear hs hk hx x0 x1 x2 hxn ht t0 t1 t2 hm hh
    generalize placeI x t = z at HPl HCm
    by_cases hz : z < 0
    · have hzd : decide (z < 0) = true := decide_eq_true hz
      have HLo2 : Hid (∀ y, y < h + 1 → cmpH l t y < 0) := fun y hy => HM.out y h (by omega) HH.out.2 (by rw [HCm.out]; exact hz)
      clear hz HCm HM HLo
      go_upto_region 5 with fail
      go_region_held3 (fun WW => WW.cell? ⟨b, off + h * 3, none⟩ = some (.int .u8 x.bed) ∧ WW.cell? ⟨b, off + h * 3 + 1, none⟩ = some (.int .i64 x.at_) ∧ WW.cell? ⟨b, off + h * 3 + 2, none⟩ = some (.slice A1 x.loops.length C1) ∧ WW.cell? ⟨w.heap.size, 0, none⟩ = some (.int .u8 t.bed) ∧ WW.cell? ⟨w.heap.size, 1, none⟩ = some (.int .i64 t.at_) ∧ WW.cell? ⟨w.heap.size, 2, none⟩ = some vt ∧ Below wr.heap.size wr WW)
       (first | exact keep33 HS0.out (Below.drew (Below.refl _ _)) | exact keep33 (by assumption) (by assumption))
       (first | (go_at_call 69; refine (HPl.out _).mono ?_; rintro e w' ⟨rfl, hb1⟩))
      rename_i hS1
      have hB1 := hbw.trans (hS1.2.2.2.2.2.2.mono (by omega))
      clear hS1 HS0
      go_wp2
      go_roundw
      case rel => exact ⟨h + 1, j, _, by omega, hj, by go_num, rfl, rfl, HLo2, HHi, hB1⟩
      case measure => simp [intOf]; omega
    · have hzd : decide (z < 0) = false := decide_eq_false hz
      have HHi2 : Hid (∀ y, h ≤ y → y < l.length → 0 ≤ cmpH l t y) := fun y hy hyl => by
       rcases Int.lt_or_le (cmpH l t y) 0 with hneg | hge
       · have := HM.out h y hy hyl hneg
         rw [HCm.out] at this; exact absurd this hz
       · exact hge
      clear hz HCm HM HHi
      go_upto_region 5 with fail
      go_region_held3 (fun WW => WW.cell? ⟨b, off + h * 3, none⟩ = some (.int .u8 x.bed) ∧ WW.cell? ⟨b, off + h * 3 + 1, none⟩ = some (.int .i64 x.at_) ∧ WW.cell? ⟨b, off + h * 3 + 2, none⟩ = some (.slice A1 x.loops.length C1) ∧ WW.cell? ⟨w.heap.size, 0, none⟩ = some (.int .u8 t.bed) ∧ WW.cell? ⟨w.heap.size, 1, none⟩ = some (.int .i64 t.at_) ∧ WW.cell? ⟨w.heap.size, 2, none⟩ = some vt ∧ Below wr.heap.size wr WW)
       (first | exact keep33 HS0.out (Below.drew (Below.refl _ _)) | exact keep33 (by assumption) (by assumption))
       (first | (go_at_call 69; refine (HPl.out _).mono ?_; rintro e w' ⟨rfl, hb1⟩))
      rename_i hS1
      have hB1 := hbw.trans (hS1.2.2.2.2.2.2.mono (by omega))
      clear hS1 HS0
      go_wp2
      go_roundw
      case rel => exact ⟨i, h, _, hih, by omega, rfl, rfl, rfl, HLo, HHi2, hB1⟩
      case measure => simp [intOf]; omega
  · obtain rfl : i = j := by omega
    have hil : decide ((i : Int) < (i : Int)) = false := decide_eq_false (by omega)
    by_cases hin : i < l.length
    case neg =>
     have hind : decide ((i : Int) < (l.length : Int)) = false := decide_eq_false (by omega)
     have HF : Hid (Found (cmpH l t) l.length i false) := ⟨hj, HLo.out, HHi.out, by rw [decide_eq_false hin]; rfl⟩
     clear hs hk ht hm HLo HHi
     go_wp2
     go_quiet (fail)
     go_wp2
     go_ret2
     exact ⟨i, false, rfl, HF.out, below_drewN hbww _⟩
    case pos =>
     obtain ⟨b, off, x, A1, C1, rfl, hB, hx, x0, x1, x2, _, _⟩ := hs.at_ hin
     obtain ⟨t0, t1, t2⟩ := HT.out wr hbw
     have hxn := hk x (List.mem_of_getElem? hx)
     have HS0 : Hid (wr.cell? ⟨b, off + i * 3, none⟩ = some (.int .u8 x.bed) ∧ wr.cell? ⟨b, off + i * 3 + 1, none⟩ = some (.int .i64 x.at_) ∧ wr.cell? ⟨b, off + i * 3 + 2, none⟩ = some (.slice A1 x.loops.length C1) ∧ wr.cell? ⟨w.heap.size, 0, none⟩ = some (.int .u8 t.bed) ∧ wr.cell? ⟨w.heap.size, 1, none⟩ = some (.int .i64 t.at_) ∧ wr.cell? ⟨w.heap.size, 2, none⟩ = some vt ∧ Below wr.heap.size wr wr) :=
      ⟨(bcell hbww hB _).trans x0, (bcell hbww hB _).trans x1, (bcell hbww hB _).trans x2, t0, t1, t2, Below.refl _ _⟩
     have HPl := Lib.hid (fun w => place_any x t hxn ht (.slice A1 x.loops.length C1) vt w)
     have HF : Hid (Found (cmpH l t) l.length i (placeI x t == 0)) := ⟨hj, HLo.out, HHi.out, by
      unfold cmpH; rw [decide_eq_true hin, getD_at hx, Bool.true_and, Bool.eq_iff_iff]; simp⟩
     have hkm : (i : Int) < (l.length : Int) := by omega
     have hk0 : (0 : Int) ≤ (i : Int) := by omega
     have hind : decide ((i : Int) < (l.length : Int)) = true := decide_eq_true (by omega)
     have HB := Lib.hid hbww
     have hsz := lt_of_cell t0
     clear hs hk hx x0 x1 x2 hxn ht t0 t1 t2 hm HLo HHi
     generalize placeI x t = z at HPl HF
     go_upto_region 8 with fail
     go_region_held3 (fun WW => WW.cell? ⟨b, off + i * 3, none⟩ = some (.int .u8 x.bed) ∧ WW.cell? ⟨b, off + i * 3 + 1, none⟩ = some (.int .i64 x.at_) ∧ WW.cell? ⟨b, off + i * 3 + 2, none⟩ = some (.slice A1 x.loops.length C1) ∧ WW.cell? ⟨w.heap.size, 0, none⟩ = some (.int .u8 t.bed) ∧ WW.cell? ⟨w.heap.size, 1, none⟩ = some (.int .i64 t.at_) ∧ WW.cell? ⟨w.heap.size, 2, none⟩ = some vt ∧ Below wr.heap.size wr WW)
      (first | exact keep33 HS0.out (Below.drew (Below.refl _ _)) | exact keep33 (by assumption) (by assumption))
      (first | (go_at_call 69; refine (HPl.out _).mono ?_; rintro e w' ⟨rfl, hb1⟩))
     rename_i hS1
     have HB1 := Lib.hid (HB.out.trans (hS1.2.2.2.2.2.2.mono HB.out.size))
     clear hS1 HS0
     go_wp2
     go_ret2
     exact ⟨i, _, rfl, HF.out, HB1.out⟩
theorem feed_lt (a b : Fd) : decide (0 ≤ a.car - b.car) = !ltF a b := by
 unfold ltF
 rw [Bool.eq_iff_iff]
 simp only [decide_eq_true_eq, Bool.not_eq_true', decide_eq_false_iff_not]
 omega
set_option maxHeartbeats 4000000 in
theorem risingF_any (A : Option Addr) (c : Nat) (l : List Fd) (hn : l.length ≤ 1000000) (hk : ∀ h ∈ l, carP h.car) (w : World) (hs : SlF w w.heap.size A l) :
 Calls Tryz.prog 70 #[.slice A l.length c, .func (.func 71) #[] #[]] w fun e w' => e = .returned (.bool (risB ltF l)) ∧ Below w.heap.size w w' := by
 go_enter Tryz.func70, Tryz.ntmps70
 go_wp2
 go_loopw [5] (fun s5 wr => ∃ k : Nat, s5 = .int .i64 ((k + 1 : Nat) : Int) ∧ k ≤ l.length ∧ Hid (risB ltF (l.take (k + 1)) = true) ∧ Below w.heap.size w wr) (fun s5 _ => l.length - (intOf s5).toNat)
 case atStart =>
  refine ⟨0, rfl, Nat.zero_le _, ?_, Below.refl _ _⟩
  cases l with
  | nil => rfl
  | cons a t => rfl
 case round =>
  obtain ⟨k, rfl, hkl, H, hbw⟩ := hrel
  by_cases hlt : k + 1 < l.length
  · obtain ⟨b, off, p, rfl, hB, hp, p0, p1, p2⟩ := hs.at_ (k := k) (by omega)
    obtain ⟨b', off', x, e', hB', hx, x0, x1, x2⟩ := hs.at_ (k := k + 1) hlt
    cases e'
    have hpn := hk p (List.mem_of_getElem? hp)
    have hxn := hk x (List.mem_of_getElem? hx)
    have HR := Lib.hid (ris_take (lt := ltF) hp hx H.out)
    have HPl := Lib.hid (fun w => feedcmp_any p x hpn hxn w)
    have HLt := Lib.hid (feed_lt p x)
    have HS0 : Hid (wr.cell? ⟨b, off + k * 3, none⟩ = some (.int .i64 p.car) ∧ wr.cell? ⟨b, off + k * 3 + 1, none⟩ = some (.bool p.fresh) ∧ wr.cell? ⟨b, off + k * 3 + 2, none⟩ = some (.int .i64 p.place) ∧ wr.cell? ⟨b, off + (k + 1) * 3, none⟩ = some (.int .i64 x.car) ∧ wr.cell? ⟨b, off + (k + 1) * 3 + 1, none⟩ = some (.bool x.fresh) ∧ wr.cell? ⟨b, off + (k + 1) * 3 + 2, none⟩ = some (.int .i64 x.place) ∧ Below wr.heap.size wr wr) :=
     ⟨(bcell hbw hB _).trans p0, (bcell hbw hB _).trans p1, (bcell hbw hB _).trans p2, (bcell hbw hB _).trans x0, (bcell hbw hB _).trans x1, (bcell hbw hB _).trans x2, Below.refl _ _⟩
    have hw1 : IntKind.i64.wrap (((k + 1 : Nat) : Int) - 1) = (k : Int) := by rw [show ((k + 1 : Nat) : Int) - 1 = (k : Int) by omega]; exact IntWalk.i64_in _ (by omega)
    have hkm : (k : Int) < (l.length : Int) := by omega
    have hk0 : (0 : Int) ≤ (k : Int) := by omega
    have hk1 : (0 : Int) ≤ (k : Int) + 1 := by omega
    have hkm1 : (k : Int) + 1 < (l.length : Int) := by omega
    have hw2 : IntKind.i64.wrap ((k : Int) + 1 - 1) = (k : Int) := by rw [show (k : Int) + 1 - 1 = (k : Int) by omega]; exact IntWalk.i64_in _ (by omega)
    have hw3 : IntKind.i64.wrap (k : Int) = (k : Int) := IntWalk.i64_in _ (by omega)
    have htn : ((k : Int) + 1).toNat = k + 1 := by omega
    have hkd : decide (((k + 1 : Nat) : Int) < (l.length : Int)) = true := decide_eq_true (by omega)
    clear hs hk hp hx p0 p1 p2 x0 x1 x2 hpn hxn H
    generalize p.car - x.car = z at HPl HLt
    cases hq : ltF p x with
    | true =>
      rw [hq] at HR HLt
      have hz : decide (0 ≤ z) = false := HLt.out
      have HR2 : Hid (risB ltF (l.take (k + 1 + 1)) = true) := HR.out
      clear hq HR HLt
      go_wp2
      go_region_held3 (fun WW => WW.cell? ⟨b, off + k * 3, none⟩ = some (.int .i64 p.car) ∧ WW.cell? ⟨b, off + k * 3 + 1, none⟩ = some (.bool p.fresh) ∧ WW.cell? ⟨b, off + k * 3 + 2, none⟩ = some (.int .i64 p.place) ∧ WW.cell? ⟨b, off + (k + 1) * 3, none⟩ = some (.int .i64 x.car) ∧ WW.cell? ⟨b, off + (k + 1) * 3 + 1, none⟩ = some (.bool x.fresh) ∧ WW.cell? ⟨b, off + (k + 1) * 3 + 2, none⟩ = some (.int .i64 x.place) ∧ Below wr.heap.size wr WW)
       (first | exact keep6 HS0.out (Below.drew (Below.refl _ _)) | exact keep6 (by assumption) (by assumption))
       (first | (go_at_call 71; refine (HPl.out _).mono ?_; rintro e w' ⟨rfl, hb1⟩))
      rename_i hS1
      have hB1 := hbw.trans (hS1.2.2.2.2.2.2.mono hbw.size)
      clear hS1 HS0
      go_wp2
      go_roundw
      case rel => exact ⟨k + 1, by go_num, by omega, HR2, hB1⟩
      case measure => simp [intOf]; omega
    | false =>
      rw [hq] at HR HLt
      have hz : decide (0 ≤ z) = true := HLt.out
      have HF : Hid (risB ltF l = false) := ris_not HR.out
      clear hq HR HLt
      go_wp2
      go_region_held3 (fun WW => WW.cell? ⟨b, off + k * 3, none⟩ = some (.int .i64 p.car) ∧ WW.cell? ⟨b, off + k * 3 + 1, none⟩ = some (.bool p.fresh) ∧ WW.cell? ⟨b, off + k * 3 + 2, none⟩ = some (.int .i64 p.place) ∧ WW.cell? ⟨b, off + (k + 1) * 3, none⟩ = some (.int .i64 x.car) ∧ WW.cell? ⟨b, off + (k + 1) * 3 + 1, none⟩ = some (.bool x.fresh) ∧ WW.cell? ⟨b, off + (k + 1) * 3 + 2, none⟩ = some (.int .i64 x.place) ∧ Below wr.heap.size wr WW)
       (first | exact keep6 HS0.out (Below.drew (Below.refl _ _)) | exact keep6 (by assumption) (by assumption))
       (first | (go_at_call 71; refine (HPl.out _).mono ?_; rintro e w' ⟨rfl, hb1⟩))
      rename_i hS1
      have HB1 := Lib.hid (hbw.trans (hS1.2.2.2.2.2.2.mono hbw.size))
      clear hS1 HS0
      go_wp2
      go_ret
      exact ⟨ret_bool HF.out.symm, HB1.out⟩
  · have HF : Hid (risB ltF l = true) := by have h := H.out; rwa [List.take_of_length_le (by omega)] at h
    have hkd : decide (((k + 1 : Nat) : Int) < (l.length : Int)) = false := decide_eq_false (by omega)
    clear hs hk H
    go_wp2
    go_ret
    exact ⟨ret_bool HF.out.symm, hbw⟩
end Go.Proofs.YtflpikickbellaaGreat
namespace Go.Proofs.YtflpikickbellaaGreat
open Go.RowKit Go.Shelf Go.Sort
set_option maxRecDepth 100000
def lastO (s : Sft) (pre : List Int) : Int := match pre.getLast? with
 | some x => offN s x.toNat
 | none => 9
theorem lastO_app (s : Sft) (pre : List Int) (x : Int) : lastO s (pre ++ [x]) = offN s x.toNat := by unfold lastO; rw [List.getLast?_concat]
structure StepOk (s : Sft) (pre : List Int) (x : Int) : Prop where
 lo : 0 ≤ x
 hi : x < (s.n : Int)
 mv : movedN s x.toNat = true
 new : ¬ x ∈ pre
 stop : offN s x.toNat = lastO s pre ∨ ∀ j, j < s.n → offN s j = lastO s pre → movedN s j = true → (j : Int) ∈ pre
 fst : ∀ p ∈ s.first, p.2 = x → movedN s p.1.toNat = true → p.1 ∈ pre
theorem may_steps {s : Sft} (hs : SftOk s) : ∀ (l : List Int) (come : Nat → Bool) (pre : List Int) (last : Int), (∀ i, i < s.n → (come i = true ↔ (i : Int) ∈ pre)) → last = lastO s pre →
 (mayS s come last l = true ↔ (∀ k x, l[k]? = some x → StepOk s (pre ++ l.take k) x) ∧ ∀ i, i < s.n → movedN s i = true → (i : Int) ∈ pre ++ l)
 | [], come, pre, last, hc, hl => by
   rw [may_nil]
   constructor
   · intro h
     refine ⟨fun k x hx => by simp at hx, fun i hi hm => ?_⟩
     rw [List.append_nil]
     cases e : come i with
     | true => exact (hc i hi).1 e
     | false =>
       have hw := waitN_iff.2 ⟨hm, e⟩
       have : offN s i ∈ stopsN s come := by
        unfold stopsN
        rw [List.mem_filter, mem_stops]
        exact ⟨(hs.to_ i hi).2.2, hasN_iff.2 ⟨i, hi, rfl, hw⟩⟩
       rw [h] at this; cases this
   · rintro ⟨-, h⟩
     apply List.eq_nil_iff_forall_not_mem.2
     intro t ht
     unfold stopsN at ht
     obtain ⟨i, hi, -, hw⟩ := hasN_iff.1 (List.mem_filter.1 ht).2
     obtain ⟨h1, h2⟩ := waitN_iff.1 hw
     have := h i hi h1
     rw [List.append_nil, ← hc i hi, h2] at this
     cases this
 | x :: l, come, pre, last, hc, hl => by
   subst hl
   have ih : ∀ i : Nat, i < s.n → x = (i : Int) → _ := fun i hi hx => may_steps hs l (putN come i) (pre ++ [x]) (offN s i) (fun j hj => by
    unfold putN
    rw [Bool.or_eq_true, decide_eq_true_eq, hc j hj, List.mem_append, List.mem_singleton, hx]
    constructor
    · rintro (h | rfl)
      · exact Or.inl h
      · exact Or.inr rfl
    · rintro (h | h)
      · exact Or.inl h
      · exact Or.inr (by omega)) (by rw [lastO_app, hx]; simp)
   rw [may_cons]
   constructor
   · rintro ⟨i, rfl, hi, hw, hst, hp, hr⟩
     obtain ⟨h1, h2⟩ := (ih i hi rfl).1 hr
     obtain ⟨hm, hcf⟩ := waitN_iff.1 hw
     have e : ((i : Int)).toNat = i := by omega
     refine ⟨fun k y hy => ?_, fun j hj hmj => by have := h2 j hj hmj; simpa using this⟩
     cases k with
     | zero =>
       simp only [List.getElem?_cons_zero, Option.some.injEq] at hy
       subst hy
       rw [List.take_zero, List.append_nil]
       refine ⟨by omega, by omega, by rw [e]; exact hm, fun hmem => ?_, ?_, fun p hpm hpe hmv => ?_⟩
       · rw [(hc i hi).2 hmem] at hcf; cases hcf
       · rw [e]
         rcases hst with h3 | h3
         · exact Or.inl h3
         · refine Or.inr fun j hj ho hmv => ?_
           cases e2 : come j with
           | true => exact (hc j hj).1 e2
           | false =>
             have := hasN_iff.2 ⟨j, hj, ho, waitN_iff.2 ⟨hmv, e2⟩⟩
             rw [h3] at this; cases this
       · obtain ⟨p0, p1, -⟩ := hs.first p hpm
         have h4 := hp p hpm hpe
         cases e2 : come p.1.toNat with
         | true =>
           have := (hc p.1.toNat (by omega)).1 e2
           rwa [show ((p.1.toNat : Nat) : Int) = p.1 by omega] at this
         | false => rw [waitN_iff.2 ⟨hmv, e2⟩] at h4; cases h4
     | succ k =>
       have h3 := h1 k y (by simpa using hy)
       rw [List.take_succ_cons]
       simpa using h3
   · rintro ⟨h1, h2⟩
     have h0 := h1 0 x rfl
     rw [List.take_zero, List.append_nil] at h0
     have hx : x = ((x.toNat : Nat) : Int) := by have := h0.lo; omega
     have hi : x.toNat < s.n := by have := h0.hi; have := h0.lo; omega
     refine ⟨x.toNat, hx, hi, waitN_iff.2 ⟨h0.mv, ?_⟩, ?_, fun p hpm hpe => ?_, (ih x.toNat hi hx).2 ⟨fun k y hy => ?_, fun j hj hmj => by have := h2 j hj hmj; simpa using this⟩⟩
     · cases e : come x.toNat with
       | false => rfl
       | true =>
         have := (hc _ hi).1 e
         rw [← hx] at this
         exact absurd this h0.new
     · rcases h0.stop with h3 | h3
       · exact Or.inl h3
       · refine Or.inr ?_
         cases e : hasN s come (lastO s pre) with
         | false => rfl
         | true =>
           obtain ⟨j, hj, ho, hw⟩ := hasN_iff.1 e
           obtain ⟨hm, hcf⟩ := waitN_iff.1 hw
           rw [(hc j hj).2 (h3 j hj ho hm)] at hcf
           cases hcf
     · obtain ⟨p0, p1, -⟩ := hs.first p hpm
       cases e : waitN s come p.1.toNat with
       | false => rfl
       | true =>
         obtain ⟨hm, hcf⟩ := waitN_iff.1 e
         have h4 := h0.fst p hpm (by rw [hpe, ← hx]) hm
         rw [show p.1 = ((p.1.toNat : Nat) : Int) by omega, ← hc _ (by omega), hcf] at h4
         cases h4
     · have h3 := h1 (k + 1) y (by simpa using hy)
       rw [List.take_succ_cons] at h3
       simpa using h3
theorem step_ex (P : Nat → Prop) : ∀ {m n : Nat}, m ≤ n → P m → ¬ P n → ∃ t, m ≤ t ∧ t < n ∧ P t ∧ ¬ P (t + 1)
 | m, 0, h, h1, h2 => by obtain rfl : m = 0 := by omega
                         exact absurd h1 h2
 | m, n + 1, h, h1, h2 => by
   by_cases e : m = n + 1
   · subst e; exact absurd h1 h2
   · by_cases hp : P n
     · exact ⟨n, by omega, by omega, hp, h2⟩
     · obtain ⟨t, t1, t2, t3⟩ := step_ex P (show m ≤ n by omega) h1 hp
       exact ⟨t, t1, by omega, t3⟩
def plc (l : List Int) (x : Int) : Int := if x ∈ l then (l.idxOf x : Int) else -1
structure MayP (s : Sft) (l : List Int) : Prop where
 rng : ∀ x ∈ l, 0 ≤ x ∧ x < (s.n : Int) ∧ movedN s x.toNat = true
 nd : ∀ k x, l[k]? = some x → ¬ x ∈ l.take k
 stay : ∀ m k, m + 1 < k → k < l.length → offN s (l.getD m 0).toNat = offN s (l.getD k 0).toNat → offN s (l.getD (k - 1) 0).toNat = offN s (l.getD k 0).toNat
 all : ∀ i, i < s.n → movedN s i = true → (i : Int) ∈ l
 fst : ∀ p ∈ s.first, plc l p.1 ≤ plc l p.2
theorem getD_some {l : List Int} {k : Nat} {x : Int} (h : l[k]? = some x) : l.getD k 0 = x := by rw [List.getD_eq_getElem?_getD, h]; rfl
theorem some_getD {l : List Int} {k : Nat} (h : k < l.length) : l[k]? = some (l.getD k 0) := by rw [List.getD_eq_getElem?_getD, List.getElem?_eq_getElem h]; rfl
theorem lastO_take {s : Sft} {l : List Int} {k : Nat} (h : k < l.length) : lastO s (l.take (k + 1)) = offN s (l.getD k 0).toNat := by
 rw [List.take_succ_eq_append_getElem h, lastO_app, getD_some (List.getElem?_eq_getElem h)]
theorem mem_take_of {l : List Int} {k m : Nat} {x : Int} (h : l[m]? = some x) (hm : m < k) : x ∈ l.take k := by
 rw [List.mem_iff_getElem?]
 exact ⟨m, by rw [List.getElem?_take, if_pos hm]; exact h⟩
theorem of_mem_take {l : List Int} {k : Nat} {x : Int} (h : x ∈ l.take k) : ∃ m, m < k ∧ l[m]? = some x := by
 obtain ⟨m, hm⟩ := List.mem_iff_getElem?.1 h
 rw [List.getElem?_take] at hm
 split at hm
 · exact ⟨m, by assumption, hm⟩
 · cases hm
theorem idx_is {l : List Int} (hn : ∀ k x, l[k]? = some x → ¬ x ∈ l.take k) {k : Nat} {x : Int} (h : l[k]? = some x) : plc l x = (k : Int) := by
 have hm : x ∈ l := List.mem_of_getElem? h
 unfold plc
 rw [if_pos hm]
 have h1 : l.idxOf x < l.length := List.idxOf_lt_length_iff.2 hm
 have h2 : l[l.idxOf x]? = some x := by rw [List.getElem?_eq_getElem h1, List.getElem_idxOf h1]
 rcases Nat.lt_trichotomy (l.idxOf x) k with h3 | h3 | h3
 · exact absurd (mem_take_of h2 h3) (hn k x h)
 · rw [h3]
 · exact absurd (mem_take_of h h3) (hn _ x h2)
theorem may_iff {s : Sft} (hs : SftOk s) (l : List Int) : mayS s (fun _ => false) 9 l = true ↔ MayP s l := by
 rw [may_steps hs l (fun _ => false) [] 9 (fun i _ => by simp) rfl]
 simp only [List.nil_append]
 constructor
 · rintro ⟨h1, h2⟩
   have hn : ∀ k x, l[k]? = some x → ¬ x ∈ l.take k := fun k x hx => (h1 k x hx).new
   refine ⟨fun x hx => ?_, hn, fun m k hmk hk ho => ?_, h2, fun p hp => ?_⟩
   · obtain ⟨k, hk⟩ := List.mem_iff_getElem?.1 hx
     exact ⟨(h1 k x hk).lo, (h1 k x hk).hi, (h1 k x hk).mv⟩
   · apply Classical.byContradiction
     intro hne
     obtain ⟨t, t1, t2, t3, t4⟩ := step_ex (fun t => offN s (l.getD t 0).toNat = offN s (l.getD k 0).toNat) (show m ≤ k - 1 by omega) ho hne
     have hS := h1 (t + 1) _ (some_getD (by omega))
     have hK := h1 k _ (some_getD hk)
     rcases hS.stop with h3 | h3
     · rw [lastO_take (by omega)] at h3
       exact t4 (h3.trans t3)
     · rw [lastO_take (by omega)] at h3
       have h4 := h3 (l.getD k 0).toNat (by have := hK.lo; have := hK.hi; omega) t3.symm hK.mv
       rw [show (((l.getD k 0).toNat : Nat) : Int) = l.getD k 0 by have := hK.lo; omega] at h4
       obtain ⟨m', hm', he⟩ := of_mem_take h4
       exact hn k _ (some_getD hk) (mem_take_of he (by omega))
   · obtain ⟨p0, p1, p2, p3, -⟩ := hs.first p hp
     have hm2 : movedN s p.2.toNat = true := by
      unfold movedN
      rw [Bool.or_eq_true, List.any_eq_true]
      exact Or.inr ⟨p, hp, decide_eq_true (by omega)⟩
     have h3 := h2 p.2.toNat (by omega) hm2
     rw [show ((p.2.toNat : Nat) : Int) = p.2 by omega] at h3
     obtain ⟨k, hk⟩ := List.mem_iff_getElem?.1 h3
     rw [idx_is hn hk]
     by_cases hm1 : movedN s p.1.toNat = true
     · obtain ⟨m, hm, he⟩ := of_mem_take ((h1 k _ hk).fst p hp rfl hm1)
       rw [idx_is hn he]; omega
     · unfold plc
       rw [if_neg]
       · omega
       · intro hmem
         obtain ⟨m, hm⟩ := List.mem_iff_getElem?.1 hmem
         exact hm1 (h1 m _ hm).mv
 · intro h
   refine ⟨fun k x hx => ?_, h.all⟩
   have hk := (List.getElem?_eq_some_iff.1 hx).1
   obtain ⟨r1, r2, r3⟩ := h.rng x (List.mem_of_getElem? hx)
   refine ⟨r1, r2, r3, h.nd k x hx, ?_, fun p hp he hm => ?_⟩
   · cases k with
     | zero =>
       refine Or.inr fun j hj ho _ => ?_
       rw [List.take_zero] at ho
       have := (hs.to_ j hj).2.2.2
       have e : lastO s [] = 9 := rfl
       omega
     | succ k =>
       rw [lastO_take (by omega)]
       by_cases e : offN s x.toNat = offN s (l.getD k 0).toNat
       · exact Or.inl e
       · refine Or.inr fun j hj ho hm => ?_
         obtain ⟨m, hmj⟩ := List.mem_iff_getElem?.1 (h.all j hj hm)
         have hml := (List.getElem?_eq_some_iff.1 hmj).1
         by_cases hmk : m < k + 1
         · exact mem_take_of hmj hmk
         · exfalso
           have e2 : ((j : Int)).toNat = j := by omega
           obtain ⟨t, t1, t2, t3, t4⟩ := step_ex (fun t => ¬ offN s (l.getD t 0).toNat = offN s (l.getD k 0).toNat) (show k + 1 ≤ m by omega) (by rw [getD_some hx]; exact e) (by
            rw [getD_some hmj, e2]; exact fun h => h ho)
           simp only [Classical.not_not] at t4
           have h5 := h.stay k (t + 1) (by omega) (by omega) t4.symm
           rw [t4, Nat.add_sub_cancel] at h5
           exact t3 h5
   · obtain ⟨p0, p1, -, -, p5⟩ := hs.first p hp
     have h3 := h.all p.1.toNat (by omega) hm
     rw [show ((p.1.toNat : Nat) : Int) = p.1 by omega] at h3
     obtain ⟨m, hmj⟩ := List.mem_iff_getElem?.1 h3
     have h4 := h.fst p hp
     rw [idx_is h.nd hmj, he, idx_is h.nd hx] at h4
     refine mem_take_of hmj ?_
     rcases Nat.lt_or_ge m k with h6 | h6
     · exact h6
     · obtain rfl : m = k := by omega
       rw [hx] at hmj
       exact absurd (Option.some.inj hmj).symm (by rw [← he]; exact p5)
end Go.Proofs.YtflpikickbellaaGreat
