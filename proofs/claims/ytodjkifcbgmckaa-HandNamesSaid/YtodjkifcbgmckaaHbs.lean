/- Layer 29: BinarySearchFunc over pairs. -/
import Derived.Test.YtodjkifcbgmckaaHck
namespace Go.Proofs.Ytodjkifcbgmckaa
open Go.RowKit Go.Shelf Go.Sort
set_option maxRecDepth 100000

/-- What a binary search finds: the number of the elements that lie before the target. -/
structure Fnd (f : Nat → Int) (n i : Nat) (q : Bool) : Prop where
  le : i ≤ n
  lo : ∀ j, j < i → f j < 0
  hi : ∀ j, i ≤ j → j < n → 0 ≤ f j
  is : q = (decide (i < n) && decide (f i = 0))
def cmpN (l : List (Int × Int)) (t : Int × Int) (j : Nat) : Int := cmpP (l.getD j (0, 0)) t
theorem getD_pr {l : List (Int × Int)} {j : Nat} {h : Int × Int} (hr : l[j]? = some h) : l.getD j (0, 0) = h := by rw [List.getD, hr]; rfl
theorem keep22 {W0 W W' : World} {b b2 o1 o2 o4 o5 : Nat} {v1 v2 v4 v5 : Value} (h : W.cell? ⟨b, o1, none⟩ = some v1 ∧ W.cell? ⟨b, o2, none⟩ = some v2 ∧ W.cell? ⟨b2, o4, none⟩ = some v4 ∧ W.cell? ⟨b2, o5, none⟩ = some v5 ∧ Below W0.heap.size W0 W) (hb : Below W.heap.size W W') :
    W'.cell? ⟨b, o1, none⟩ = some v1 ∧ W'.cell? ⟨b, o2, none⟩ = some v2 ∧ W'.cell? ⟨b2, o4, none⟩ = some v4 ∧ W'.cell? ⟨b2, o5, none⟩ = some v5 ∧ Below W0.heap.size W0 W' := by
  obtain ⟨h1, h2, h4, h5, h7⟩ := h
  have hl := lt_of_cell h1
  have hl2 := lt_of_cell h4
  exact ⟨(bcell hb hl _).trans h1, (bcell hb hl _).trans h2, (bcell hb hl2 _).trans h4, (bcell hb hl2 _).trans h5, h7.trans (hb.mono h7.size)⟩
set_option maxHeartbeats 4000000 in
theorem bsP_any (A : Option Addr) (c : Nat) (l : List (Int × Int)) (hn : l.length ≤ 1000000000) (t : Int × Int) (hm : ∀ i j, i ≤ j → j < l.length → cmpN l t j < 0 → cmpN l t i < 0) (w : World) (hs : SlPr w w.heap.size A l) :
    Calls Try.prog 58 #[.slice A l.length c, prV t, .func (.func 45) #[] #[]] w fun e w' => ∃ (i : Nat) (q : Bool), e = .returned (.tuple #[.int .i64 (i : Int), .bool q]) ∧ Fnd (cmpN l t) l.length i q ∧ Below w.heap.size w w' := by
  obtain ⟨ta, tb⟩ := t
  go_enter Try.func58, Try.ntmps58
  go_wp2
  have HAl := Lib.hid ((Below.refl w.heap.size w).alloc (Nat.le_refl _) (.cells #[.int .i64 ta, .int .i64 tb] 66))
  have HT : Hid (∀ W, Below (w.heap.size + 1) (w.alloc (.cells #[.int .i64 ta, .int .i64 tb] 66)) W → W.cell? ⟨w.heap.size, 0, none⟩ = some (.int .i64 ta) ∧ W.cell? ⟨w.heap.size, 1, none⟩ = some (.int .i64 tb)) := fun W hb =>
    ⟨(bcell hb (by omega) _).trans (cell_new rfl rfl rfl), (bcell hb (by omega) _).trans (cell_new rfl rfl rfl)⟩
  go_loopw [9, 10, 11] (fun s9 s10 s11 wr => ∃ (i j : Nat) (v11 : Value), i ≤ j ∧ j ≤ l.length ∧ s9 = .int .i64 (i : Int) ∧ s10 = .int .i64 (j : Int) ∧ v11 = s11 ∧ Hid (∀ x, x < i → cmpN l (ta, tb) x < 0) ∧ Hid (∀ x, j ≤ x → x < l.length → 0 ≤ cmpN l (ta, tb) x) ∧ Below (w.heap.size + 1) (w.alloc (.cells #[.int .i64 ta, .int .i64 tb] 66)) wr) (fun s9 s10 _ _ => (intOf s10).toNat - (intOf s9).toNat)
  case atStart => exact ⟨0, l.length, _, Nat.zero_le _, Nat.le_refl _, rfl, rfl, rfl, (fun x hx => absurd hx (Nat.not_lt_zero x)), (fun x hx hx2 => by omega), Below.refl _ _⟩
  case round =>
    obtain ⟨i, j, v11, hij, hj, rfl, rfl, rfl, HLo, HHi, hbw⟩ := hrel
    have hbww : Below w.heap.size w wr := HAl.out.trans (hbw.mono (by omega))
    by_cases hlt : i < j
    · obtain ⟨h, hh⟩ : ∃ h, h = (i + j) / 2 := ⟨_, rfl⟩
      have hil : (i : Int) < (j : Int) := by omega
      have hmid : ((i : Int) + (j : Int)) / 2 = (h : Int) := by omega
      have hhl : h < l.length := by omega
      have hih : i ≤ h := by omega
      have hhj : h < j := by omega
      obtain ⟨b, off, x, rfl, hB, hx, x0, x1⟩ := hs.at_ hhl
      obtain ⟨t0, t1⟩ := HT.out wr hbw
      have HS0 : Hid (wr.cell? ⟨b, off + h * 2, none⟩ = some (.int .i64 x.1) ∧ wr.cell? ⟨b, off + h * 2 + 1, none⟩ = some (.int .i64 x.2) ∧ wr.cell? ⟨w.heap.size, 0, none⟩ = some (.int .i64 ta) ∧ wr.cell? ⟨w.heap.size, 1, none⟩ = some (.int .i64 tb) ∧ Below wr.heap.size wr wr) :=
        ⟨(bcell hbww hB _).trans x0, (bcell hbww hB _).trans x1, t0, t1, Below.refl _ _⟩
      have HPl := Lib.hid (fun w => order_any x (ta, tb) w)
      have HCm : Hid (cmpN l (ta, tb) h = cmpP x (ta, tb)) := by unfold Hid cmpN; rw [getD_pr hx]
      have hkm : (h : Int) < (l.length : Int) := by omega
      have hk0 : (0 : Int) ≤ (h : Int) := by omega
      have HM : Hid (∀ i j, i ≤ j → j < l.length → cmpN l (ta, tb) j < 0 → cmpN l (ta, tb) i < 0) := hm
      have HH := Lib.hid (show _ ∧ _ from ⟨hh, hhl⟩)
      have hsz := lt_of_cell t0
      clear hs hx x0 x1 t0 t1 hm hh
      obtain ⟨xa, xb⟩ := x
      generalize cmpP (xa, xb) (ta, tb) = z at HPl HCm
      by_cases hz : z < 0
      · have hzd : decide (z < 0) = true := decide_eq_true hz
        have HLo2 : Hid (∀ y, y < h + 1 → cmpN l (ta, tb) y < 0) := fun y hy => HM.out y h (by omega) HH.out.2 (by rw [HCm.out]; exact hz)
        clear hz HCm HM HLo
        go_upto_region 5 with fail
        go_region_held3 (fun WW => WW.cell? ⟨b, off + h * 2, none⟩ = some (.int .i64 xa) ∧ WW.cell? ⟨b, off + h * 2 + 1, none⟩ = some (.int .i64 xb) ∧ WW.cell? ⟨w.heap.size, 0, none⟩ = some (.int .i64 ta) ∧ WW.cell? ⟨w.heap.size, 1, none⟩ = some (.int .i64 tb) ∧ Below wr.heap.size wr WW)
          (first | exact keep22 HS0.out (Below.drew (Below.refl _ _)) | exact keep22 (by assumption) (by assumption))
          (first | (go_at_call 45; refine (HPl.out _).mono ?_; rintro e w' ⟨rfl, hb1⟩))
        rename_i hS1
        have hB1 := hbw.trans (hS1.2.2.2.2.mono (by omega))
        clear hS1 HS0
        go_wp2
        go_roundw
        case rel => exact ⟨h + 1, j, _, by omega, hj, by go_num, rfl, rfl, HLo2, HHi, hB1⟩
        case measure => simp [intOf]; omega
      · have hzd : decide (z < 0) = false := decide_eq_false hz
        have HHi2 : Hid (∀ y, h ≤ y → y < l.length → 0 ≤ cmpN l (ta, tb) y) := fun y hy hyl => by
          rcases Int.lt_or_le (cmpN l (ta, tb) y) 0 with hneg | hge
          · have := HM.out h y hy hyl hneg
            rw [HCm.out] at this; exact absurd this hz
          · exact hge
        clear hz HCm HM HHi
        go_upto_region 5 with fail
        go_region_held3 (fun WW => WW.cell? ⟨b, off + h * 2, none⟩ = some (.int .i64 xa) ∧ WW.cell? ⟨b, off + h * 2 + 1, none⟩ = some (.int .i64 xb) ∧ WW.cell? ⟨w.heap.size, 0, none⟩ = some (.int .i64 ta) ∧ WW.cell? ⟨w.heap.size, 1, none⟩ = some (.int .i64 tb) ∧ Below wr.heap.size wr WW)
          (first | exact keep22 HS0.out (Below.drew (Below.refl _ _)) | exact keep22 (by assumption) (by assumption))
          (first | (go_at_call 45; refine (HPl.out _).mono ?_; rintro e w' ⟨rfl, hb1⟩))
        rename_i hS1
        have hB1 := hbw.trans (hS1.2.2.2.2.mono (by omega))
        clear hS1 HS0
        go_wp2
        go_roundw
        case rel => exact ⟨i, h, _, hih, by omega, rfl, rfl, rfl, HLo, HHi2, hB1⟩
        case measure => simp [intOf]; omega
    · obtain rfl : i = j := by omega
      have hil : decide ((i : Int) < (i : Int)) = false := decide_eq_false (by omega)
      by_cases hin : i < l.length
      case neg =>
        have hind : decide ((i : Int) < (l.length : Int)) = false := decide_eq_false (by omega)
        have HF : Hid (Fnd (cmpN l (ta, tb)) l.length i false) := ⟨hj, HLo.out, HHi.out, by rw [decide_eq_false hin]; rfl⟩
        clear hs hm HLo HHi
        go_wp2
        go_quiet (fail)
        go_wp2
        go_ret2
        exact ⟨i, false, rfl, HF.out, below_drewN29 hbww _⟩
      case pos =>
        obtain ⟨b, off, x, rfl, hB, hx, x0, x1⟩ := hs.at_ hin
        obtain ⟨t0, t1⟩ := HT.out wr hbw
        have HS0 : Hid (wr.cell? ⟨b, off + i * 2, none⟩ = some (.int .i64 x.1) ∧ wr.cell? ⟨b, off + i * 2 + 1, none⟩ = some (.int .i64 x.2) ∧ wr.cell? ⟨w.heap.size, 0, none⟩ = some (.int .i64 ta) ∧ wr.cell? ⟨w.heap.size, 1, none⟩ = some (.int .i64 tb) ∧ Below wr.heap.size wr wr) :=
          ⟨(bcell hbww hB _).trans x0, (bcell hbww hB _).trans x1, t0, t1, Below.refl _ _⟩
        have HPl := Lib.hid (fun w => order_any x (ta, tb) w)
        have HF : Hid (Fnd (cmpN l (ta, tb)) l.length i (cmpP x (ta, tb) == 0)) := ⟨hj, HLo.out, HHi.out, by
          unfold cmpN; rw [decide_eq_true hin, getD_pr hx, Bool.true_and, Bool.eq_iff_iff]; simp⟩
        have hkm : (i : Int) < (l.length : Int) := by omega
        have hk0 : (0 : Int) ≤ (i : Int) := by omega
        have hind : decide ((i : Int) < (l.length : Int)) = true := decide_eq_true (by omega)
        have HB := Lib.hid hbww
        have hsz := lt_of_cell t0
        clear hs hx x0 x1 t0 t1 hm HLo HHi
        obtain ⟨xa, xb⟩ := x
        generalize cmpP (xa, xb) (ta, tb) = z at HPl HF
        go_upto_region 8 with fail
        go_region_held3 (fun WW => WW.cell? ⟨b, off + i * 2, none⟩ = some (.int .i64 xa) ∧ WW.cell? ⟨b, off + i * 2 + 1, none⟩ = some (.int .i64 xb) ∧ WW.cell? ⟨w.heap.size, 0, none⟩ = some (.int .i64 ta) ∧ WW.cell? ⟨w.heap.size, 1, none⟩ = some (.int .i64 tb) ∧ Below wr.heap.size wr WW)
          (first | exact keep22 HS0.out (Below.drew (Below.refl _ _)) | exact keep22 (by assumption) (by assumption))
          (first | (go_at_call 45; refine (HPl.out _).mono ?_; rintro e w' ⟨rfl, hb1⟩))
        rename_i hS1
        have HB1 := Lib.hid (HB.out.trans (hS1.2.2.2.2.mono HB.out.size))
        clear hS1 HS0
        go_wp2
        go_ret2
        exact ⟨i, _, rfl, HF.out, HB1.out⟩
theorem cmp_zero (p q : Int × Int) : cmpP p q = 0 ↔ p = q := by
  obtain ⟨a, b⟩ := p
  obtain ⟨c, d⟩ := q
  unfold cmpP Lib.compareInt
  simp only [Prod.mk.injEq]
  by_cases h1 : a < c
  · simp [h1]; omega
  · by_cases h2 : a = c
    · subst h2
      by_cases h3 : b < d
      · simp [h3]; omega
      · by_cases h4 : b = d
        · subst h4; simp
        · have : d < b := by omega
          simp [h3, this, h4]
    · have : c < a := by omega
      simp [h1, this, h2]
theorem cmp_neg (p q : Int × Int) : cmpP p q < 0 ↔ ltP p q = true := by
  have := lt_cmp p q
  cases h : ltP p q with
  | true => rw [h] at this; simp at this; simp; omega
  | false => rw [h] at this; simp at this; simp; omega
theorem ltP_trans {p q r : Int × Int} (h1 : ltP p q = true) (h2 : ltP q r = true) : ltP p r = true := by
  unfold ltP at *
  rw [decide_eq_true_iff] at *
  omega
/-- Pairs in order. -/
theorem fr_mono {to_ : List Int} {l : List (Int × Int)} (h : frontsB to_ l = true) : ∀ (d i : Nat) (p q : Int × Int), l[i]? = some p → l[i + d + 1]? = some q → ltP p q = true
  | 0, i, p, q, hp, hq => ((fr_iff.1 h) (i + 1) q (List.getElem?_eq_some_iff.1 hq).1 hq).2 p (by omega) hp
  | d + 1, i, p, q, hp, hq => by
    have hl := (List.getElem?_eq_some_iff.1 hq).1
    obtain ⟨r, hr⟩ : ∃ r, l[i + d + 1]? = some r := ⟨_, List.getElem?_eq_getElem (by omega)⟩
    exact ltP_trans (fr_mono h d i p r hp hr) (((fr_iff.1 h) (i + d + 1 + 1) q hl hq).2 r (by omega) hr)
theorem cmp_mono {to_ : List Int} {l : List (Int × Int)} (h : frontsB to_ l = true) (t : Int × Int) : ∀ i j, i ≤ j → j < l.length → cmpN l t j < 0 → cmpN l t i < 0 := fun i j hij hj hc => by
  by_cases e : i = j
  · rw [e]; exact hc
  · have hp : l[i]? = some l[i] := List.getElem?_eq_getElem (by omega)
    have hq : l[j]? = some l[j] := List.getElem?_eq_getElem hj
    unfold cmpN at *
    rw [getD_pr hq] at hc
    rw [getD_pr hp]
    obtain ⟨d, hd⟩ : ∃ d, j = i + d + 1 := ⟨j - i - 1, by omega⟩
    have := fr_mono h d i l[i] l[j] hp (by rw [← hd]; exact hq)
    exact (cmp_neg _ _).2 (ltP_trans this ((cmp_neg _ _).1 hc))
theorem fnd_mem {to_ : List Int} {l : List (Int × Int)} {t : Int × Int} {i : Nat} {q : Bool} (hf : frontsB to_ l = true) (h : Fnd (cmpN l t) l.length i q) : q = decide (t ∈ l) := by
  rw [h.is]
  by_cases hm : t ∈ l
  · obtain ⟨j, hj⟩ := List.mem_iff_getElem?.1 hm
    have hjl := (List.getElem?_eq_some_iff.1 hj).1
    have hz : cmpN l t j = 0 := by unfold cmpN; rw [getD_pr hj]; exact (cmp_zero t t).2 rfl
    have hij : i ≤ j := by
      rcases Nat.lt_or_ge j i with h1 | h1
      · have := h.lo j h1; omega
      · exact h1
    rw [decide_eq_true hm, decide_eq_true (show i < l.length by omega), Bool.true_and, decide_eq_true_iff]
    by_cases e : i = j
    · rw [e]; exact hz
    · have h1 := h.hi i (Nat.le_refl _) (by omega)
      have hp : l[i]? = some l[i] := List.getElem?_eq_getElem (by omega)
      obtain ⟨d, hd⟩ : ∃ d, j = i + d + 1 := ⟨j - i - 1, by omega⟩
      have h2 := (cmp_neg _ _).2 (fr_mono hf d i l[i] t hp (by rw [← hd]; exact hj))
      unfold cmpN at h1
      rw [getD_pr hp] at h1
      omega
  · rw [decide_eq_false hm]
    by_cases hi : i < l.length
    · rw [decide_eq_true hi, Bool.true_and, decide_eq_false]
      intro hc
      have hp : l[i]? = some l[i] := List.getElem?_eq_getElem hi
      unfold cmpN at hc
      rw [getD_pr hp] at hc
      have e := (cmp_zero _ _).1 hc
      exact hm (e ▸ List.getElem_mem hi)
    · rw [decide_eq_false hi]; rfl
end Go.Proofs.Ytodjkifcbgmckaa
