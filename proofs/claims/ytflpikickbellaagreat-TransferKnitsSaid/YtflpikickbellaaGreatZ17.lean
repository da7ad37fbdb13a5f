/- Layer 30. -/
import Derived.Test.YtflpikickbellaaGreatZ16
import Derived.Lib.SlicesCompact
namespace Go.Proofs.YtflpikickbellaaGreat
open Go.RowKit
set_option maxRecDepth 100000
def defF : Fd := ⟨0, false, 0⟩
def cmpF (l : List Fd) (c : Int) (j : Nat) : Int := (l.getD j defF).car - c
theorem getF_at {l : List Fd} {j : Nat} {h : Fd} (hr : l[j]? = some h) : l.getD j defF = h := by rw [List.getD, hr]; rfl
set_option maxHeartbeats 1000000 in
theorem feedcmp2_any (a : Fd) (c : Int) (ha : carP a.car) (hc : carP c) (w : World) :
 Calls Tryz.prog 145 #[.agg #[.int .i64 a.car, .bool a.fresh, .int .i64 a.place], .int .i64 c] w fun e w' => e = .returned (.int .i64 (a.car - c)) ∧ Below w.heap.size w w' := by
 have hbl := Lib.hid (fun o => (Below.refl w.heap.size w).alloc (Nat.le_refl _) o)
 unfold carP at ha hc
 have hw1 : IntKind.i64.wrap (a.car - c) = a.car - c := IntWalk.i64_in _ (by omega)
 go_enter Tryz.func145, Tryz.ntmps145
 go_wp2
 go_ret
 exact ⟨rfl, hbl.out _⟩
set_option maxHeartbeats 4000000 in
theorem bsF_any (A : Option Addr) (cp : Nat) (l : List Fd) (hn : l.length ≤ 10000) (hk : ∀ h ∈ l, carP h.car) (c : Int) (hc : carP c) (hm : ∀ i j, i ≤ j → j < l.length → cmpF l c j < 0 → cmpF l c i < 0) (w : World) (hs : SlF w w.heap.size A l) :
 Calls Tryz.prog 144 #[.slice A l.length cp, .int .i64 c, .func (.func 145) #[] #[]] w fun e w' => ∃ (i : Nat) (q : Bool), e = .returned (.tuple #[.int .i64 (i : Int), .bool q]) ∧ Found (cmpF l c) l.length i q ∧ Below w.heap.size w w' := by
 go_enter Tryz.func144, Tryz.ntmps144
 go_wp2
 go_loopw [9, 10, 11] (fun s9 s10 s11 wr => ∃ (i j : Nat) (v11 : Value), i ≤ j ∧ j ≤ l.length ∧ s9 = .int .i64 (i : Int) ∧ s10 = .int .i64 (j : Int) ∧ v11 = s11 ∧ Hid (∀ x, x < i → cmpF l c x < 0) ∧ Hid (∀ x, j ≤ x → x < l.length → 0 ≤ cmpF l c x) ∧ Below w.heap.size w wr) (fun s9 s10 _ _ => (intOf s10).toNat - (intOf s9).toNat)
 case atStart => exact ⟨0, l.length, _, Nat.zero_le _, Nat.le_refl _, rfl, rfl, rfl, (fun x hx => absurd hx (Nat.not_lt_zero x)), (fun x hx hx2 => by omega), Below.refl _ _⟩
 case round =>
  obtain ⟨i, j, v11, hij, hj, rfl, rfl, rfl, HLo, HHi, hbw⟩ := hrel
  by_cases hlt : i < j
  · obtain ⟨h, hh⟩ : ∃ h, h = (i + j) / 2 := ⟨_, rfl⟩
    have hil : (i : Int) < (j : Int) := by omega
    have hmid : ((i : Int) + (j : Int)) / 2 = (h : Int) := by omega
    have hhl : h < l.length := by omega
    have hih : i ≤ h := by omega
    have hhj : h < j := by omega
    obtain ⟨b, off, x, rfl, hB, hx, x0, x1, x2⟩ := hs.at_ hhl
    have hxn := hk x (List.mem_of_getElem? hx)
    have d0 := (bcell hbw hB _).trans x0
    have d1 := (bcell hbw hB _).trans x1
    have d2 := (bcell hbw hB _).trans x2
    have HPl := Lib.hid (fun w => feedcmp2_any x c hxn hc w)
    have HCm : Hid (cmpF l c h = x.car - c) := by unfold Hid cmpF; rw [getF_at hx]
    have hkm : (h : Int) < (l.length : Int) := by omega
    have HM : Hid (∀ i j, i ≤ j → j < l.length → cmpF l c j < 0 → cmpF l c i < 0) := hm
    have HH := Lib.hid (show _ ∧ _ from ⟨hh, hhl⟩)
    have hbz := hbw.size
    clear hs hk hx x0 x1 x2 hxn hc hm hh
    generalize x.car - c = z at HPl HCm
    by_cases hz : z < 0
    · have hzd : decide (z < 0) = true := decide_eq_true hz
      have HLo2 : Hid (∀ y, y < h + 1 → cmpF l c y < 0) := fun y hy => HM.out y h (by omega) HH.out.2 (by rw [HCm.out]; exact hz)
      clear hz HCm HM HLo
      go_wp2_with (go_at_call 145; refine (HPl.out _).mono ?_; rintro e w' ⟨rfl, hb1⟩)
      go_roundw
      case rel => exact ⟨h + 1, j, _, by omega, hj, by go_num, rfl, rfl, HLo2, HHi, hbw.trans (hb1.mono hbz)⟩
      case measure => simp [intOf]; omega
    · have hzd : decide (z < 0) = false := decide_eq_false hz
      have HHi2 : Hid (∀ y, h ≤ y → y < l.length → 0 ≤ cmpF l c y) := fun y hy hyl => by
       rcases Int.lt_or_le (cmpF l c y) 0 with hneg | hge
       · have := HM.out h y hy hyl hneg
         rw [HCm.out] at this; exact absurd this hz
       · exact hge
      clear hz HCm HM HHi
      go_wp2_with (go_at_call 145; refine (HPl.out _).mono ?_; rintro e w' ⟨rfl, hb1⟩)
      go_roundw
      case rel => exact ⟨i, h, _, hih, by omega, rfl, rfl, rfl, HLo, HHi2, hbw.trans (hb1.mono hbz)⟩
      case measure => simp [intOf]; omega
  · obtain rfl : i = j := by omega
    have hil : decide ((i : Int) < (i : Int)) = false := decide_eq_false (by omega)
    by_cases hin : i < l.length
    case neg =>
     have hind : decide ((i : Int) < (l.length : Int)) = false := decide_eq_false (by omega)
     have HF : Hid (Found (cmpF l c) l.length i false) := ⟨hj, HLo.out, HHi.out, by rw [decide_eq_false hin]; rfl⟩
     clear hs hk hc hm HLo HHi
     go_wp2
     go_ret2
     exact ⟨i, false, rfl, HF.out, hbw⟩
    case pos =>
     obtain ⟨b, off, x, rfl, hB, hx, x0, x1, x2⟩ := hs.at_ hin
     have hxn := hk x (List.mem_of_getElem? hx)
     have d0 := (bcell hbw hB _).trans x0
     have d1 := (bcell hbw hB _).trans x1
     have d2 := (bcell hbw hB _).trans x2
     have HPl := Lib.hid (fun w => feedcmp2_any x c hxn hc w)
     have HF : Hid (Found (cmpF l c) l.length i (x.car - c == 0)) := ⟨hj, HLo.out, HHi.out, by
      unfold cmpF; rw [decide_eq_true hin, getF_at hx, Bool.true_and, Bool.eq_iff_iff]; simp⟩
     have hkm : (i : Int) < (l.length : Int) := by omega
     have hind : decide ((i : Int) < (l.length : Int)) = true := decide_eq_true (by omega)
     have hbz := hbw.size
     clear hs hk hx x0 x1 x2 hxn hc hm HLo HHi
     generalize x.car - c = z at HPl HF
     cases hq : (z == 0) with
     | false =>
       rw [hq] at HF
       go_wp2_with (go_at_call 145; refine (HPl.out _).mono ?_; rintro e w' ⟨rfl, hb1⟩)
       go_ret2
       exact ⟨i, _, rfl, HF.out, hbw.trans (hb1.mono hbz)⟩
     | true =>
       rw [hq] at HF
       go_wp2_with (go_at_call 145; refine (HPl.out _).mono ?_; rintro e w' ⟨rfl, hb1⟩)
       go_ret2
       exact ⟨i, _, rfl, HF.out, hbw.trans (hb1.mono hbz)⟩
end Go.Proofs.YtflpikickbellaaGreat
namespace Go.Proofs.YtflpikickbellaaGreat
open Go.RowKit Go.Shelf Go.Sort
set_option maxRecDepth 100000
def distB' (l : List Int) (n : Int) : Bool := decide (∀ x ∈ l, 0 ≤ x ∧ x < n) && decide l.Nodup
theorem sortZ_perm (l : List Int) : (sortZ l).Perm l := List.mergeSort_perm l _
theorem sortZ_le (l : List Int) : (sortZ l).Pairwise (· ≤ ·) := by
 have h := List.pairwise_mergeSort (le := fun x y : Int => decide (x ≤ y)) (fun a b c h1 h2 => by simp only [decide_eq_true_eq] at *; omega) (fun a b => by simp only [Bool.or_eq_true, decide_eq_true_eq]; omega) l
 exact h.imp fun h => of_decide_eq_true h
theorem get_le {s : List Int} (h : s.Pairwise (· ≤ ·)) {i j : Nat} (hij : i ≤ j) (hj : j < s.length) : s[i]'(by omega) ≤ s[j] := by
 rcases Nat.lt_or_eq_of_le hij with e | e
 · exact List.pairwise_iff_getElem.1 h i j (by omega) hj e
 · subst e; exact Int.le_refl _
theorem compact_iff (s : List Int) : (Lib.compact s).length = s.length ↔ ∀ j (h : j + 1 < s.length), s[j + 1] ≠ s[j] := by
 unfold Lib.compact Lib.compactUpTo
 rw [List.length_map]
 have hr : (List.range s.length).length = s.length := List.length_range
 constructor
 · intro h j hj
   have h1 : ((List.range s.length).filter (Lib.keeps s.toArray)).length = (List.range s.length).length := by rw [h, hr]
   have h2 := List.length_filter_eq_length_iff.1 h1 (j + 1) (List.mem_range.2 hj)
   unfold Lib.keeps at h2
   have h3 := of_decide_eq_true h2
   rw [Nat.add_sub_cancel, getElem!_pos s.toArray (j + 1) (by simpa using hj), getElem!_pos s.toArray j (by simp; omega)] at h3
   rcases h3 with h3 | h3
   · omega
   · simpa using h3
 · intro h
   have h1 : ((List.range s.length).filter (Lib.keeps s.toArray)).length = (List.range s.length).length := by
    refine List.length_filter_eq_length_iff.2 fun j hj => ?_
    have hj' := List.mem_range.1 hj
    unfold Lib.keeps
    rw [decide_eq_true_iff]
    cases j with
    | zero => exact Or.inl rfl
    | succ j =>
      refine Or.inr ?_
      rw [Nat.add_sub_cancel, getElem!_pos s.toArray (j + 1) (by simpa using hj'), getElem!_pos s.toArray j (by simp; omega)]
      simpa using h j hj'
   rw [h1, hr]
theorem lt_of_step {s : List Int} (hle : s.Pairwise (· ≤ ·)) (h : ∀ j (h : j + 1 < s.length), s[j + 1] ≠ s[j]) : s.Nodup := by
 unfold List.Nodup
 rw [List.pairwise_iff_getElem]
 intro i j hi hj hij
 have h1 := get_le hle (i := i) (j := j - 1) (by omega) (by omega)
 have h2 := get_le hle (i := j - 1) (j := j) (by omega) hj
 have h3 := h (j - 1) (by omega)
 simp only [Nat.sub_add_cancel (show 1 ≤ j by omega)] at h3
 intro e
 omega
theorem distinct_plain {l : List Int} (hp : 0 < l.length) (n : Int) (h0 : 0 < (sortZ l).length) (hl : (sortZ l).length - 1 < (sortZ l).length) :
 (decide ((0 : Int) ≤ (sortZ l)[0]) && (decide ((sortZ l)[(sortZ l).length - 1] < n) && decide ((Lib.compact (sortZ l)).length = l.length))) = distB' l n := by
 have hle := sortZ_le l
 have hpm := sortZ_perm l
 have hsl := sortZ_len l
 have hnd : l.Nodup ↔ (sortZ l).Nodup := hpm.nodup_iff.symm
 have hmem : ∀ x, x ∈ sortZ l ↔ x ∈ l := fun x => hpm.mem_iff
 rw [← hsl]
 generalize sortZ l = s at hle hpm hsl hnd hmem h0 hl
 unfold distB'
 rw [Bool.eq_iff_iff]
 simp only [Bool.and_eq_true, decide_eq_true_eq]
 rw [hnd, compact_iff]
 constructor
 · rintro ⟨a, b, c⟩
   refine ⟨fun x hx => ?_, lt_of_step hle c⟩
   obtain ⟨i, hi, rfl⟩ := List.mem_iff_getElem.1 ((hmem x).2 hx)
   have h1 := get_le hle (i := 0) (j := i) (by omega) hi
   have h2 := get_le hle (i := i) (j := s.length - 1) (by omega) hl
   omega
 · rintro ⟨a, c⟩
   refine ⟨(a _ ((hmem _).1 (List.getElem_mem h0))).1, (a _ ((hmem _).1 (List.getElem_mem hl))).2, fun j hj e => ?_⟩
   have := List.pairwise_iff_getElem.1 c j (j + 1) (by omega) hj (by omega)
   exact this e.symm
theorem grown_row {w : World} {g n : Nat} (d : Array Int) : w.grownBy (putRow (Value.int .i64) (Sort.ahead w n) g 0 d) (some g) := by
 refine ⟨rfl, rfl, rfl, by simp, fun k hk hne => ?_⟩
 have : g ≠ k := fun e => hne (by rw [e])
 simp [putRow, mapBlock, Sort.ahead, Array.getElem?_modify, this]
set_option maxHeartbeats 4000000 in
theorem distinct_any (A : Option Addr) (c : Nat) (l : List Int) (hl : l.length ≤ 1000000) (n : Int) (w : World) (hs : SlI w w.heap.size A l) :
 Calls Tryz.prog 67 #[.slice A l.length c, .int .i64 n] w fun e w' => e = .returned (.bool (distB' l n)) ∧ Below w.heap.size w w' := by
 have HV := Lib.hid (values_any A l.length c w)
 have hb0 : Below w.heap.size w (w.alloc (.cells #[.slice A l.length c] 22)) := (Below.refl _ w).alloc (Nat.le_refl _) _
 have HSo := Lib.hid (sorted_any w.heap.size A c l hl (w.alloc (.cells #[.slice A l.length c] 22)) (by simp) (cell_new rfl rfl rfl) ((hs.below hb0).more hb0.size))
 have HB0 := Lib.hid hb0
 clear hs hb0
 by_cases hp : 0 < l.length
 case neg =>
  have hnil : l = [] := List.length_eq_zero_iff.1 (by omega)
  subst hnil
  have HD : Hid (distB' [] n = true) := by simp [Hid, distB']
  go_enter Tryz.func67, Tryz.ntmps67
  go_wp2_with (first
   | (go_at_call 27; refine HV.out.mono ?_; rintro e w1 ⟨rfl, rfl⟩)
   | (go_at_call 26; refine HSo.out.mono ?_; rintro e w2 ⟨v, rfl, hown, hb2⟩))
  go_ret
  exact ⟨ret_bool HD.out.symm, HB0.out.trans (hb2.mono HB0.out.size)⟩
 case pos =>
  have h0 : 0 < (sortZ l).length := by rw [sortZ_len]; exact hp
  have hlast : (sortZ l).length - 1 < (sortZ l).length := by omega
  have HD := Lib.hid (distinct_plain hp n h0 hlast)
  obtain ⟨m, hm⟩ : ∃ m, l.length = m + 1 := ⟨l.length - 1, by omega⟩
  have hsl := sortZ_len l
  have hg0 : (sortZ l)[0]? = some (sortZ l)[0] := List.getElem?_eq_getElem h0
  have hgl : (sortZ l)[m]? = some ((sortZ l)[(sortZ l).length - 1]) := by
   rw [List.getElem?_eq_getElem (show m < (sortZ l).length by omega)]
   congr 1
   have : m = (sortZ l).length - 1 := by omega
   subst this; rfl
  generalize (sortZ l)[0] = s0 at HD hg0
  generalize (sortZ l)[(sortZ l).length - 1] = s1 at HD hgl
  clear h0 hlast hp
  have hmb : m ≤ 1000000 := by omega
  rw [hm] at HV HSo HD HB0 hsl ⊢
  have HSl := Lib.hid hsl
  have HM := Lib.hid hm
  clear hm hsl
  go_enter Tryz.func67, Tryz.ntmps67
  go_upto_region 2 with (first
   | (go_at_call 27; refine HV.out.mono ?_; rintro e w1 ⟨rfl, rfl⟩)
   | (go_at_call 26; refine HSo.out.mono ?_; rintro e w2 ⟨v, rfl, hown, hb2⟩))
  have hsl := HSl.out
  have hm := HM.out
  obtain ⟨g, cap, rfl⟩ : ∃ g cap, v = .slice (some ⟨g, 0, none⟩) (m + 1) cap := by
   rcases hown.2 with ⟨_, h⟩ | ⟨g, cap, cur, h, _⟩
   · omega
   · exact ⟨g, cap, by rw [h, hsl]⟩
  have hown' : w2.ownsRow (w.alloc (.cells #[.slice A (m + 1) c] 22)).heap.size 3 1 (.slice (some ⟨g, 0, none⟩) (m + 1) cap) (m + 1) (intV (sortZ l)) := by
   have h := hown
   unfold ownI at h
   rw [hsl] at h
   exact h
  have hc0 : w2.cell? ⟨g, 0, none⟩ = some (.int .i64 s0) := by
   rw [hown'.cellAt 0 (by omega)]; unfold intV; rw [List.getElem?_map, hg0]; rfl
  have hc1 : w2.cell? ⟨g, m, none⟩ = some (.int .i64 s1) := by
   rw [hown'.cellAt m (by omega)]; unfold intV; rw [List.getElem?_map, hgl]; rfl
  have hcap : m + 1 ≤ cap := by
   obtain ⟨a9, c9, e, h⟩ := own_slice hown'
   cases e; exact h
  have hH : Holds (Value.int .i64) w2 g 0 (sortZ l).toArray := fun j hj => by
   have hj' : j < (sortZ l).length := by simpa using hj
   rw [Nat.zero_add]
   refine ⟨?_, hown'.frozenAt j⟩
   rw [hown'.cellAt j (by omega)]
   unfold intV
   rw [List.getElem?_map, List.getElem?_eq_getElem hj', getElem!_pos (sortZ l).toArray j hj]; rfl
  have hcp := Tryz.slices_Compact_int g 0 cap (sortZ l) w2 hH (by omega) (by omega)
  rw [hsl] at hcp
  have HCp := Lib.hid hcp
  have hgz : w.heap.size ≤ g := by have := (hown'.lt g rfl).1; simp at this; omega
  have HB2 := Lib.hid (HB0.out.trans (hb2.mono HB0.out.size))
  have hb3 : ∀ q (d : Array Int), Below w.heap.size w (putRow (Value.int .i64) (Sort.ahead w2 q) g 0 d) := fun q d => HB2.out.grown (grown_row d) HB2.out.size (fun j hj => by cases hj; exact hgz)
  have HB3 := Lib.hid hb3
  clear hown hown' hH hcp hb2 hb3 hg0 hgl hsl hm HV HSo hgz HSl HM
  generalize (Lib.compact (sortZ l)).length = k at HD HCp
  have hcl : decide ((m : Int) < ((m + 1 : Nat) : Int)) = true := decide_eq_true (by omega)
  have hsub : IntKind.i64.wrap (((m + 1 : Nat) : Int) - 1) = (m : Int) := by rw [show ((m + 1 : Nat) : Int) - 1 = (m : Int) by omega]; exact IntWalk.i64_in _ (by omega)
  cases q1 : decide (0 ≤ s0) with
  | false =>
    have HF : Hid (distB' l n = false) := by unfold Hid; rw [← HD.out, q1]; rfl
    clear HD
    go_wp2
    go_ret
    exact ⟨ret_bool HF.out.symm, HB2.out⟩
  | true =>
    cases q2 : decide (s1 < n) with
    | false =>
      have HF : Hid (distB' l n = false) := by unfold Hid; rw [← HD.out, q1, q2]; rfl
      clear HD
      go_wp2
      go_ret
      exact ⟨ret_bool HF.out.symm, HB2.out⟩
    | true =>
      have HF : Hid (distB' l n = decide (k = m + 1)) := by unfold Hid; rw [← HD.out, q1, q2]; rfl
      clear HD
      go_wp2_with (go_at_call 100; refine HCp.out.mono ?_; rintro e w3 ⟨rfl, q, rfl⟩)
      go_ret
      exact ⟨ret_bool (by rw [HF.out, Bool.eq_iff_iff]; simp; omega), HB3.out _ _⟩
end Go.Proofs.YtflpikickbellaaGreat
