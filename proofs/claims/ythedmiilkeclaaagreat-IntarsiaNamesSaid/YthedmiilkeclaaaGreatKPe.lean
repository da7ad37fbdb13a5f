/- slices.Sorted of slices.Values, Compact of it, at ints. bed.distinct: numbers pairwise different, and within bounds. bed.distinct walked. -/
import Derived.Test.YthedmiilkeclaaaGreatKPd
import Derived.Test.YthedmiilkeclaaaGreatShelf
import Derived.Lib.SlKeysI
import Derived.Sort.OwnSorted
import Derived.Lib.SlicesCompact
namespace Go.Proofs.YthedmiilkeclaaaGreat
open Go.RowKit Go.Shelf Go.Sort Go.Maps
set_option maxRecDepth 100000

def sortZ (l : List Int) : List Int := l.mergeSort fun x y => decide (x ≤ y)
theorem sortZ_len (l : List Int) : (sortZ l).length = l.length := by unfold sortZ; exact List.length_mergeSort l
theorem sortZ_mem {l : List Int} {x : Int} : x ∈ sortZ l ↔ x ∈ l := by unfold sortZ; exact List.mem_mergeSort
/-- A slice that the call owns. -/
def ownI (w : World) (B : Nat) (v : Value) (l : List Int) : Prop := w.ownsRow B 3 1 v l.length (intV l)
theorem ownI.slI {w : World} {B : Nat} {a : Option Addr} {n c : Nat} {l : List Int} (h : ownI w B (.slice a n c) l) : SlI w w.heap.size a l := fun hne => by
  have hp : 0 < l.length := List.length_pos_iff.2 hne
  rcases h.2 with ⟨hv, h0⟩ | ⟨g, cap, cur, hv, hg, hh, r⟩
  · omega
  · cases hv
    refine ⟨g, 0, rfl, (Array.getElem?_eq_some_iff.1 hh).1, fun j z hz => ?_⟩
    have hlt : j < l.length := (List.getElem?_eq_some_iff.1 hz).1
    have := World.ownsRow.cellAt h j (by omega)
    rw [Nat.zero_add, this]
    unfold intV
    rw [List.getElem?_map, hz]; rfl
set_option maxHeartbeats 1000000 in
theorem collect_any (Bs : Nat) (A : Option Addr) (c : Nat) (zs : List Int) (hl : zs.length ≤ 1000000) (w : World) (hBs : Bs < w.heap.size) (hc0 : w.cell? ⟨Bs, 0, none⟩ = some (.slice A zs.length c)) (hs : SlI w w.heap.size A zs) :
    Calls Tryz.prog 43 #[.func (.func 45) #[] #[.pointer (some ⟨Bs, 0, none⟩)]] w fun e w' => ∃ v, e = .returned v ∧ ownI w' w.heap.size v zs ∧ Below w.heap.size w w' := by
  have HA := Lib.hid (appendSeq_any Bs A c zs hl w hBs hc0 hs)
  clear hs hc0
  go_enter Tryz.func43, Tryz.ntmps43
  go_wp2_with (go_at_call 66; refine HA.out.mono ?_; rintro e w1 ⟨v, rfl, hown, hb⟩)
  go_ret
  exact ⟨v, rfl, hown, hb⟩
set_option maxHeartbeats 2000000 in
theorem sorted_any (Bs : Nat) (A : Option Addr) (c : Nat) (zs : List Int) (hl : zs.length ≤ 1000000) (w : World) (hBs : Bs < w.heap.size) (hc0 : w.cell? ⟨Bs, 0, none⟩ = some (.slice A zs.length c)) (hs : SlI w w.heap.size A zs) :
    Calls Tryz.prog 23 #[.func (.func 45) #[] #[.pointer (some ⟨Bs, 0, none⟩)]] w fun e w' => ∃ v, e = .returned v ∧ ownI w' w.heap.size v (sortZ zs) ∧ Below w.heap.size w w' := by
  have HA := Lib.hid (collect_any Bs A c zs hl w hBs hc0 hs)
  clear hs hc0
  go_enter Tryz.func23, Tryz.ntmps23
  go_wp2_with fail
  refine HA.out.mono ?_
  rintro e w1 ⟨v, rfl, hown, hb⟩
  rcases hown.2 with ⟨rfl, hz⟩ | ⟨gb, cap, cur, rfl, hbase, hgb, r1, r2, r3, r4⟩
  · have hzs : zs = [] := List.eq_nil_of_length_eq_zero hz
    subst hzs
    have HB := Lib.hid hb
    have hn : sortZ [] = [] := by simp [sortZ]
    clear hown hb
    go_wp2_with fail
    refine (Tryz.slices_Sort_int_none none 0 w1).mono ?_
    rintro e w' ⟨rfl, rfl⟩
    go_wp2
    go_ret
    exact ⟨.slice none 0 0, rfl, by rw [hn]; exact World.ownsRow_nil _ _ _ _, HB.out⟩
  · have hH : Holds (Value.int .i64) w1 gb 0 zs.toArray := holds_of_block_i hgb (by simpa [intV] using r4)
    have hgl : gb < w1.heap.size := (Array.getElem?_eq_some_iff.1 hgb).1
    have cS := Tryz.slices_Sort_int gb 0 cap zs w1 hH hgl (by omega)
    have HB := Lib.hid hb
    have HR := Lib.hid (show _ ∧ _ ∧ _ ∧ _ ∧ _ from ⟨hbase, hgb, r1, r2, r3⟩)
    clear hown hb hH r4 hgb
    go_wp2_with fail
    refine cS.mono ?_
    rintro e w' ⟨rfl, nn, os, rfl⟩
    have ho : (grow (putRow (Value.int .i64) (Sort.ahead w1 nn) gb 0 (sortZ zs).toArray) os).ownsRow w.heap.size 3 1 (.slice (some ⟨gb, 0, none⟩) zs.length cap) zs.length (intV (sortZ zs)) :=
      ownsRow_sorted_i (sortZ_len zs) HR.out.1 HR.out.2.1 HR.out.2.2.1 HR.out.2.2.2.1 HR.out.2.2.2.2
    have hbb : Below w.heap.size w (grow (putRow (Value.int .i64) (Sort.ahead w1 nn) gb 0 (sortZ zs).toArray) os) := HB.out.grown (grownBy_sorted_i _) HB.out.size (fun j hj => by cases hj; exact HR.out.1)
    have HO := Lib.hid (show _ ∧ _ from ⟨ho, hbb⟩)
    clear ho hbb cS HR HB
    obtain ⟨w2, hw2⟩ : ∃ w2, w2 = grow (putRow (Value.int .i64) (Sort.ahead w1 nn) gb 0 (zs.mergeSort fun x y => decide (x ≤ y)).toArray) os := ⟨_, rfl⟩
    have HO2 : Hid (w2.ownsRow w.heap.size 3 1 (.slice (some ⟨gb, 0, none⟩) zs.length cap) zs.length (intV (sortZ zs)) ∧ Below w.heap.size w w2) := by rw [hw2]; exact HO.out
    rw [← hw2]
    clear HO hw2
    go_wp2
    go_ret
    refine ⟨_, rfl, ?_, HO2.out.2⟩
    unfold ownI
    rw [sortZ_len]
    exact HO2.out.1
end Go.Proofs.YthedmiilkeclaaaGreat
namespace Go.Proofs.YthedmiilkeclaaaGreat
open Go.RowKit Go.Shelf Go.Sort
set_option maxRecDepth 100000

def distB' (l : List Int) (n : Int) : Bool := decide (∀ x ∈ l, 0 ≤ x ∧ x < n) && decide l.Nodup
theorem sortZ_perm (l : List Int) : (sortZ l).Perm l := List.mergeSort_perm l _
theorem sortZ_le (l : List Int) : (sortZ l).Pairwise (· ≤ ·) := by
  have h := List.pairwise_mergeSort (le := fun x y : Int => decide (x ≤ y)) (fun a b c h1 h2 => by simp only [decide_eq_true_eq] at *; omega) (fun a b => by simp only [Bool.or_eq_true, decide_eq_true_eq]; omega) l
  exact h.imp fun h => of_decide_eq_true h
theorem get_le {s : List Int} (h : s.Pairwise (· ≤ ·)) {i j : Nat} (hij : i ≤ j) (hj : j < s.length) : s[i]'(by omega) ≤ s[j] := by
  rcases Nat.lt_or_eq_of_le hij with e | e
  · exact List.pairwise_iff_getElem.1 h i j (by omega) hj e
  · subst e; exact Int.le_refl _
theorem compact_iff (s : List Int) : (Lib.compact s).length = s.length ↔ ∀ j (h : j + 1 < s.length), s[j + 1] ≠ s[j] := by
  unfold Lib.compact Lib.compactUpTo
  rw [List.length_map]
  have hr : (List.range s.length).length = s.length := List.length_range
  constructor
  · intro h j hj
    have h1 : ((List.range s.length).filter (Lib.keeps s.toArray)).length = (List.range s.length).length := by rw [h, hr]
    have h2 := List.length_filter_eq_length_iff.1 h1 (j + 1) (List.mem_range.2 hj)
    unfold Lib.keeps at h2
    have h3 := of_decide_eq_true h2
    rw [Nat.add_sub_cancel, getElem!_pos s.toArray (j + 1) (by simpa using hj), getElem!_pos s.toArray j (by simp; omega)] at h3
    rcases h3 with h3 | h3
    · omega
    · simpa using h3
  · intro h
    have h1 : ((List.range s.length).filter (Lib.keeps s.toArray)).length = (List.range s.length).length := by
      refine List.length_filter_eq_length_iff.2 fun j hj => ?_
      have hj' := List.mem_range.1 hj
      unfold Lib.keeps
      rw [decide_eq_true_iff]
      cases j with
      | zero => exact Or.inl rfl
      | succ j =>
        refine Or.inr ?_
        rw [Nat.add_sub_cancel, getElem!_pos s.toArray (j + 1) (by simpa using hj'), getElem!_pos s.toArray j (by simp; omega)]
        simpa using h j hj'
    rw [h1, hr]
theorem lt_of_step {s : List Int} (hle : s.Pairwise (· ≤ ·)) (h : ∀ j (h : j + 1 < s.length), s[j + 1] ≠ s[j]) : s.Nodup := by
  unfold List.Nodup
  rw [List.pairwise_iff_getElem]
  intro i j hi hj hij
  have h1 := get_le hle (i := i) (j := j - 1) (by omega) (by omega)
  have h2 := get_le hle (i := j - 1) (j := j) (by omega) hj
  have h3 := h (j - 1) (by omega)
  simp only [Nat.sub_add_cancel (show 1 ≤ j by omega)] at h3
  intro e
  omega
theorem distinct_plain {l : List Int} (hp : 0 < l.length) (n : Int) (h0 : 0 < (sortZ l).length) (hl : (sortZ l).length - 1 < (sortZ l).length) :
    (decide ((0 : Int) ≤ (sortZ l)[0]) && (decide ((sortZ l)[(sortZ l).length - 1] < n) && decide ((Lib.compact (sortZ l)).length = l.length))) = distB' l n := by
  have hle := sortZ_le l
  have hpm := sortZ_perm l
  have hsl := sortZ_len l
  have hnd : l.Nodup ↔ (sortZ l).Nodup := hpm.nodup_iff.symm
  have hmem : ∀ x, x ∈ sortZ l ↔ x ∈ l := fun x => hpm.mem_iff
  rw [← hsl]
  generalize sortZ l = s at hle hpm hsl hnd hmem h0 hl
  unfold distB'
  rw [Bool.eq_iff_iff]
  simp only [Bool.and_eq_true, decide_eq_true_eq]
  rw [hnd, compact_iff]
  constructor
  · rintro ⟨a, b, c⟩
    refine ⟨fun x hx => ?_, lt_of_step hle c⟩
    obtain ⟨i, hi, rfl⟩ := List.mem_iff_getElem.1 ((hmem x).2 hx)
    have h1 := get_le hle (i := 0) (j := i) (by omega) hi
    have h2 := get_le hle (i := i) (j := s.length - 1) (by omega) hl
    omega
  · rintro ⟨a, c⟩
    refine ⟨(a _ ((hmem _).1 (List.getElem_mem h0))).1, (a _ ((hmem _).1 (List.getElem_mem hl))).2, fun j hj e => ?_⟩
    have := List.pairwise_iff_getElem.1 c j (j + 1) (by omega) hj (by omega)
    exact this e.symm
end Go.Proofs.YthedmiilkeclaaaGreat
namespace Go.Proofs.YthedmiilkeclaaaGreat
open Go.RowKit Go.Shelf Go.Sort
set_option maxRecDepth 100000

theorem grown_row {w : World} {g n : Nat} (d : Array Int) : w.grownBy (putRow (Value.int .i64) (Sort.ahead w n) g 0 d) (some g) := by
  refine ⟨rfl, rfl, rfl, by simp, fun k hk hne => ?_⟩
  have : g ≠ k := fun e => hne (by rw [e])
  simp [putRow, mapBlock, Sort.ahead, Array.getElem?_modify, this]
set_option maxHeartbeats 4000000 in
theorem distinct_any (A : Option Addr) (c : Nat) (l : List Int) (hl : l.length ≤ 1000000) (n : Int) (w : World) (hs : SlI w w.heap.size A l) :
    Calls Tryz.prog 51 #[.slice A l.length c, .int .i64 n] w fun e w' => e = .returned (.bool (distB' l n)) ∧ Below w.heap.size w w' := by
  have HV := Lib.hid (values_any A l.length c w)
  have hb0 : Below w.heap.size w (w.alloc (.cells #[.slice A l.length c] 22)) := (Below.refl _ w).alloc (Nat.le_refl _) _
  have HSo := Lib.hid (sorted_any w.heap.size A c l hl (w.alloc (.cells #[.slice A l.length c] 22)) (by simp) (cell_new rfl rfl rfl) ((hs.below hb0).more hb0.size))
  have HB0 := Lib.hid hb0
  clear hs hb0
  by_cases hp : 0 < l.length
  case neg =>
    have hnil : l = [] := List.length_eq_zero_iff.1 (by omega)
    subst hnil
    have HD : Hid (distB' [] n = true) := by simp [Hid, distB']
    go_enter Tryz.func51, Tryz.ntmps51
    go_wp2_with (first
      | (go_at_call 24; refine HV.out.mono ?_; rintro e w1 ⟨rfl, rfl⟩)
      | (go_at_call 23; refine HSo.out.mono ?_; rintro e w2 ⟨v, rfl, hown, hb2⟩))
    go_ret
    exact ⟨ret_bool HD.out.symm, HB0.out.trans (hb2.mono HB0.out.size)⟩
  case pos =>
    have h0 : 0 < (sortZ l).length := by rw [sortZ_len]; exact hp
    have hlast : (sortZ l).length - 1 < (sortZ l).length := by omega
    have HD := Lib.hid (distinct_plain hp n h0 hlast)
    obtain ⟨m, hm⟩ : ∃ m, l.length = m + 1 := ⟨l.length - 1, by omega⟩
    have hsl := sortZ_len l
    have hg0 : (sortZ l)[0]? = some (sortZ l)[0] := List.getElem?_eq_getElem h0
    have hgl : (sortZ l)[m]? = some ((sortZ l)[(sortZ l).length - 1]) := by
      rw [List.getElem?_eq_getElem (show m < (sortZ l).length by omega)]
      congr 1
      have : m = (sortZ l).length - 1 := by omega
      subst this; rfl
    generalize (sortZ l)[0] = s0 at HD hg0
    generalize (sortZ l)[(sortZ l).length - 1] = s1 at HD hgl
    clear h0 hlast hp
    have hmb : m ≤ 1000000 := by omega
    rw [hm] at HV HSo HD HB0 hsl ⊢
    have HSl := Lib.hid hsl
    have HM := Lib.hid hm
    clear hm hsl
    go_enter Tryz.func51, Tryz.ntmps51
    go_upto_region 2 with (first
      | (go_at_call 24; refine HV.out.mono ?_; rintro e w1 ⟨rfl, rfl⟩)
      | (go_at_call 23; refine HSo.out.mono ?_; rintro e w2 ⟨v, rfl, hown, hb2⟩))
    have hsl := HSl.out
    have hm := HM.out
    obtain ⟨g, cap, rfl⟩ : ∃ g cap, v = .slice (some ⟨g, 0, none⟩) (m + 1) cap := by
      rcases hown.2 with ⟨_, h⟩ | ⟨g, cap, cur, h, _⟩
      · omega
      · exact ⟨g, cap, by rw [h, hsl]⟩
    have hown' : w2.ownsRow (w.alloc (.cells #[.slice A (m + 1) c] 22)).heap.size 3 1 (.slice (some ⟨g, 0, none⟩) (m + 1) cap) (m + 1) (intV (sortZ l)) := by
      have h := hown
      unfold ownI at h
      rw [hsl] at h
      exact h
    have hc0 : w2.cell? ⟨g, 0, none⟩ = some (.int .i64 s0) := by
      rw [hown'.cellAt 0 (by omega)]; unfold intV; rw [List.getElem?_map, hg0]; rfl
    have hc1 : w2.cell? ⟨g, m, none⟩ = some (.int .i64 s1) := by
      rw [hown'.cellAt m (by omega)]; unfold intV; rw [List.getElem?_map, hgl]; rfl
    have hcap : m + 1 ≤ cap := by
      obtain ⟨a9, c9, e, h⟩ := own_slice hown'
      cases e; exact h
    have hH : Holds (Value.int .i64) w2 g 0 (sortZ l).toArray := fun j hj => by
      have hj' : j < (sortZ l).length := by simpa using hj
      rw [Nat.zero_add]
      refine ⟨?_, hown'.frozenAt j⟩
      rw [hown'.cellAt j (by omega)]
      unfold intV
      rw [List.getElem?_map, List.getElem?_eq_getElem hj', getElem!_pos (sortZ l).toArray j hj]; rfl
    have hcp := Tryz.slices_Compact_int g 0 cap (sortZ l) w2 hH (by omega) (by omega)
    rw [hsl] at hcp
    have HCp := Lib.hid hcp
    have hgz : w.heap.size ≤ g := by have := (hown'.lt g rfl).1; simp at this; omega
    have HB2 := Lib.hid (HB0.out.trans (hb2.mono HB0.out.size))
    have hb3 : ∀ q (d : Array Int), Below w.heap.size w (putRow (Value.int .i64) (Sort.ahead w2 q) g 0 d) := fun q d => HB2.out.grown (grown_row d) HB2.out.size (fun j hj => by cases hj; exact hgz)
    have HB3 := Lib.hid hb3
    clear hown hown' hH hcp hb2 hb3 hg0 hgl hsl hm HV HSo hgz HSl HM
    generalize (Lib.compact (sortZ l)).length = k at HD HCp
    have hcl : decide ((m : Int) < ((m + 1 : Nat) : Int)) = true := decide_eq_true (by omega)
    have hsub : IntKind.i64.wrap (((m + 1 : Nat) : Int) - 1) = (m : Int) := by rw [show ((m + 1 : Nat) : Int) - 1 = (m : Int) by omega]; exact IntWalk.i64_in _ (by omega)
    cases q1 : decide (0 ≤ s0) with
    | false =>
      have HF : Hid (distB' l n = false) := by unfold Hid; rw [← HD.out, q1]; rfl
      clear HD
      go_wp2
      go_ret
      exact ⟨ret_bool HF.out.symm, HB2.out⟩
    | true =>
      cases q2 : decide (s1 < n) with
      | false =>
        have HF : Hid (distB' l n = false) := by unfold Hid; rw [← HD.out, q1, q2]; rfl
        clear HD
        go_wp2
        go_ret
        exact ⟨ret_bool HF.out.symm, HB2.out⟩
      | true =>
        have HF : Hid (distB' l n = decide (k = m + 1)) := by unfold Hid; rw [← HD.out, q1, q2]; rfl
        clear HD
        go_wp2_with (go_at_call 22; refine HCp.out.mono ?_; rintro e w3 ⟨rfl, q, rfl⟩)
        go_ret
        exact ⟨ret_bool (by rw [HF.out, Bool.eq_iff_iff]; simp; omega), HB3.out _ _⟩
end Go.Proofs.YthedmiilkeclaaaGreat
