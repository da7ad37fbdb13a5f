/- Layer 34, plain: the colours of a row; the program of a picture. Layer 34, contracts: Plan's closure; the colours of a row; rows of instructions and of directions. -/
import Derived.Test.YthedmiilkeclaaaGreatKRe
import Derived.Test.YthedmiilkeclaaaGreatKPe
import Derived.Test.YthedmiilkeclaaaGreatKRc
import Derived.Test.YthedmiilkeclaaaGreatKPg
import Derived.Test.YthedmiilkeclaaaGreatKRd
namespace Go.Proofs.YthedmiilkeclaaaGreat
open Go.RowKit
open Go.Proofs.YthedmiilkeclaaaGreat.I34
set_option maxRecDepth 100000

/-- The colours of a row, in order. -/
def colsOf (row : List Int) : List Int := ([1, 2, 3, 4, 5, 6] : List Int).filter (row.contains ·)
theorem lt_ext : ∀ {l m : List Int}, l.Pairwise (· < ·) → m.Pairwise (· < ·) → (∀ x, x ∈ l ↔ x ∈ m) → l = m
  | [], [], _, _, _ => rfl
  | [], b :: _, _, _, h => absurd ((h b).2 List.mem_cons_self) List.not_mem_nil
  | a :: _, [], _, _, h => absurd ((h a).1 List.mem_cons_self) List.not_mem_nil
  | a :: l, b :: m, hl, hm, h => by
    obtain ⟨l1, l2⟩ := List.pairwise_cons.1 hl
    obtain ⟨m1, m2⟩ := List.pairwise_cons.1 hm
    have hab : a = b := by
      rcases List.mem_cons.1 ((h a).1 List.mem_cons_self) with e | e
      · exact e
      · rcases List.mem_cons.1 ((h b).2 List.mem_cons_self) with e2 | e2
        · exact e2.symm
        · have := m1 a e; have := l1 b e2; omega
    subst hab
    congr 1
    refine lt_ext l2 m2 fun x => ⟨fun hx => ?_, fun hx => ?_⟩
    · rcases List.mem_cons.1 ((h x).1 (List.mem_cons_of_mem _ hx)) with e | e
      · have := l1 x hx; omega
      · exact e
    · rcases List.mem_cons.1 ((h x).2 (List.mem_cons_of_mem _ hx)) with e | e
      · have := m1 x hx; omega
      · exact e
theorem cpt_upto (s : List Int) (hs : s.Pairwise (· ≤ ·)) : ∀ m, m ≤ s.length → (Lib.compactUpTo s.toArray m).Pairwise (· < ·) ∧ ∀ x, x ∈ Lib.compactUpTo s.toArray m ↔ ∃ j, j < m ∧ s[j]? = some x
  | 0, _ => ⟨by simp [Lib.compactUpTo], fun x => by simp [Lib.compactUpTo]⟩
  | m + 1, hm => by
    obtain ⟨h1, h2⟩ := cpt_upto s hs m (by omega)
    have hg : s.toArray[m]! = s[m] := getElem!_pos s.toArray m (by simp; omega)
    rw [Lib.compactUpTo_succ, hg]
    by_cases hk : Lib.keeps s.toArray m = true
    · rw [if_pos hk]
      have hlt : ∀ x ∈ Lib.compactUpTo s.toArray m, x < s[m] := fun x hx => by
        obtain ⟨j, hj, he⟩ := (h2 x).1 hx
        obtain ⟨hj', rfl⟩ := List.getElem?_eq_some_iff.1 he
        have hle := get_le hs (i := j) (j := m - 1) (by omega) (by omega)
        have hle2 := get_le hs (i := m - 1) (j := m) (by omega) hm
        unfold Lib.keeps at hk
        rcases of_decide_eq_true hk with e | e
        · omega
        · rw [hg, getElem!_pos s.toArray (m - 1) (by simp; omega)] at e
          have e' : s[m] ≠ s[m - 1] := by simpa using e
          omega
      refine ⟨List.pairwise_append.2 ⟨h1, List.pairwise_singleton _ _, fun x hx y hy => by rw [List.mem_singleton.1 hy]; exact hlt x hx⟩, fun x => ?_⟩
      rw [List.mem_append, h2, List.mem_singleton]
      constructor
      · rintro (⟨j, hj, he⟩ | rfl)
        · exact ⟨j, by omega, he⟩
        · exact ⟨m, by omega, List.getElem?_eq_getElem _⟩
      · rintro ⟨j, hj, he⟩
        by_cases e : j = m
        · subst e; rw [List.getElem?_eq_getElem (by omega)] at he; exact Or.inr (Option.some.inj he).symm
        · exact Or.inl ⟨j, by omega, he⟩
    · rw [if_neg hk, List.append_nil]
      refine ⟨h1, fun x => ?_⟩
      rw [h2]
      constructor
      · rintro ⟨j, hj, he⟩; exact ⟨j, by omega, he⟩
      · rintro ⟨j, hj, he⟩
        by_cases e : j = m
        · subst e
          unfold Lib.keeps at hk
          have hk' := fun h => hk (decide_eq_true h)
          have h0 : j ≠ 0 := fun h => hk' (Or.inl h)
          have h3 : s.toArray[j]! = s.toArray[j - 1]! := Classical.byContradiction fun h => hk' (Or.inr h)
          rw [hg, getElem!_pos s.toArray (j - 1) (by simp; omega)] at h3
          rw [List.getElem?_eq_getElem (by omega)] at he
          have e5 : s[j] = x := Option.some.inj he
          have e6 : s[j] = s[j - 1] := by simpa using h3
          exact ⟨j - 1, by omega, by rw [List.getElem?_eq_getElem (by omega), ← e6, e5]⟩
        · exact ⟨j, by omega, he⟩
theorem colsOf_lt (row : List Int) : (colsOf row).Pairwise (· < ·) := List.Pairwise.sublist List.filter_sublist (by decide)
theorem colsOf_mem {row : List Int} {x : Int} : x ∈ colsOf row ↔ (1 ≤ x ∧ x ≤ 6) ∧ x ∈ row := by
  unfold colsOf
  rw [List.mem_filter]
  constructor
  · rintro ⟨h1, h2⟩
    refine ⟨?_, by simpa using h2⟩
    simp only [List.mem_cons, List.not_mem_nil, or_false] at h1
    omega
  · rintro ⟨h1, h2⟩
    refine ⟨?_, by simpa using h2⟩
    simp only [List.mem_cons, List.not_mem_nil, or_false]
    omega
theorem cols_eq {row : List Int} (h : ∀ x ∈ row, 1 ≤ x ∧ x ≤ 6) : Lib.compact (sortZ row) = colsOf row := by
  have hs := sortZ_le row
  obtain ⟨h1, h2⟩ := cpt_upto (sortZ row) hs (sortZ row).length (Nat.le_refl _)
  refine lt_ext h1 (colsOf_lt row) fun x => ?_
  show x ∈ Lib.compactUpTo (sortZ row).toArray (sortZ row).length ↔ _
  rw [h2, colsOf_mem]
  constructor
  · rintro ⟨j, -, hx⟩
    have hm : x ∈ row := sortZ_mem.1 (List.mem_of_getElem? hx)
    exact ⟨h x hm, hm⟩
  · rintro ⟨-, hx⟩
    obtain ⟨j, hj⟩ := List.mem_iff_getElem?.1 (sortZ_mem.2 hx)
    exact ⟨j, (List.getElem?_eq_some_iff.1 hj).1, hj⟩
/-- Has a colour been knitted an odd number of times? -/
def oddB (rows : List (List Int)) (c : Int) : Bool := decide (rows.countP (·.contains c) % 2 = 1)
def rowProg (before : List (List Int)) (row : List Int) (lim : Nat) : List Ins := (colsOf row).flatMap fun c => passI row c lim (!oddB before c)
def bodyProg (p : List (List Int)) (lim n : Nat) : List Ins := (List.range n).flatMap fun i => rowProg (p.take i) (p.getD i []) lim
def inI (c : Int) : Ins := ⟨1, false, 0, 0, 0, c, 0⟩
def sixC : List Int := [1, 2, 3, 4, 5, 6]
def insK (p : List (List Int)) (k : Nat) : List Ins := ((sixC.take k).filter (p.flatten.contains ·)).map inI
def progI (p : List (List Int)) (lim : Nat) : List Ins := insK p 6 ++ bodyProg p lim p.length
/-- What Plan answers. -/
def planE (p : List (List Int)) (limit : Int) : List Ins × Int :=
  if chkL p limit ≠ 0 then ([], chkL p limit)
  else if 2000 < (progI p limit.toNat).length then ([], 4)
  else if (runS bed0 (progI p limit.toNat)).2.2 ≠ 0 then ([], 4)
  else (progI p limit.toNat, 0)
theorem insK_next {p : List (List Int)} {k : Nat} (hk : k < 6) : insK p (k + 1) = insK p k ++ if p.flatten.contains ((k : Int) + 1) then [inI ((k : Int) + 1)] else [] := by
  have hg : sixC[k]? = some ((k : Int) + 1) := by
    rcases (by omega : k = 0 ∨ k = 1 ∨ k = 2 ∨ k = 3 ∨ k = 4 ∨ k = 5) with rfl | rfl | rfl | rfl | rfl | rfl <;> rfl
  unfold insK
  rw [List.take_add_one, hg]
  simp only [Option.toList_some, List.filter_append, List.map_append]
  congr 1
  cases h : p.flatten.contains ((k : Int) + 1) with
  | true => rw [List.filter_cons_of_pos h]; rfl
  | false => rw [List.filter_cons_of_neg (by rw [h]; simp)]; rfl
theorem insK_len (p : List (List Int)) (k : Nat) : (insK p k).length ≤ 6 := by
  unfold insK
  rw [List.length_map]
  have h1 := List.length_filter_le (fun x => p.flatten.contains x) (sixC.take k)
  have h2 : (sixC.take k).length ≤ 6 := by rw [List.length_take]; exact Nat.min_le_right _ _
  omega
/-- What is there behind t rows, and j colours of the next one. -/
def progTo (p : List (List Int)) (lim t j : Nat) : List Ins := insK p 6 ++ bodyProg p lim t ++ ((colsOf (p.getD t [])).take j).flatMap fun c => passI (p.getD t []) c lim (!oddB (p.take t) c)
theorem progTo_zero (p : List (List Int)) (lim : Nat) : progTo p lim 0 0 = insK p 6 := by simp [progTo, bodyProg]
theorem progTo_next {p : List (List Int)} {lim t j : Nat} {c : Int} (h : (colsOf (p.getD t []))[j]? = some c) : progTo p lim t (j + 1) = progTo p lim t j ++ passI (p.getD t []) c lim (!oddB (p.take t) c) := by
  unfold progTo
  rw [List.take_add_one, h]
  simp only [Option.toList_some, List.flatMap_append, List.flatMap_singleton, List.append_assoc]
theorem progTo_row (p : List (List Int)) (lim t : Nat) : progTo p lim t (colsOf (p.getD t [])).length = progTo p lim (t + 1) 0 := by
  unfold progTo bodyProg
  rw [List.take_length, List.take_zero, List.flatMap_nil, List.append_nil, List.range_succ, List.flatMap_append, List.flatMap_singleton, List.append_assoc]
  rfl
theorem progTo_all (p : List (List Int)) (lim : Nat) : progTo p lim p.length 0 = progI p lim := by simp [progTo, progI]
theorem body_pre (p : List (List Int)) (lim : Nat) {t n : Nat} (h : t ≤ n) : bodyProg p lim t <+: bodyProg p lim n := by
  induction n with
  | zero => obtain rfl : t = 0 := by omega
            exact List.prefix_refl _
  | succ n ih =>
    by_cases e : t = n + 1
    · subst e; exact List.prefix_refl _
    · refine (ih (by omega)).trans ?_
      unfold bodyProg
      rw [List.range_succ, List.flatMap_append]
      exact List.prefix_append _ _
theorem progTo_pre {p : List (List Int)} {lim t j : Nat} (h : t < p.length) : progTo p lim t j <+: progI p lim := by
  have h1 : progTo p lim t j <+: insK p 6 ++ bodyProg p lim (t + 1) := by
    unfold progTo
    rw [List.append_assoc]
    refine (List.prefix_append_right_inj _).2 ?_
    unfold bodyProg
    rw [List.range_succ, List.flatMap_append, List.flatMap_singleton]
    refine (List.prefix_append_right_inj _).2 ?_
    unfold rowProg
    conv => rhs; rw [← List.take_append_drop j (colsOf (p.getD t []))]
    rw [List.flatMap_append]
    exact List.prefix_append _ _
  refine h1.trans ?_
  unfold progI
  exact (List.prefix_append_right_inj _).2 (body_pre p lim (by omega))
theorem passI_mem {row : List Int} {c : Int} {lim : Nat} {right : Bool} {i : Ins} (h : i ∈ passI row c lim right) : ∃ k, k < row.length ∧ i = insQ row c right (tuckB (flo row c) (lim + 1) right) k := by
  have h2 : i ∈ passQ row c right (tuckB (flo row c) (lim + 1) right) := by
    unfold passI turnR at h
    split at h
    · exact h
    · exact List.mem_reverse.1 h
  unfold passQ at h2
  obtain ⟨k, hk, rfl⟩ := List.mem_map.1 h2
  exact ⟨k, by simpa using hk, rfl⟩
theorem opQ_vals (row : List Int) (c : Int) (Q : Nat → Bool) (k : Nat) : opQ row c Q k = 3 ∨ opQ row c Q k = 4 ∨ opQ row c Q k = 5 := by
  unfold opQ; split
  · simp
  · split <;> simp
theorem progI_mem {p : List (List Int)} {lim : Nat} {i : Ins} (h : i ∈ progI p lim) : (∃ c, c ∈ sixC ∧ i = inI c) ∨ ∃ (t : Nat) (row : List Int) (c : Int) (right : Bool) (k : Nat), p[t]? = some row ∧ c ∈ colsOf row ∧ k < row.length ∧ i = insQ row c right (tuckB (flo row c) (lim + 1) right) k := by
  unfold progI at h
  rcases List.mem_append.1 h with h | h
  · unfold insK at h
    obtain ⟨c, hc, rfl⟩ := List.mem_map.1 h
    exact Or.inl ⟨c, List.mem_of_mem_take (List.mem_filter.1 hc).1, rfl⟩
  · unfold bodyProg at h
    obtain ⟨t, ht, h⟩ := List.mem_flatMap.1 h
    have ht' : t < p.length := by simpa using ht
    unfold rowProg at h
    obtain ⟨c, hc, h⟩ := List.mem_flatMap.1 h
    obtain ⟨k, hk, rfl⟩ := passI_mem h
    refine Or.inr ⟨t, p.getD t [], c, _, k, ?_, hc, hk, rfl⟩
    rw [List.getD_eq_getElem?_getD, List.getElem?_eq_getElem ht']; rfl
theorem progI_wf {p : List (List Int)} {lim : Nat} {i : Ins} (h : i ∈ progI p lim) : i.wf := by
  rcases progI_mem h with ⟨c, -, rfl⟩ | ⟨t, row, c, right, k, -, -, -, rfl⟩
  · unfold Ins.wf inI; simp
  · unfold Ins.wf insQ
    have := opQ_vals row c (tuckB (flo row c) (lim + 1) right) k
    simp only
    omega
/-- The directions within a row. -/
def wayQ (p : List (List Int)) (t j : Nat) (c : Nat) : Bool := if (c : Int) ∈ (colsOf (p.getD t [])).take j then !oddB (p.take t) c else oddB (p.take t) c
theorem wayQ_zero (p : List (List Int)) (t : Nat) (c : Nat) : wayQ p t 0 c = oddB (p.take t) c := by simp [wayQ]
theorem wayQ_start (p : List (List Int)) (c : Nat) : wayQ p 0 0 c = false := by simp [wayQ, oddB]
theorem cols_nodup (row : List Int) : (colsOf row).Nodup := (colsOf_lt row).imp fun h => by omega
theorem wayQ_here {p : List (List Int)} {t j c : Nat} (h : (colsOf (p.getD t []))[j]? = some (c : Int)) : wayQ p t j c = oddB (p.take t) c := by
  unfold wayQ
  rw [if_neg]
  intro hm
  obtain ⟨i, hi⟩ := List.mem_iff_getElem?.1 hm
  rw [List.getElem?_take] at hi
  split at hi
  · rename_i hij
    obtain ⟨a1, a2⟩ := List.getElem?_eq_some_iff.1 hi
    obtain ⟨b1, b2⟩ := List.getElem?_eq_some_iff.1 h
    have := (List.getElem_inj (cols_nodup (p.getD t []))).1 (a2.trans b2.symm)
    omega
  · cases hi
theorem wayQ_next {p : List (List Int)} {t j c : Nat} (h : (colsOf (p.getD t []))[j]? = some (c : Int)) (k : Nat) : wayQ p t (j + 1) k = if k = c then !oddB (p.take t) c else wayQ p t j k := by
  unfold wayQ
  rw [List.take_add_one, h]
  simp only [Option.toList_some, List.mem_append, List.mem_singleton]
  by_cases e : k = c
  · subst e; simp
  · have e2 : ¬ ((k : Int) = (c : Int)) := by omega
    simp [e, e2]
theorem wayQ_row {p : List (List Int)} {t : Nat} {row : List Int} (hr : p[t]? = some row) (k : Nat) (h1 : 1 ≤ k) (h6 : k ≤ 6) : wayQ p t (colsOf (p.getD t [])).length k = wayQ p (t + 1) 0 k := by
  have e : p.getD t [] = row := by rw [List.getD_eq_getElem?_getD, hr]; rfl
  rw [wayQ_zero]
  unfold wayQ
  rw [List.take_length, e]
  have e2 : oddB (p.take (t + 1)) k = if row.contains (k : Int) then !oddB (p.take t) k else oddB (p.take t) k := by
    unfold oddB
    rw [List.take_add_one, hr]
    simp only [Option.toList_some, List.countP_append, List.countP_cons, List.countP_nil]
    cases hc : row.contains (k : Int) with
    | true =>
      simp only [if_true]
      rw [Bool.eq_iff_iff]
      simp only [decide_eq_true_eq, Bool.not_eq_true', decide_eq_false_iff_not]
      omega
    | false => simp
  rw [e2]
  have : (k : Int) ∈ colsOf row ↔ row.contains (k : Int) = true := by
    rw [colsOf_mem]
    constructor
    · intro h; simpa using h.2
    · intro h; exact ⟨by omega, by simpa using h⟩
  by_cases hm : (k : Int) ∈ colsOf row
  · rw [if_pos hm, if_pos (this.1 hm)]
  · rw [if_neg hm, if_neg (fun h => hm (this.2 h))]
theorem chk_cells {p : List (List Int)} (h : chk p = 0) : ∀ row ∈ p, ∀ x ∈ row, 1 ≤ x ∧ x ≤ 6 := by
  intro row hr x hx
  unfold chk at h
  split at h
  · cases h
  · split at h
    · cases h
    · rename_i h2
      have h3 : rowBad (p.headD []).length row = false := by
        cases hb : rowBad (p.headD []).length row with
        | false => rfl
        | true => exact absurd (List.any_eq_true.2 ⟨row, hr, hb⟩) h2
      unfold rowBad at h3
      rw [Bool.or_eq_false_iff] at h3
      have h4 := h3.2
      rw [List.any_eq_false] at h4
      have := h4 x hx
      simp at this
      omega
end Go.Proofs.YthedmiilkeclaaaGreat
namespace Go.Proofs.YthedmiilkeclaaaGreat
open Go.RowKit Go.Shelf Go.Sort
open Go.Proofs.YthedmiilkeclaaaGreat.I34
set_option maxRecDepth 100000

/-- A row cut short. -/
theorem own_cut {w : World} {B sz n c g k : Nat} {e : TypeId} {xs : List Value} (h : w.ownsRow B e sz (.slice (some ⟨g, 0, none⟩) n c) n xs) (hk : k ≤ n) : w.ownsRow B e sz (.slice (some ⟨g, 0, none⟩) k c) k (xs.take (k * sz)) := by
  obtain ⟨h1, h2⟩ := h
  rcases h2 with ⟨e1, -⟩ | ⟨g', cap, cur, hv, hg, hh, hn, hm, hs, ht⟩
  · cases e1
  · cases hv
    have hle : k * sz ≤ n * sz := Nat.mul_le_mul_right _ hk
    refine ⟨by rw [List.length_take, h1]; omega, Or.inr ⟨g, c, cur, rfl, hg, hh, by omega, hm, hs, ?_⟩⟩
    rw [← ht, List.take_take, Nat.min_eq_left hle]
set_option maxHeartbeats 1000000 in
theorem compact_any (g cap B : Nat) (s : List Int) (w : World) (h : ownI w B (.slice (some ⟨g, 0, none⟩) s.length cap) s) (hl : s.length ≤ 1000000) :
    Calls Tryz.prog 22 #[.slice (some ⟨g, 0, none⟩) s.length cap] w fun e w' => e = .returned (.slice (some ⟨g, 0, none⟩) (Lib.compact s).length cap) ∧ ownI w' B (.slice (some ⟨g, 0, none⟩) (Lib.compact s).length cap) (Lib.compact s) ∧ w.grownBy w' (some g) := by
  have hcap : s.length ≤ cap := by
    obtain ⟨a9, c9, e, h⟩ := own_slice h
    cases e; exact h
  have hH : Holds (Value.int .i64) w g 0 s.toArray := fun j hj => by
    have hj' : j < s.length := by simpa using hj
    rw [Nat.zero_add]
    refine ⟨?_, World.ownsRow.frozenAt h j⟩
    rw [World.ownsRow.cellAt h j (by omega)]
    unfold intV
    rw [List.getElem?_map, List.getElem?_eq_getElem hj', getElem!_pos s.toArray j hj]; rfl
  have hc := Tryz.slices_Compact_int g 0 cap s w hH (by omega) hcap
  refine hc.mono ?_
  rintro e w' ⟨rfl, q, rfl⟩
  have hle := Lib.compact_length_le s
  refine ⟨rfl, ?_, grown_row _⟩
  rcases h.2 with ⟨e1, -⟩ | ⟨g', cap', cur, hv, hg, hh, hn, hm, hs, -⟩
  · cases e1
  · cases hv
    have ho := ownsRow_sorted_i (w := w) (n := q) (os := #[]) (ss := s) (ts := Lib.compact s ++ List.replicate (s.length - (Lib.compact s).length) 0) (by rw [List.length_append, List.length_replicate]; omega) hg hh hn hm hs
    have hgr : ∀ W : World, grow W #[] = W := fun W => by unfold grow; rw [Array.append_empty]
    rw [hgr] at ho
    have h2 := own_cut ho hle
    unfold ownI
    have e : intV (Lib.compact s) = ((Lib.compact s ++ List.replicate (s.length - (Lib.compact s).length) 0).map encZ).take ((Lib.compact s).length * 1) := by
      rw [Nat.mul_one, List.map_append, List.take_append_of_le_length (by simp), List.take_of_length_le (by simp)]
      rfl
    rw [e]
    exact h2
def pxO (v : Value) (l : List Ins) : Own := ⟨31, 7, l.length, v, (l.map Ins.cells).flatten⟩
def pxW (wb : Nat) (F : Nat → Bool) : Own := ⟨57, 7, 1, .slice (some ⟨wb, 0, none⟩) 1 1, (List.range 7).map fun k => .bool (F k)⟩
def pxC (g cap : Nat) (l : List Int) : Own := ⟨3, 1, l.length, .slice (some ⟨g, 0, none⟩) l.length cap, intV l⟩
theorem pxW_at {w : World} {B wb : Nat} {F : Nat → Bool} (h : (pxW wb F).lies w B) {k : Nat} (hk : k < 7) : w.cell? ⟨wb, k, none⟩ = some (.bool (F k)) ∧ w.frozen? ⟨wb, k, none⟩ = false ∧ B ≤ wb ∧ wb < w.heap.size := by
  have h0 : w.ownsRow B 57 7 (.slice (some ⟨wb, 0, none⟩) 1 1) 1 ((List.range 7).map fun k => Value.bool (F k)) := h
  have hl := World.ownsRow.lt h0 wb rfl
  refine ⟨?_, World.ownsRow.frozenAt h0 k, hl.1, hl.2⟩
  rw [World.ownsRow.cellAt h0 k (by omega), List.getElem?_map, List.getElem?_range hk]
  rfl
theorem pxC_at {w : World} {B g cap : Nat} {l : List Int} (h : (pxC g cap l).lies w B) {k : Nat} {x : Int} (hx : l[k]? = some x) : w.cell? ⟨g, k, none⟩ = some (.int .i64 x) := by
  have h0 : w.ownsRow B 3 1 (.slice (some ⟨g, 0, none⟩) l.length cap) l.length (intV l) := h
  have hk := (List.getElem?_eq_some_iff.1 hx).1
  rw [World.ownsRow.cellAt h0 k (by omega)]
  unfold intV
  rw [List.getElem?_map, hx]
  rfl
theorem pxW_set {w : World} {B wb : Nat} {F : Nat → Bool} {L : List Own} (h : Owns w B (pxW wb F :: L)) (k : Nat) (q : Bool) : Owns (w.setCell ⟨wb, k, none⟩ (.bool q)) B (pxW wb (fun j => if j = k then q else F j) :: L) := by
  have h0 : w.ownsRow B 57 7 (.slice (some ⟨wb, 0, none⟩) 1 1) 1 ((List.range 7).map fun k => Value.bool (F k)) := h.head
  obtain ⟨h1, h2⟩ := World.ownsRow.stored h0 k (.bool q)
  have e : ((List.range 7).map fun k => Value.bool (F k)).set k (.bool q) = (List.range 7).map fun j => Value.bool (if j = k then q else F j) := by
    apply List.ext_getElem (by simp)
    intro j h1 h2
    rw [List.getElem_set]
    simp only [List.getElem_map, List.getElem_range]
    by_cases hj : k = j
    · subst hj; simp
    · rw [if_neg hj, if_neg (fun h => hj h.symm)]
  rw [e] at h1
  exact h.turn (o' := pxW wb (fun j => if j = k then q else F j)) h2 h1 (fun j hj => Or.inl hj)
theorem ways_new {w : World} {B : Nat} {L : List Own} (h : Owns w B L) (hB : B ≤ w.heap.size) : Owns (w.alloc (.cells #[.bool false, .bool false, .bool false, .bool false, .bool false, .bool false, .bool false] 57)) B (pxW w.heap.size (fun _ => false) :: L) :=
  h.add ((Below.refl _ w).alloc (Nat.le_refl _) _) hB (World.ownsRow_lit w _ 1 (Nat.le_refl _) (by decide) rfl)
/-- Instructions are appended to the first row. -/
theorem owns_app {w : World} {B : Nat} {a A : Option Addr} {c : Nat} {O l : List Ins} {L : List Own} (h : Owns w B (pxO (.slice a O.length c) O :: L)) (hB : B ≤ w.heap.size) (hs : SlX w w.heap.size A l) (hl : O.length + l.length ≤ 100000) (C : Nat) :
    ∃ A' c' w', (Builtin.append_ #[25, 25] 25 #[.slice a O.length c, .slice A l.length C]).run Tryz.prog w = .ok (.slice A' (O.length + l.length) c') w' ∧ Owns w' B (pxO (.slice A' (O.length + l.length) c') (O ++ l) :: L) ∧ Below B w w' := by
  obtain ⟨ii, hii, hii0, hii1, hii2⟩ := info_parts info_ins34
  have h0 : w.ownsRow B 31 7 (.slice a O.length c) O.length (O.map Ins.cells).flatten := h.head
  have hfl : ((l.map Ins.cells).flatten).length = l.length * 7 := by rw [flat_len (ins_cells_all l), List.length_map]
  obtain ⟨A', c', w', hr, ho, hg, hn⟩ := run_app_any Tryz.underlying25 hii hii0 hii1 hii2 rfl (by decide) h0 A l.length C (l.map Ins.cells).flatten hfl (fun e => by
    cases l with
    | nil => rfl
    | cons x r => obtain ⟨b, off, e', -⟩ := hs.addr (by simp); rw [e] at e'; cases e') (fun ad e j u hu => by
    have hj : j < l.length * 7 := by have := (List.getElem?_eq_some_iff.1 hu).1; omega
    have hq : j / 7 < l.length := by omega
    obtain ⟨b, off, hA, hb, hc⟩ := hs (fun e2 => by rw [List.map_eq_nil_iff.1 e2] at hq; exact absurd hq (Nat.not_lt_zero _))
    rw [e] at hA; cases hA
    have h1 : (l.map Ins.cells)[j / 7]? = some l[j / 7].cells := by rw [List.getElem?_map, List.getElem?_eq_getElem hq]; rfl
    have hm : j % 7 < 7 := Nat.mod_lt _ (by omega)
    have h2 : l[j / 7].cells[j % 7]? = some (l[j / 7].cells[j % 7]'(by rw [Ins.cells_length]; exact hm)) := List.getElem?_eq_getElem _
    have h3 := flat_at (ins_cells_all l) h1 h2
    rw [show j / 7 * 7 + j % 7 = j by omega, hu] at h3
    rw [addr_plus, Option.some.inj h3]
    have h4 := hc _ _ h1 _ _ h2
    rw [show off + j / 7 * 7 + j % 7 = off + j by omega] at h4
    exact h4) (one7 l) (by unfold maxLen; omega) (by omega) hB
  refine ⟨A', c', w', hr, ?_, Below.of_grown hg hB (fun k e => (World.ownsRow.lt h0 k e).1)⟩
  refine h.turn (o' := pxO (.slice A' (O.length + l.length) c') (O ++ l)) hg ?_ hn
  unfold pxO Own.lies
  rw [List.length_append, List.map_append, List.flatten_append]
  exact ho
theorem pxO_form {w : World} {B : Nat} {v : Value} {O : List Ins} {L : List Own} (h : Owns w B (pxO v O :: L)) : ∃ a c, v = .slice a O.length c := by
  have h0 : w.ownsRow B 31 7 v O.length (O.map Ins.cells).flatten := h.head
  exact own_form h0
theorem pxO_sl {w : World} {B : Nat} {a : Option Addr} {n c : Nat} {O : List Ins} {L : List Own} (h : Owns w B (pxO (.slice a n c) O :: L)) : SlX w w.heap.size a O := fun hne => by
  have h0 : w.ownsRow B 31 7 (.slice a n c) O.length (O.map Ins.cells).flatten := h.head
  have hO : O ≠ [] := fun e => hne (by rw [e]; rfl)
  have hn : n = O.length := by
    obtain ⟨a', c', e⟩ := own_form h0
    cases e; rfl
  subst hn
  obtain ⟨g, rfl, h1, h2, h3⟩ := own_pos h0 (List.length_pos_iff.2 hO)
  refine ⟨g, 0, rfl, h2, fun j cs hz i v hv => ?_⟩
  rw [List.getElem?_map] at hz
  cases hl : O[j]? with
  | none => rw [hl] at hz; cases hz
  | some x =>
    rw [hl] at hz
    simp only [Option.map_some, Option.some.injEq] at hz
    subst hz
    have hj := (List.getElem?_eq_some_iff.1 hl).1
    have hi := (List.getElem?_eq_some_iff.1 hv).1
    rw [Ins.cells_length] at hi
    rw [Nat.zero_add]
    exact (h3 _ (by omega)).trans (flat_at (ins_cells_all O) (by rw [List.getElem?_map, hl]; rfl) hv)
set_option maxHeartbeats 2000000 in
/-- The closure: the next pass of a colour. -/
theorem next_any (wb lb : Nat) (A : Option Addr) (c : Nat) (row : List Int) (cc : Nat) (h6 : cc ≤ 6) (lim : Nat) (q : Bool) (w : World) (hs : SlI w wb A row) (hn : row.length ≤ 101) (hl : lim ≤ 40)
    (hq : w.cell? ⟨wb, cc, none⟩ = some (.bool q)) (hf : w.frozen? ⟨wb, cc, none⟩ = false) (hlb : w.cell? ⟨lb, 0, none⟩ = some (.int .i64 (lim : Int))) (hne : lb < wb) :
    Calls Tryz.prog 20 #[.slice A row.length c, .int .i64 (cc : Int), .pointer (some ⟨wb, 0, none⟩), .pointer (some ⟨lb, 0, none⟩)] w fun e w' =>
      ∃ g, e = .returned (.slice (some ⟨g, 0, none⟩) row.length row.length) ∧ SlX w' w'.heap.size (some ⟨g, 0, none⟩) (passI row (cc : Int) lim (!q)) ∧ Below w.heap.size (w.setCell ⟨wb, cc, none⟩ (.bool (!q))) w' := by
  have hwb := lt_of_cell hq
  have hb1 : Below wb w (w.setCell ⟨wb, cc, none⟩ (.bool (!q))) := (Below.refl wb w).setCell (p := ⟨wb, cc, none⟩) (Nat.le_refl _) _
  have HX : Hid (SlI (w.setCell ⟨wb, cc, none⟩ (.bool (!q))) (w.setCell ⟨wb, cc, none⟩ (.bool (!q))).heap.size A row ∧ (w.setCell ⟨wb, cc, none⟩ (.bool (!q))).cell? ⟨wb, cc, none⟩ = some (.bool (!q)) ∧ (w.setCell ⟨wb, cc, none⟩ (.bool (!q))).cell? ⟨lb, 0, none⟩ = some (.int .i64 (lim : Int)) ∧ Below w.heap.size (w.setCell ⟨wb, cc, none⟩ (.bool (!q))) (w.setCell ⟨wb, cc, none⟩ (.bool (!q))) ∧ (w.setCell ⟨wb, cc, none⟩ (.bool (!q))).heap.size = w.heap.size) := by
    refine ⟨(hs.below hb1).more (by simp; omega), set_same hq, ?_, Below.refl _ _, by simp⟩
    rw [World.cell?_setCell_other _ _ _ _ (by intro e; injection e; omega)]; exact hlb
  clear hs hlb hb1
  have hi1 : (0 : Int) ≤ (cc : Int) := by omega
  have hi2 : (cc : Int) < 7 := by omega
  have hi3 : cc < 7 := by omega
  go_enter Tryz.func20, Tryz.ntmps20
  go_upto_region 2 with fail
  refine abs_world (Q := fun W => Code.wp _ _ _ _ W) (F := fun W => SlI W W.heap.size A row ∧ W.cell? ⟨wb, cc, none⟩ = some (.bool (!q)) ∧ W.cell? ⟨lb, 0, none⟩ = some (.int .i64 (lim : Int)) ∧ Below w.heap.size (w.setCell ⟨wb, cc, none⟩ (.bool (!q))) W ∧ W.heap.size = w.heap.size) _ HX.out ?_
  clear HX hq hf
  rintro W1 ⟨hs1, hq1, hl1, hb1, hz1⟩
  have HP : Hid (∀ W, Below W1.heap.size W1 W → Calls Tryz.prog 21 #[.slice A row.length c, .int .i64 (cc : Int), .int .i64 (lim : Int), .bool (!q)] W fun e w' => ∃ g, e = .returned (.slice (some ⟨g, 0, none⟩) row.length row.length) ∧ SlX w' w'.heap.size (some ⟨g, 0, none⟩) (passI row (cc : Int) lim (!q)) ∧ Below W.heap.size W w') := fun W hb => ipass_any A c row cc lim (!q) W ((hs1.below hb).more hb.size) hn hl
  have HB1 := Lib.hid hb1
  have HZ1 := Lib.hid hz1
  have hb0 : Below W1.heap.size W1 W1.drew := (Below.refl _ _).drew
  have HB0 := Lib.hid hb0
  obtain ⟨nq, hnq⟩ : ∃ nq, nq = !q := ⟨_, rfl⟩
  rw [← hnq] at hq1 HP ⊢
  have HN := Lib.hid hnq
  clear hs1 hb1 hz1 hb0 hnq
  go_region_with ((go_at_call 21; refine (HP.out _ HB0.out).mono ?_; rintro e w2 ⟨g, rfl, hsl, hb2⟩))
  all_goals
    go_wp2
    go_ret
    exact ⟨g, rfl, by rw [HN.out] at hsl; exact hsl, HB1.out.trans ((HB0.out.trans (hb2.mono HB0.out.size)).mono (by rw [HZ1.out]; exact Nat.le_refl _))⟩
end Go.Proofs.YthedmiilkeclaaaGreat
