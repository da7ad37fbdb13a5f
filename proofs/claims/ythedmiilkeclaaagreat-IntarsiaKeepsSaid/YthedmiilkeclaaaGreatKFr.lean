/- Layer 34, plain: the program's passes, one after the other: floats within the limit, and bound as often as told. -/
import Derived.Test.YthedmiilkeclaaaGreatKFq
namespace Go.Proofs.YthedmiilkeclaaaGreat
open Go.RowKit
open Go.Proofs.YthedmiilkeclaaaGreat.I34
set_option maxRecDepth 100000

theorem cnt_rev (n : Nat) (P : Nat → Bool) : cnt n (fun k => P (n - 1 - k)) = cnt n P := by
  have h1 : ∀ Q : Nat → Bool, cnt n Q = (List.range n).countP Q := fun Q => by unfold cnt; rw [List.countP_eq_length_filter]
  rw [h1, h1]
  conv => rhs; rw [range_mirror n]
  rw [List.countP_map, List.countP_reverse]
  rfl
theorem cnt_or {P Q : Nat → Bool} : ∀ N, (∀ k, k < N → P k = true → Q k = true → False) → cnt N (fun k => P k || Q k) = cnt N P + cnt N Q
  | 0, _ => rfl
  | N + 1, h => by
    rw [cnt_succ, cnt_succ, cnt_succ, cnt_or N (fun k hk => h k (by omega))]
    cases hp : P N with
    | true =>
      cases hq : Q N with
      | true => exact absurd (h N (by omega) hp hq) id
      | false => simp; omega
    | false => cases hq : Q N <;> simp <;> omega
theorem cnt_hitR (m : Nat) (hm : 0 < m) (f : Nat × Nat) (N : Nat) (hN : f.2 ≤ N) : cnt N (fun k => hitB m true k f) = lenOf f / m := by
  rw [cnt_stop _ f.2 N hN (fun k h1 h2 => by unfold hitB; rw [decide_eq_false (show ¬ k < f.2 by omega)]; simp)]
  rw [cnt_congr (Q := fun k => decide (f.1 < k) && decide ((k - f.1) % m = 0)) (fun k hk => by
    unfold hitB distF
    rw [decide_eq_true hk, if_pos rfl, Bool.and_true])]
  rw [cnt_upto m f.1 hm]
  rfl
theorem cnt_hitL (m : Nat) (hm : 0 < m) (f : Nat × Nat) (N : Nat) (hN : f.2 ≤ N) : cnt N (fun k => hitB m false k f) = lenOf f / m := by
  have hz : ∀ k, f.2 ≤ k → hitB m false k f = false := fun k h1 => by unfold hitB; rw [decide_eq_false (show ¬ k < f.2 by omega)]; simp
  rw [cnt_stop _ f.2 N hN (fun k h1 _ => hz k h1), ← cnt_stop _ f.2 (f.1 + f.2 + 1) (by omega) (fun k h1 _ => hz k h1), ← cnt_rev]
  rw [cnt_congr (Q := fun k => hitB m true k f) (fun k hk => ?_)]
  · exact cnt_hitR m hm f _ (by omega)
  · show hitB m false (f.1 + f.2 + 1 - 1 - k) f = hitB m true k f
    unfold hitB distF
    rw [if_neg (by decide), if_pos rfl]
    have e1 : decide (f.1 < f.1 + f.2 + 1 - 1 - k) = decide (k < f.2) := by rw [decide_eq_decide]; omega
    have e2 : decide (f.1 + f.2 + 1 - 1 - k < f.2) = decide (f.1 < k) := by rw [decide_eq_decide]; omega
    rw [e1, e2]
    by_cases h : f.1 < k ∧ k < f.2
    · rw [show f.2 - (f.1 + f.2 + 1 - 1 - k) = k - f.1 by omega, Bool.and_comm (decide (k < f.2))]
    · by_cases h1 : f.1 < k
      · rw [decide_eq_false (show ¬ k < f.2 from fun h2 => h ⟨h1, h2⟩)]; simp
      · rw [decide_eq_false h1]; simp
theorem cnt_hit (m : Nat) (hm : 0 < m) (right : Bool) (f : Nat × Nat) (N : Nat) (hN : f.2 ≤ N) : cnt N (fun k => hitB m right k f) = lenOf f / m := by
  cases right with
  | true => exact cnt_hitR m hm f N hN
  | false => exact cnt_hitL m hm f N hN
theorem Row.ge {N : Nat} : ∀ {l : List (Nat × Nat)} {a : Nat}, Row a N l → ∀ g ∈ l, a ≤ g.1
  | [], _, _, g, hg => absurd hg List.not_mem_nil
  | f :: l, a, ⟨h1, h2, _, h4⟩, g, hg => by
    rcases List.mem_cons.1 hg with rfl | hg
    · exact h1
    · have := Row.ge h4 g hg; omega
theorem cnt_tuck (m N : Nat) (hm : 0 < m) (right : Bool) : ∀ (l : List (Nat × Nat)) (a : Nat), Row a N l → cnt N (tuckB l m right) = (l.map fun f => lenOf f / m).sum
  | [], _, _ => by
    have h : cnt N (tuckB [] m right) = 0 := cnt_false (fun _ _ => rfl)
    rw [h]; rfl
  | f :: l, a, ⟨h1, h2, h3, h4⟩ => by
    have ih := cnt_tuck m N hm right l f.2 h4
    have e : tuckB (f :: l) m right = fun k => hitB m right k f || tuckB l m right k := by funext k; unfold tuckB; rw [List.any_cons]
    rw [e, cnt_or N (fun k hk hp hq => ?_), ih, cnt_hit m hm right f N (by omega)]
    · rw [List.map_cons, List.sum_cons]
    · obtain ⟨-, -, -, g4⟩ := hitB_pos hp
      obtain ⟨g, hg, hh⟩ := List.any_eq_true.1 hq
      obtain ⟨-, -, g5, -⟩ := hitB_pos hh
      have := Row.ge h4 g hg
      omega
def passTot (lim : Nat) (row : List Int) (c : Int) : Nat := ((flo row c).map fun f => lenOf f / (lim + 1)).sum
theorem insQ_rev {row : List Int} {c : Int} {right : Bool} {Q : Nat → Bool} : (passQ row c right Q).reverse = (List.range row.length).map fun j => insQ row c right Q (row.length - 1 - j) := by
  unfold passQ
  apply List.ext_getElem (by simp)
  intro i h1 h2
  simp only [List.length_reverse, List.length_map, List.length_range] at h1
  simp only [List.getElem_reverse, List.getElem_map, List.getElem_range, List.length_map, List.length_range]
theorem pass_run (row : List Int) (c : Int) (lim : Nat) (right : Bool) (t0 : Nat) : ∃ x, gRun lim (t0, -1) (passI row c lim right) = some (t0 + passTot lim row c, x) := by
  have hcount : cnt row.length (T row c (lim + 1) right) = passTot lim row c := cnt_tuck (lim + 1) row.length (by omega) right (flo row c) 0 (flo_row row c)
  have hT : ∀ k, T row c (lim + 1) right k = true → ∃ f ∈ flo row c, hitB (lim + 1) right k f = true := fun k h => List.any_eq_true.1 h
  have hnm : ∀ k, row.getD k 0 = c → NM row c (lim + 1) right k = true := fun k h => by unfold NM; rw [decide_eq_true h, Bool.or_true]
  have hend := (flo_ends row c row.length).1
  cases right with
  | true =>
    have h := gRun_pass (row := row) (c := c) (m := lim + 1) (lim := lim) (right := true) rfl (fun j => j) row.length
      (fun j K h1 h2 h3 h4 h5 => by have := gap_any (by omega) h1 h2 h3 h4 h5; omega)
      (fun K hK ht => by
        obtain ⟨f, hf, hh⟩ := hT K ht
        obtain ⟨-, -, g3, -⟩ := hitB_pos hh
        exact ⟨f.1, g3, hnm _ (hend f hf).1⟩) t0 row.length (Nat.le_refl _)
    rw [hcount] at h
    exact ⟨_, h⟩
  | false =>
    have h := gRun_pass (row := row) (c := c) (m := lim + 1) (lim := lim) (right := false) rfl (fun j => row.length - 1 - j) row.length
      (fun j K h1 h2 h3 h4 h5 => by
        have := gap_any (row := row) (c := c) (m := lim + 1) (right := false) (by omega) (a := row.length - 1 - K) (b := row.length - 1 - j) (by omega) (by omega) h4 h3 (fun k g1 g2 => by
          have := h5 (row.length - 1 - k) (by omega) (by omega)
          rw [show row.length - 1 - (row.length - 1 - k) = k by omega] at this
          exact this)
        omega)
      (fun K hK ht => by
        obtain ⟨f, hf, hh⟩ := hT _ ht
        obtain ⟨-, -, -, g4⟩ := hitB_pos hh
        obtain ⟨-, e2, -, e4⟩ := hend f hf
        refine ⟨row.length - 1 - f.2, by omega, ?_⟩
        rw [show row.length - 1 - (row.length - 1 - f.2) = f.2 by omega]
        exact hnm _ e2) t0 row.length (Nat.le_refl _)
    rw [cnt_rev row.length (T row c (lim + 1) false), hcount] at h
    have e : passI row c lim false = (List.range row.length).map fun j => insQ row c false (T row c (lim + 1) false) (row.length - 1 - j) := by
      show (passQ row c false (tuckB (flo row c) (lim + 1) false)).reverse = _
      rw [insQ_rev]
      rfl
    rw [e]
    exact ⟨_, h⟩
theorem pass_one (row : List Int) (c : Int) (lim : Nat) (right : Bool) : OneP c right (passI row c lim right) := by
  refine ⟨fun i hi => ?_, fun i hi => ?_, fun i hi => ?_⟩ <;> obtain ⟨k, -, rfl⟩ := passI_mem hi
  · rfl
  · rfl
  · intro h
    have := opQ_vals row c (tuckB (flo row c) (lim + 1) right) k
    have e : opQ row c (tuckB (flo row c) (lim + 1) right) k = 1 := h
    omega
theorem passI_ne {row : List Int} (h : 0 < row.length) (c : Int) (lim : Nat) (right : Bool) : passI row c lim right ≠ [] := fun e => by
  have := passI_len row c lim right
  rw [e] at this
  simp at this; omega
/-- What the last instruction tells. -/
structure Rdy (p : List (List Int)) (t j : Nat) (prev : Option Ins) (l : Int) : Prop where
  fit : ∀ c', (colsOf (p.getD t []))[j]? = some c' → ∀ i : Ins, i.car = c' → i.right = !oddB (p.take t) c' → i.op ≠ 1 → lastR prev l i = -1
  info : 0 < j → ∃ q c, prev = some q ∧ (colsOf (p.getD t []))[j - 1]? = some c ∧ q.car = c ∧ q.right = !oddB (p.take t) c
theorem lastR_ne {q i : Ins} (l : Int) (h : q.op = 1 ∨ q.car ≠ i.car ∨ q.right ≠ i.right) : lastR (some q) l i = -1 := by
  unfold lastR
  rw [if_pos]
  show (decide (q.op = 1) || (decide (q.car ≠ i.car) || decide (q.right ≠ i.right))) = true
  rcases h with h | h | h
  · rw [decide_eq_true h]; rfl
  · rw [decide_eq_true h]; simp
  · rw [decide_eq_true h]; simp
theorem lastI_mem {prev : Option Ins} {l : List Ins} (h : l ≠ []) : ∃ q ∈ l, lastI prev l = some q := by
  unfold lastI
  cases hl : l.getLast? with
  | none => exact absurd (List.getLast?_eq_none_iff.1 hl) h
  | some q => exact ⟨q, List.mem_of_getLast? hl, rfl⟩
theorem lastI_app {a b : List Ins} {prev : Option Ins} (h : b ≠ []) : lastI prev (a ++ b) = lastI (lastI prev a) b := by
  unfold lastI
  rw [List.getLast?_append]
  cases hb : b.getLast? with
  | none => exact absurd (List.getLast?_eq_none_iff.1 hb) h
  | some q => rfl
theorem fsRun_ins {lim : Nat} : ∀ {l : List Ins} {prev : Option Ins} {s : Nat × Int}, (∀ i ∈ l, i.op = 1) → fsRun lim prev s l = some s
  | [], _, _, _ => rfl
  | i :: l, prev, s, h => by
    have e : fsStep lim prev s i = some s := by unfold fsStep; rw [if_pos (h i List.mem_cons_self)]
    show (match fsStep lim prev s i with | none => none | some t => fsRun lim (some i) t l) = _
    rw [e]
    exact fsRun_ins fun x hx => h x (List.mem_cons_of_mem _ hx)
theorem insK_op {p : List (List Int)} {k : Nat} {i : Ins} (h : i ∈ insK p k) : i.op = 1 := by
  unfold insK at h
  obtain ⟨c, -, rfl⟩ := List.mem_map.1 h
  rfl
theorem odd_next {p : List (List Int)} {t : Nat} {row : List Int} (hr : p[t]? = some row) {c : Int} (hc : c ∈ row) : oddB (p.take (t + 1)) c = !oddB (p.take t) c := by
  unfold oddB
  rw [List.take_add_one, hr]
  simp only [Option.toList_some, List.countP_append, List.countP_cons, List.countP_nil]
  have : row.contains c = true := by simpa using hc
  rw [this]
  simp only [if_true]
  rw [Bool.eq_iff_iff]
  simp only [decide_eq_true_eq, Bool.not_eq_true', decide_eq_false_iff_not]
  omega
def rowTot (lim : Nat) (row : List Int) : Nat := ((colsOf row).map (passTot lim row)).sum
def totTo (p : List (List Int)) (lim t j : Nat) : Nat := ((p.take t).map (rowTot lim)).sum + (((colsOf (p.getD t [])).take j).map (passTot lim (p.getD t []))).sum
theorem prog_step {p : List (List Int)} {lim t j : Nat} {row : List Int} {c : Int} (hr : p[t]? = some row) (hn : 0 < row.length) (hc : (colsOf row)[j]? = some c) (h : ∃ l, fsRun lim none (0, -1) (progTo p lim t j) = some (totTo p lim t j, l) ∧ Rdy p t j (lastI none (progTo p lim t j)) l) :
    ∃ l, fsRun lim none (0, -1) (progTo p lim t (j + 1)) = some (totTo p lim t (j + 1), l) ∧ Rdy p t (j + 1) (lastI none (progTo p lim t (j + 1))) l := by
  obtain ⟨l, h1, h2⟩ := h
  have e : p.getD t [] = row := by rw [List.getD_eq_getElem?_getD, hr]; rfl
  have hc' : (colsOf (p.getD t []))[j]? = some c := by rw [e]; exact hc
  have hpn := progTo_next (p := p) (lim := lim) hc'
  rw [e] at hpn
  obtain ⟨x, hx⟩ := pass_run row c lim (!oddB (p.take t) c) (totTo p lim t j)
  have hne := passI_ne hn c lim (!oddB (p.take t) c)
  have hone := pass_one row c lim (!oddB (p.take t) c)
  have htot : totTo p lim t (j + 1) = totTo p lim t j + passTot lim row c := by
    unfold totTo
    rw [List.take_add_one, hc', e]
    simp only [Option.toList_some, List.map_append, List.map_cons, List.map_nil, List.sum_append, List.sum_cons, List.sum_nil]
    omega
  refine ⟨x, ?_, ?_⟩
  · rw [hpn, fsRun_app, h1]
    simp only
    rw [fs_pass hone (fun i g1 g2 g3 => h2.fit c hc' i g1 g2 g3) hne, htot]
    exact hx
  · rw [hpn, lastI_app hne]
    obtain ⟨q, hq, hq2⟩ := lastI_mem (prev := lastI none (progTo p lim t j)) hne
    rw [hq2]
    have hqc := hone.car q hq
    have hqr := hone.right q hq
    refine ⟨fun c' hcc i g1 g2 _ => lastR_ne _ (Or.inr (Or.inl fun he => ?_)), fun _ => ⟨q, c, rfl, by rw [Nat.add_sub_cancel]; exact hc', hqc, hqr⟩⟩
    rw [hqc, g1] at he
    rw [e] at hcc
    obtain ⟨a1, a2⟩ := List.getElem?_eq_some_iff.1 hc
    obtain ⟨b1, b2⟩ := List.getElem?_eq_some_iff.1 hcc
    have := List.pairwise_iff_getElem.1 (colsOf_lt row) j (j + 1) a1 b1 (by omega)
    omega
theorem prog_row {p : List (List Int)} {lim t : Nat} {row : List Int} (hr : p[t]? = some row) (hn : 0 < row.length) (h : ∃ l, fsRun lim none (0, -1) (progTo p lim t 0) = some (totTo p lim t 0, l) ∧ Rdy p t 0 (lastI none (progTo p lim t 0)) l) :
    ∀ j, j ≤ (colsOf row).length → ∃ l, fsRun lim none (0, -1) (progTo p lim t j) = some (totTo p lim t j, l) ∧ Rdy p t j (lastI none (progTo p lim t j)) l
  | 0, _ => h
  | j + 1, hj => prog_step hr hn (List.getElem?_eq_getElem (by omega)) (prog_row hr hn h j (by omega))
theorem prog_all {p : List (List Int)} {lim : Nat} (hv : chk p = 0) : ∀ t, t ≤ p.length → ∃ l, fsRun lim none (0, -1) (progTo p lim t 0) = some (totTo p lim t 0, l) ∧ Rdy p t 0 (lastI none (progTo p lim t 0)) l
  | 0, _ => by
    refine ⟨-1, ?_, ?_, fun h => absurd h (by omega)⟩
    · rw [progTo_zero, fsRun_ins fun i hi => insK_op hi]
      simp [totTo]
    · intro c' _ i _ _ _
      rw [progTo_zero]
      unfold lastI
      cases hl : (insK p 6).getLast? with
      | none => rfl
      | some q => exact lastR_ne _ (Or.inl (insK_op (List.mem_of_getLast? hl)))
  | t + 1, ht => by
    have hr : p[t]? = some p[t] := List.getElem?_eq_getElem (by omega)
    obtain ⟨row, hrow⟩ : ∃ row, row = p[t] := ⟨_, rfl⟩
    rw [← hrow] at hr
    have hmem := List.mem_of_getElem? hr
    have hn := ((chk_zero hv).2 row hmem).1
    have e : p.getD t [] = row := by rw [List.getD_eq_getElem?_getD, hr]; rfl
    obtain ⟨l, h1, h2⟩ := prog_row hr hn (prog_all hv t (by omega)) (colsOf row).length (Nat.le_refl _)
    have hpr := progTo_row p lim t
    rw [e] at hpr
    have htot : totTo p lim (t + 1) 0 = totTo p lim t (colsOf row).length := by
      unfold totTo
      rw [List.take_add_one, hr, e, List.take_length]
      simp only [Option.toList_some, List.map_append, List.map_cons, List.map_nil, List.sum_append, List.sum_cons, List.sum_nil, List.take_zero]
      unfold rowTot
      omega
    rw [hpr] at h1 h2
    refine ⟨l, by rw [htot]; exact h1, ?_, fun h => absurd h (by omega)⟩
    have hpos : 0 < (colsOf row).length := by
      apply List.length_pos_iff.2
      intro he
      have hx : row[0] ∈ colsOf row := colsOf_mem.2 ⟨chk_cells hv row hmem _ (List.getElem_mem hn), List.getElem_mem hn⟩
      rw [he] at hx
      exact absurd hx List.not_mem_nil
    obtain ⟨q, c, hq, hc, g1, g2⟩ := h2.info hpos
    rw [e] at hc
    have hcr := (colsOf_mem.1 (List.mem_of_getElem? hc)).2
    intro c' _ i i1 i2 _
    rw [hq]
    refine lastR_ne _ (Or.inr ?_)
    by_cases ec : c' = c
    · right
      rw [g2, i2, ec, odd_next hr hcr]
      cases oddB (p.take t) c <;> simp
    · left
      rw [g1, i1]
      exact fun h => ec h.symm
theorem sum_filter_zero {α : Type} (P : α → Bool) (f : α → Nat) : ∀ l : List α, (∀ x ∈ l, P x = false → f x = 0) → ((l.filter P).map f).sum = (l.map f).sum
  | [], _ => rfl
  | x :: l, h => by
    have ih := sum_filter_zero P f l fun y hy => h y (List.mem_cons_of_mem _ hy)
    cases hp : P x with
    | true => rw [List.filter_cons_of_pos hp, List.map_cons, List.map_cons, List.sum_cons, List.sum_cons, ih]
    | false => rw [List.filter_cons_of_neg (by rw [hp]; decide), List.map_cons, List.sum_cons, h x List.mem_cons_self hp, ih]; omega
theorem flo_absent {row : List Int} {c : Int} (h : c ∉ row) : flo row c = [] := by
  cases hl : flo row c with
  | nil => rfl
  | cons f l =>
    obtain ⟨e1, -, e3, e4⟩ := (flo_ends row c row.length).1 f (by show f ∈ flo row c; rw [hl]; exact List.mem_cons_self)
    rw [List.getD_eq_getElem?_getD, List.getElem?_eq_getElem (by omega)] at e1
    exact absurd (by rw [← e1]; exact List.getElem_mem _) h
theorem rowTot_eq (lim : Nat) (row : List Int) : rowTot lim row = ((List.range 6).map fun c => ((rowLens row c).map (· / (lim + 1))).sum).sum := by
  unfold rowTot
  have e : colsOf row = sixC.filter (row.contains ·) := rfl
  rw [e, sum_filter_zero _ _ _ (fun c _ hc => by
    have : c ∉ row := by simpa using hc
    unfold passTot
    rw [flo_absent this]; rfl)]
  have e2 : sixC = (List.range 6).map (fun c : Nat => (c : Int) + 1) := rfl
  rw [e2, List.map_map]
  congr 1
  apply List.map_congr_left
  intro c _
  show passTot lim row ((c : Int) + 1) = _
  unfold passTot rowLens
  rw [List.map_map]
  rfl
/-- The law's loop runs through. -/
theorem prog_scan {p : List (List Int)} {lim : Nat} (hv : chk p = 0) : ∃ l, fsRun lim none (0, -1) (progI p lim) = some (sumBind lim p, l) := by
  obtain ⟨l, h, -⟩ := prog_all (lim := lim) hv p.length (Nat.le_refl _)
  rw [progTo_all] at h
  refine ⟨l, ?_⟩
  rw [h]
  congr 2
  unfold totTo sumBind lens
  rw [List.take_length, List.take_zero, List.map_nil, List.sum_nil, Nat.add_zero, sum_flatMap]
  congr 1
  apply List.map_congr_left
  intro row _
  rw [rowTot_eq, sum_flatMap]
end Go.Proofs.YthedmiilkeclaaaGreat
