/- Layer 34, plain: what instructions show; the program of a picture shows the picture. -/
import Derived.Test.YthedmiilkeclaaaGreatKFr
namespace Go.Proofs.YthedmiilkeclaaaGreat
open Go.RowKit
open Go.Proofs.YthedmiilkeclaaaGreat.I34
set_option maxRecDepth 100000

/-- Is it a loop of the front that is shown? -/
def shB (w : Nat) (i : Ins) : Bool := decide (i.op = 3) && (decide (i.bed = 0) && (decide (0 ≤ i.at_) && decide (i.at_ < (w : Int))))
/-- The counts of the needles, and the rows. -/
abbrev ShS := List Int × List (List Int)
def shIn (w : Nat) (s : ShS) (i : Ins) : ShS :=
  let row := s.1.getD i.at_.toNat 0
  let R := if row = (s.2.length : Int) then s.2 ++ [List.replicate w 0] else s.2
  (s.1.set i.at_.toNat (row + 1), R.set row.toNat ((R.getD row.toNat []).set i.at_.toNat i.car))
def shStep (w : Nat) (s : ShS) (i : Ins) : ShS := if shB w i then shIn w s i else s
def shRun (w : Nat) (s : ShS) (l : List Ins) : ShS := l.foldl (shStep w) s
def sh0 : ShS := (List.replicate 101 0, [])
/-- What Show answers. -/
def showE (l : List Ins) (w : Int) : List (List Int) × Int :=
  if 2000 < l.length then ([], 4)
  else if l.any (fun i => decide (i.err ≠ 0)) then ([], 8)
  else if w < 1 ∨ 101 < w then ([], 2)
  else if 100 < (shRun w.toNat sh0 l).2.length then ([], 4)
  else if ((shRun w.toNat sh0 l).1.take w.toNat).any (fun n => decide (n ≠ ((shRun w.toNat sh0 l).2.length : Int))) then ([], 26)
  else ((shRun w.toNat sh0 l).2, 0)
/-- The counts and rows stay in order. -/
structure ShOk (w : Nat) (s : ShS) : Prop where
  len : s.1.length = 101
  rows : ∀ r ∈ s.2, r.length = w
  lo : ∀ k, 0 ≤ s.1.getD k 0
  hi : ∀ k, s.1.getD k 0 ≤ (s.2.length : Int)
theorem ShOk.new (w : Nat) : ShOk w sh0 := by
  have h : ∀ k, sh0.1.getD k 0 = 0 := fun k => by
    show (List.replicate 101 (0 : Int)).getD k 0 = 0
    rw [List.getD_eq_getElem?_getD, List.getElem?_replicate]
    split <;> rfl
  exact ⟨by simp [sh0], fun r hr => by simp [sh0] at hr, fun k => by rw [h]; exact Int.le_refl 0, fun k => by rw [h]; simp [sh0]⟩
theorem getD_set_int (l : List Int) (k j : Nat) (x : Int) (hk : k < l.length) : (l.set k x).getD j 0 = if j = k then x else l.getD j 0 := by
  rw [List.getD_eq_getElem?_getD, List.getElem?_set]
  by_cases e : k = j
  · subst e; simp [hk]
  · rw [if_neg e, if_neg (fun h => e h.symm), List.getD_eq_getElem?_getD]
theorem ShOk.step {w : Nat} {s : ShS} (h : ShOk w s) {i : Ins} (hw : w ≤ 101) : ShOk w (shStep w s i) := by
  unfold shStep
  by_cases hb : shB w i = true
  · rw [if_pos hb]
    have hat : i.at_.toNat < 101 := by
      unfold shB at hb
      simp only [Bool.and_eq_true, decide_eq_true_eq] at hb
      omega
    have h1 := h.lo i.at_.toNat
    have h2 := h.hi i.at_.toNat
    have hl := h.len
    have key : ∀ R : List (List Int), (∀ r ∈ R, r.length = w) → s.2.length ≤ R.length → s.1.getD i.at_.toNat 0 < (R.length : Int) → ShOk w (s.1.set i.at_.toNat (s.1.getD i.at_.toNat 0 + 1), R.set (s.1.getD i.at_.toNat 0).toNat ((R.getD (s.1.getD i.at_.toNat 0).toNat []).set i.at_.toNat i.car)) := fun R hR hle hlt => by
      refine ⟨by simp [hl], fun r hr => ?_, fun k => ?_, fun k => ?_⟩
      · rcases List.mem_or_eq_of_mem_set hr with hr | hr
        · exact hR r hr
        · rw [hr, List.length_set]
          have hx : R.getD (s.1.getD i.at_.toNat 0).toNat [] ∈ R := by
            rw [List.getD_eq_getElem?_getD, List.getElem?_eq_getElem (by omega)]
            exact List.getElem_mem _
          exact hR _ hx
      · show 0 ≤ (s.1.set _ _).getD k 0
        rw [getD_set_int _ _ _ _ (by omega)]
        split
        · omega
        · exact h.lo k
      · show (s.1.set _ _).getD k 0 ≤ ((R.set _ _).length : Int)
        rw [getD_set_int _ _ _ _ (by omega), List.length_set]
        split
        · omega
        · have := h.hi k; omega
    unfold shIn
    simp only
    by_cases e : s.1.getD i.at_.toNat 0 = (s.2.length : Int)
    · rw [if_pos e]
      refine key _ (fun r hr => ?_) (by simp) (by rw [e]; simp; omega)
      rcases List.mem_append.1 hr with hr | hr
      · exact h.rows r hr
      · rw [List.mem_singleton.1 hr]; simp
    · rw [if_neg e]
      exact key _ h.rows (Nat.le_refl _) (by omega)
  · rw [if_neg hb]; exact h
theorem ShOk.run {w : Nat} (hw : w ≤ 101) : ∀ {l : List Ins} {s : ShS}, ShOk w s → ShOk w (shRun w s l)
  | [], _, h => h
  | i :: l, _, h => ShOk.run hw (l := l) (h.step (i := i) hw)
theorem shRun_len (w : Nat) : ∀ (l : List Ins) (s : ShS), (shRun w s l).2.length ≤ s.2.length + l.length
  | [], s => by show s.2.length ≤ s.2.length + 0; omega
  | i :: l, s => by
    have h1 := shRun_len w l (shStep w s i)
    have h2 : (shStep w s i).2.length ≤ s.2.length + 1 := by
      unfold shStep shIn
      split
      · simp only [List.length_set]
        split
        · simp
        · omega
      · omega
    show (shRun w (shStep w s i) l).2.length ≤ _
    simp only [List.length_cons]
    omega
theorem shRun_app (w : Nat) (a b : List Ins) (s : ShS) : shRun w s (a ++ b) = shRun w (shRun w s a) b := List.foldl_append ..
theorem shRun_next (w : Nat) {l : List Ins} {i : Nat} {x : Ins} (h : l[i]? = some x) (s : ShS) : shRun w s (l.take (i + 1)) = shStep w (shRun w s (l.take i)) x := by
  rw [List.take_add_one, h, Option.toList_some, shRun_app]
  rfl

/-! ### the program of a picture -/
/-- Behind t rows and the cells D of the next one. -/
structure ShP (n : Nat) (p : List (List Int)) (t : Nat) (row : List Int) (D : Nat → Bool) (s : ShS) : Prop where
  len : s.1.length = 101
  cnt : ∀ k, k < n → s.1.getD k 0 = (t : Int) + if D k then 1 else 0
  rows : (∀ k, k < n → D k = false) → s.2 = p.take t
  part : (∃ k, k < n ∧ D k = true) → s.2 = p.take t ++ [(List.range n).map fun k => if D k then row.getD k 0 else 0]
theorem ShP.congr {n : Nat} {p : List (List Int)} {t : Nat} {row : List Int} {D E : Nat → Bool} {s : ShS} (h : ShP n p t row D s) (he : ∀ k, k < n → E k = D k) : ShP n p t row E s := by
  refine ⟨h.len, fun k hk => by rw [he k hk]; exact h.cnt k hk, fun hz => h.rows fun k hk => by rw [← he k hk]; exact hz k hk, fun ⟨k, hk, hd⟩ => ?_⟩
  rw [h.part ⟨k, hk, by rw [← he k hk]; exact hd⟩]
  congr 2
  apply List.map_congr_left
  intro j hj
  rw [he j (by simpa using hj)]
theorem ShP.knit {n : Nat} {p : List (List Int)} {t : Nat} {row : List Int} {D : Nat → Bool} {s : ShS} (h : ShP n p t row D s) (hn : n ≤ 101) (ht : t ≤ p.length) {k : Nat} (hk : k < n) (hD : D k = false) {i : Ins} (h1 : i.op = 3) (h2 : i.bed = 0) (h3 : i.at_ = (k : Int)) (h4 : i.car = row.getD k 0) : ShP n p t row (fun j => D j || decide (j = k)) (shStep n s i) := by
  have hb : shB n i = true := by unfold shB; rw [h1, h2, h3]; simp; omega
  have hat : i.at_.toNat = k := by omega
  have hc : s.1.getD k 0 = (t : Int) := by rw [h.cnt k hk, hD]; simp
  have htl : (p.take t).length = t := by rw [List.length_take]; omega
  unfold shStep
  rw [if_pos hb]
  unfold shIn
  simp only [hat, hc, Int.toNat_natCast, h4]
  have hcnt : ∀ j, j < n → (s.1.set k ((t : Int) + 1)).getD j 0 = (t : Int) + if (D j || decide (j = k)) then 1 else 0 := fun j hj => by
    rw [getD_set_int _ _ _ _ (by rw [h.len]; omega)]
    by_cases e : j = k
    · subst e; simp
    · rw [if_neg e, decide_eq_false e, Bool.or_false]; exact h.cnt j hj
  have fin : ∀ R : List (List Int), R = p.take t ++ [(List.range n).map fun j => if D j then row.getD j 0 else 0] → R.set t ((R.getD t []).set k (row.getD k 0)) = p.take t ++ [(List.range n).map fun j => if (D j || decide (j = k)) then row.getD j 0 else 0] := fun R hR => by
    have hg : R.getD t [] = (List.range n).map fun j => if D j then row.getD j 0 else 0 := by
      rw [hR, List.getD_eq_getElem?_getD, List.getElem?_append_right (by omega), htl, Nat.sub_self]; rfl
    rw [hg, hR, List.set_append_right _ _ (by omega), htl, Nat.sub_self]
    congr 1
    show [((List.range n).map fun j => if D j then row.getD j 0 else 0).set k (row.getD k 0)] = _
    congr 1
    apply List.ext_getElem (by simp)
    intro j g1 g2
    rw [List.getElem_set]
    simp only [List.getElem_map, List.getElem_range]
    by_cases e : k = j
    · subst e; simp
    · rw [if_neg e, decide_eq_false (fun h => e h.symm), Bool.or_false]
  by_cases hz : ∀ j, j < n → D j = false
  · have hr := h.rows hz
    have hl : (s.2.length : Int) = (t : Int) := by rw [hr, htl]
    rw [if_pos hl.symm, hr]
    refine ⟨by simp [h.len], hcnt, fun hh => ?_, fun _ => ?_⟩
    · have := hh k hk; simp at this
    · refine fin _ ?_
      congr 2
      apply List.ext_getElem (by simp)
      intro j g1 g2
      simp only [List.getElem_replicate, List.getElem_map, List.getElem_range]
      rw [hz j (by simpa using g2)]; rfl
  · have hex : ∃ j, j < n ∧ D j = true := by
      apply Classical.byContradiction
      intro hne
      exact hz fun j hj => by
        cases hd : D j with
        | false => rfl
        | true => exact absurd ⟨j, hj, hd⟩ hne
    have hr := h.part hex
    have hl : ¬ (t : Int) = (s.2.length : Int) := by rw [hr, List.length_append, htl]; simp; omega
    rw [if_neg hl]
    refine ⟨by simp [h.len], hcnt, fun hh => ?_, fun _ => fin _ hr⟩
    have := hh k hk; simp at this
/-- A list of cells of one row, worked in some order. -/
theorem ShP.cells {n : Nat} {p : List (List Int)} {t : Nat} {row : List Int} (hn : n ≤ 101) (ht : t ≤ p.length) (c : Int) : ∀ (ks : List Nat) {D : Nat → Bool} {s : ShS} (f : Nat → Ins), ShP n p t row D s → ks.Nodup → (∀ k ∈ ks, k < n ∧ (f k).bed = 0 ∧ (f k).at_ = (k : Int) ∧ (f k).car = c ∧ ((f k).op = 3 ↔ row.getD k 0 = c)) → (∀ k ∈ ks, row.getD k 0 = c → D k = false) →
    ShP n p t row (fun j => D j || (decide (j ∈ ks) && decide (row.getD j 0 = c))) (shRun n s (ks.map f))
  | [], D, s, f, h, _, _, _ => h.congr fun k _ => by simp
  | k :: ks, D, s, f, h, hnd, hf, hD => by
    obtain ⟨hk, f1, f2, f3, f4⟩ := hf k List.mem_cons_self
    obtain ⟨n1, n2⟩ := List.nodup_cons.1 hnd
    show ShP n p t row _ (shRun n (shStep n s (f k)) (ks.map f))
    by_cases hc : row.getD k 0 = c
    · have h2 := h.knit hn ht hk (hD k List.mem_cons_self hc) (f4.2 hc) f1 f2 (f3.trans hc.symm)
      refine (ShP.cells hn ht c ks f h2 n2 (fun j hj => hf j (List.mem_cons_of_mem _ hj)) (fun j hj hjc => ?_)).congr fun j hj => ?_
      · rw [hD j (List.mem_cons_of_mem _ hj) hjc, decide_eq_false (fun e => n1 (by rw [← e]; exact hj))]; rfl
      · by_cases e : j = k
        · subst e; rw [decide_eq_true hc]; simp
        · rw [decide_eq_false e, Bool.or_false]
          congr 2
          rw [decide_eq_decide]
          simp [e]
    · have hb : shStep n s (f k) = s := by
        unfold shStep shB
        rw [decide_eq_false (fun h => hc (f4.1 h))]
        rfl
      rw [hb]
      refine (ShP.cells hn ht c ks f h n2 (fun j hj => hf j (List.mem_cons_of_mem _ hj)) (fun j hj hjc => hD j (List.mem_cons_of_mem _ hj) hjc)).congr fun j hj => ?_
      by_cases e : j = k
      · subst e; rw [decide_eq_false hc]; simp
      · congr 2
        rw [decide_eq_decide]
        simp [e]
theorem ShP.pass {p : List (List Int)} {t : Nat} {row : List Int} {D : Nat → Bool} {s : ShS} (h : ShP row.length p t row D s) (hn : row.length ≤ 101) (ht : t ≤ p.length) (c : Int) (lim : Nat) (right : Bool) (hD : ∀ k, k < row.length → row.getD k 0 = c → D k = false) :
    ShP row.length p t row (fun j => D j || decide (row.getD j 0 = c)) (shRun row.length s (passI row c lim right)) := by
  have hop : ∀ k, (insQ row c right (tuckB (flo row c) (lim + 1) right) k).op = 3 ↔ row.getD k 0 = c := fun k => by
    show opQ row c (tuckB (flo row c) (lim + 1) right) k = 3 ↔ _
    unfold opQ
    constructor
    · intro h1
      split at h1
      · omega
      · split at h1
        · assumption
        · omega
    · intro h1
      rw [tuck_colour h1, if_neg (by decide), if_pos h1]
  unfold passI turnR
  split
  · unfold passQ
    refine (ShP.cells hn ht c (List.range row.length) (insQ row c right (tuckB (flo row c) (lim + 1) right)) h List.nodup_range (fun k hk => ⟨by simpa using hk, rfl, rfl, rfl, hop k⟩) (fun k hk hkc => hD k (by simpa using hk) hkc)).congr fun j hj => ?_
    rw [decide_eq_true (show j ∈ List.range row.length by simpa using hj), Bool.true_and]
  · unfold passQ
    rw [← List.map_reverse]
    refine (ShP.cells hn ht c (List.range row.length).reverse (insQ row c right (tuckB (flo row c) (lim + 1) right)) h ((List.reverse_perm _).nodup_iff.2 List.nodup_range) (fun k hk => ⟨by simpa using hk, rfl, rfl, rfl, hop k⟩) (fun k hk hkc => hD k (by simpa using hk) hkc)).congr fun j hj => ?_
    rw [decide_eq_true (show j ∈ (List.range row.length).reverse by simpa using hj), Bool.true_and]
theorem chk_len {p : List (List Int)} (h : chk p = 0) {row : List Int} (hr : row ∈ p) : row.length = (p.headD []).length := by
  unfold chk at h
  split at h
  · cases h
  · split at h
    · cases h
    · rename_i h2
      have h3 : rowBad (p.headD []).length row = false := by
        cases hb : rowBad (p.headD []).length row with
        | false => rfl
        | true => exact absurd (List.any_eq_true.2 ⟨row, hr, hb⟩) h2
      unfold rowBad at h3
      rw [Bool.or_eq_false_iff, Bool.or_eq_false_iff] at h3
      have := of_decide_eq_false h3.1.2
      exact Classical.not_not.1 this
theorem ShP.cols {p : List (List Int)} {lim t : Nat} {row : List Int} (hr : p[t]? = some row) (hn : row.length ≤ 101) : ∀ (j : Nat), j ≤ (colsOf row).length → ∀ {s : ShS}, ShP row.length p t row (fun _ => false) s →
    ShP row.length p t row (fun k => decide (row.getD k 0 ∈ (colsOf row).take j)) (shRun row.length s (((colsOf row).take j).flatMap fun c => passI row c lim (!oddB (p.take t) c)))
  | 0, _, s, h => h.congr fun k _ => by simp
  | j + 1, hj, s, h => by
    have hg : (colsOf row)[j]? = some (colsOf row)[j] := List.getElem?_eq_getElem (by omega)
    have ih := ShP.cols (lim := lim) hr hn j (by omega) h
    have ht : t ≤ p.length := by have := (List.getElem?_eq_some_iff.1 hr).1; omega
    rw [List.take_add_one, hg]
    simp only [Option.toList_some, List.flatMap_append, List.flatMap_singleton]
    rw [shRun_app]
    refine (ih.pass hn ht (colsOf row)[j] lim _ (fun k hk hkc => ?_)).congr fun k hk => ?_
    · rw [hkc]
      apply decide_eq_false
      intro hm
      obtain ⟨i, hi⟩ := List.mem_iff_getElem?.1 hm
      rw [List.getElem?_take] at hi
      split at hi
      · rename_i hij
        obtain ⟨a1, a2⟩ := List.getElem?_eq_some_iff.1 hi
        have := (List.getElem_inj (cols_nodup row)).1 a2
        omega
      · cases hi
    · simp only [List.mem_append, List.mem_singleton]
      rw [Bool.eq_iff_iff]
      simp
theorem ShP.row {p : List (List Int)} {lim t : Nat} {row : List Int} (hv : chk p = 0) (hr : p[t]? = some row) {s : ShS} (h : ShP row.length p t row (fun _ => false) s) (nx : List Int) (hnx : nx.length = row.length) : ShP nx.length p (t + 1) nx (fun _ => false) (shRun row.length s (rowProg (p.take t) row lim)) := by
  have hm := List.mem_of_getElem? hr
  have hn := (chk_zero hv).2 row hm
  have h2 := ShP.cols (lim := lim) hr hn.2 (colsOf row).length (Nat.le_refl _) h
  rw [List.take_length] at h2
  have hall : ∀ k, k < row.length → row.getD k 0 ∈ colsOf row := fun k hk => by
    have hx : row.getD k 0 ∈ row := by rw [List.getD_eq_getElem?_getD, List.getElem?_eq_getElem hk]; exact List.getElem_mem hk
    exact colsOf_mem.2 ⟨chk_cells hv row hm _ hx, hx⟩
  rw [hnx]
  unfold rowProg
  refine ⟨h2.len, fun k hk => ?_, fun _ => ?_, fun ⟨k, hk, hd⟩ => by simp at hd⟩
  · rw [h2.cnt k hk, decide_eq_true (hall k hk)]; simp
  · rw [h2.part ⟨0, hn.1, decide_eq_true (hall 0 hn.1)⟩, List.take_add_one, hr]
    congr 1
    show _ = [row]
    congr 1
    apply List.ext_getElem (by simp)
    intro k g1 g2
    simp only [List.getElem_map, List.getElem_range]
    rw [decide_eq_true (hall k g2), if_pos rfl, List.getD_eq_getElem?_getD, List.getElem?_eq_getElem g2]
    rfl
/-- The program shows the picture. -/
theorem show_prog {p : List (List Int)} {lim : Nat} (hv : chk p = 0) (hp : p ≠ []) (hl : (progI p lim).length ≤ 2000) (he : ∀ i ∈ progI p lim, i.err = 0) : showE (progI p lim) ((p.headD []).length : Int) = (p, 0) := by
  obtain ⟨hp100, hrows⟩ := chk_zero hv
  have hhd : p.headD [] ∈ p := by cases p with
    | nil => exact absurd rfl hp
    | cons a t => exact List.mem_cons_self
  obtain ⟨hn1, hn2⟩ := hrows _ hhd
  obtain ⟨n, hnd⟩ : ∃ n, n = (p.headD []).length := ⟨_, rfl⟩
  rw [← hnd] at hn1 hn2 ⊢
  have hlen : ∀ row ∈ p, row.length = n := fun row hr => by rw [hnd]; exact chk_len hv hr
  have hins : shRun n sh0 (insK p 6) = sh0 := by
    have : ∀ (l : List Ins), (∀ i ∈ l, i.op = 1) → ∀ s, shRun n s l = s := by
      intro l
      induction l with
      | nil => intro _ s; rfl
      | cons i l ih =>
        intro h s
        show shRun n (shStep n s i) l = s
        have e : shStep n s i = s := by
          unfold shStep shB
          rw [h i List.mem_cons_self]
          simp
        rw [e]
        exact ih (fun x hx => h x (List.mem_cons_of_mem _ hx)) s
    exact this _ (fun i hi => insK_op hi) _
  have hz : ∀ k, sh0.1.getD k 0 = 0 := fun k => by
    show (List.replicate 101 (0 : Int)).getD k 0 = 0
    rw [List.getD_eq_getElem?_getD, List.getElem?_replicate]
    split <;> rfl
  have main : ∀ t, t ≤ p.length → ∀ row : List Int, row.length = n → ShP row.length p t row (fun _ => false) (shRun n sh0 (bodyProg p lim t)) := by
    intro t
    induction t with
    | zero =>
      intro _ row hr
      refine ⟨by simp [bodyProg, shRun, sh0], fun k _ => ?_, fun _ => by simp [bodyProg, shRun, sh0], fun ⟨k, _, hd⟩ => by simp at hd⟩
      show sh0.1.getD k 0 = _
      rw [hz]; simp
    | succ t ih =>
      intro ht nx hnx
      have hr : p[t]? = some p[t] := List.getElem?_eq_getElem (by omega)
      have hrl := hlen _ (List.mem_of_getElem? hr)
      have h1 := ih (by omega) p[t] hrl
      have h2 := ShP.row (lim := lim) hv hr h1 nx (by rw [hnx, hrl])
      have e : bodyProg p lim (t + 1) = bodyProg p lim t ++ rowProg (p.take t) p[t] lim := by
        unfold bodyProg
        rw [List.range_succ, List.flatMap_append, List.flatMap_singleton]
        congr 2
        rw [List.getD_eq_getElem?_getD, hr]; rfl
      rw [e, shRun_app]
      rw [hrl] at h2
      exact h2
  have hfin := main p.length (Nat.le_refl _) (p.headD []) hnd.symm
  rw [← hnd] at hfin
  have hrun : shRun n sh0 (progI p lim) = shRun n sh0 (bodyProg p lim p.length) := by
    unfold progI
    rw [shRun_app, hins]
  have hR : (shRun n sh0 (progI p lim)).2 = p := by
    rw [hrun, hfin.rows fun _ _ => rfl, List.take_length]
  unfold showE
  rw [if_neg (by omega), if_neg (by
    intro h
    obtain ⟨i, hi, hx⟩ := List.any_eq_true.1 h
    exact (of_decide_eq_true hx) (he i hi)), if_neg (by omega), Int.toNat_natCast, hR, if_neg (by omega), if_neg (by
    intro h
    obtain ⟨x, hx, hx2⟩ := List.any_eq_true.1 h
    obtain ⟨k, hk⟩ := List.mem_iff_getElem?.1 hx
    rw [List.getElem?_take] at hk
    split at hk
    · rename_i hkn
      have h1 := hfin.cnt k hkn
      rw [← hrun, List.getD_eq_getElem?_getD, hk] at h1
      simp only [Option.getD_some, Bool.false_eq_true, if_false] at h1
      exact (of_decide_eq_true hx2) (by rw [h1]; omega)
    · cases hk)]
end Go.Proofs.YthedmiilkeclaaaGreat
