/- Layer 27, plain: a chart's rows, one by one. PassesKnits, plain: the rows of the chart, the loops that are made. -/
import Derived.Test.YtbnddpknejgmhaaGreatKP21
namespace Go.Proofs.YtbnddpknejgmhaaGreat
open Go.RowKit
set_option maxRecDepth 100000

/-- What k rows of faces are worked to. -/
def workP (n : Nat) (fs : List (List Stc)) : Nat → Pw
  | 0 => startP n
  | k + 1 => endR (rowRun ((k : Int) + 1) (fs.getD k []) (workP n fs k) (fs.getD k []).length)
theorem workP_next {n : Nat} {fs : List (List Stc)} {k : Nat} {l : List Stc} (h : fs[k]? = some l) : workP n fs (k + 1) = endR (rowRun ((k : Int) + 1) l (workP n fs k) l.length) := by
  show endR (rowRun _ (fs.getD k []) _ (fs.getD k []).length) = _
  rw [List.getD_eq_getElem?_getD, h]; rfl
/-- A chart that can be worked: each row uses the loops of the row before. -/
structure WkOk (n : Nat) (fs : List (List Stc)) : Prop where
  start : n ≤ 200
  few : fs.length ≤ 12
  row : ∀ k l, fs[k]? = some l → (∀ s ∈ l, s.ok = true) ∧ l.length ≤ 200 ∧ sumU l ≤ 200 ∧ sumM l ≤ 200 ∧ ((workP n fs k).next : Int) + sumU l = (workP n fs k).lp.length
theorem cross_len {s : Stc} (h : StcK s) (f : Nat) : ((crossL s f).length : Int) ≤ 18 * usesS s := by
  unfold crossL
  by_cases e : s.kind = 6 ∨ s.kind = 7
  · rw [if_pos e, crossN_len, h.uses, if_neg (by omega), if_neg (by omega), if_pos e]
    obtain ⟨h1, h2, h3, h4⟩ := h.cable e
    have : s.a.toNat * s.b.toNat ≤ 6 * 6 := Nat.mul_le_mul (by omega) (by omega)
    omega
  · rw [if_neg e]
    have := h.nat
    simp only [List.length_nil]
    omega
theorem rowRun_bc {row : Int} {l : List Stc} (hl : ∀ s ∈ l, StcK s) (t : Pw) : ∀ k, k ≤ l.length →
    ((rowRun row l t k).bound.length : Int) ≤ t.bound.length + sumU (l.take k) ∧ ((rowRun row l t k).cross.length : Int) ≤ t.cross.length + 18 * sumU (l.take k)
  | 0, _ => by constructor <;> simp [rowRun, sumU]
  | k + 1, hk => by
    obtain ⟨h1, h2⟩ := rowRun_bc (row := row) hl t k (by omega)
    have hx : l[k]? = some l[k] := List.getElem?_eq_getElem (by omega)
    have hc := hl _ (List.getElem_mem (show k < l.length by omega))
    have hn := hc.nat
    rw [rowRun_next hx]
    unfold stepC sumU
    rw [sum_take hx]
    unfold sumU at h1 h2
    simp only [List.length_append]
    have h3 := cross_len hc (rowRun row l t k).lp.length
    have h4 : ((boundL l[k] (usedN (rowRun row l t k).next (usesS l[k]).toNat)).length : Int) ≤ usesS l[k] := by
      unfold boundL
      split
      · rw [usedN_len]; omega
      · simp only [List.length_nil]; omega
    omega
theorem sumM_nn : ∀ {l : List Stc}, (∀ s ∈ l, StcK s) → 0 ≤ sumM l
  | [], _ => by simp [sumM]
  | x :: m, hm => by
    have h1 := (hm x List.mem_cons_self).nat
    have h2 := sumM_nn (l := m) fun y hy => hm y (List.mem_cons_of_mem _ hy)
    unfold sumM at h2 ⊢
    rw [List.map_cons, List.sum_cons]
    omega
theorem sumU_nn : ∀ {l : List Stc}, (∀ s ∈ l, StcK s) → 0 ≤ sumU l
  | [], _ => by simp [sumU]
  | x :: m, hm => by
    have h1 := (hm x List.mem_cons_self).nat
    have h2 := sumU_nn (l := m) fun y hy => hm y (List.mem_cons_of_mem _ hy)
    unfold sumU at h2 ⊢
    rw [List.map_cons, List.sum_cons]
    omega
theorem sumM_nonneg {l : List Stc} (hl : ∀ s ∈ l, StcK s) (k : Nat) : 0 ≤ sumM (l.take k) := sumM_nn fun x hx => hl x (List.mem_of_mem_take hx)
theorem sumM_le {l : List Stc} (hl : ∀ s ∈ l, StcK s) (k : Nat) : sumM (l.take k) ≤ sumM l := by
  have e : sumM l = sumM (l.take k) + sumM (l.drop k) := by
    unfold sumM
    rw [← List.sum_append, ← List.map_append, List.take_append_drop]
  have := sumM_nn (l := l.drop k) fun x hx => hl x (List.mem_of_mem_drop hx)
  omega
theorem newsL_few {s : Stc} (h : StcK s) (row k : Int) (a : Nat) (lp : List Lp) : ∀ x ∈ newsL row k s (usedN a (usesS s).toNat) lp, x.par.length ≤ 200 := fun x hx => by
  have hu := h.nat
  unfold newsL at hx
  split at hx
  · rw [(List.mem_replicate.1 hx).2]; simp only; rw [usedN_len]; omega
  split at hx
  · rw [(List.mem_replicate.1 hx).2]; simp
  split at hx
  · obtain ⟨y, -, rfl⟩ := List.mem_map.1 hx; simp
  split at hx
  · cases hx
  split at hx
  · rw [List.mem_singleton.1 hx]; simp only; rw [List.length_reverse, usedN_len]; omega
  split at hx
  · rw [List.mem_singleton.1 hx]; simp only; rw [usedN_len]; omega
  · rw [List.mem_singleton.1 hx]; simp only; rw [usedN_len]; omega
theorem par_few {row : Int} {l : List Stc} (hl : ∀ s ∈ l, StcK s) (t : Pw) (ht : ∀ x ∈ t.lp, x.par.length ≤ 200) : ∀ k, k ≤ l.length → ∀ x ∈ (rowRun row l t k).lp, x.par.length ≤ 200
  | 0, _ => ht
  | k + 1, hk => fun x hx => by
    have hy : l[k]? = some l[k] := List.getElem?_eq_getElem (by omega)
    rw [rowRun_next hy] at hx
    unfold stepC at hx
    rcases List.mem_append.1 hx with h | h
    · exact par_few hl t ht k (by omega) x h
    · exact newsL_few (hl _ (List.getElem_mem (show k < l.length by omega))) _ _ _ _ x h
theorem start_few (n : Nat) : ∀ x ∈ (startP n).lp, x.par.length ≤ 200 := fun x hx => by
  unfold startP at hx
  obtain ⟨i, -, rfl⟩ := List.mem_map.1 hx
  simp
/-- What holds ahead of each row. -/
structure WkI (t : Pw) (k : Nat) : Prop where
  rl : t.rows.length = k + 2
  r0 : t.rows[k]? = some (t.next : Int)
  r1 : t.rows[k + 1]? = some (t.lp.length : Int)
  ll : t.lp.length ≤ 200 * (k + 1)
  bl : t.bound.length ≤ 200 * k
  cl : t.cross.length ≤ 3600 * k
theorem WkOk.inv {n : Nat} {fs : List (List Stc)} (h : WkOk n fs) : ∀ k, k ≤ fs.length → WkI (workP n fs k) k
  | 0, _ => by
    have := h.start
    refine ⟨rfl, rfl, ?_, ?_, Nat.le_refl _, Nat.le_refl _⟩
    · show some (n : Int) = some _
      rw [show (workP n fs 0).lp.length = n from startP_len n]
    · rw [show (workP n fs 0).lp.length = n from startP_len n]; omega
  | k + 1, hk => by
    have ih := h.inv k (by omega)
    have hx : fs[k]? = some fs[k] := List.getElem?_eq_getElem (by omega)
    obtain ⟨o1, o2, o3, o4, o5⟩ := h.row k _ hx
    have hK : ∀ s ∈ fs[k], StcK s := fun s hs => stc_k (o1 s hs)
    obtain ⟨l1, l2, l3⟩ := rowRun_len (row := (k : Int) + 1) hK (workP n fs k) fs[k].length (Nat.le_refl _)
    obtain ⟨b1, b2⟩ := rowRun_bc (row := (k : Int) + 1) hK (workP n fs k) fs[k].length (Nat.le_refl _)
    rw [List.take_length] at l1 l2 b1 b2
    rw [workP_next hx]
    obtain ⟨rl, r0, r1, ll, bl, cl⟩ := ih
    unfold endR
    refine ⟨by simp only; rw [List.length_append, l3, rl]; rfl, ?_, ?_, by simp only; omega, by simp only; omega, by simp only; omega⟩
    · simp only
      rw [List.getElem?_append_left (by rw [l3, rl]; omega), l3, r1]
      congr 1
      omega
    · simp only
      rw [List.getElem?_append_right (by rw [l3, rl]; omega), l3, rl, Nat.sub_self]
      rfl
end Go.Proofs.YtbnddpknejgmhaaGreat
namespace Go.Proofs.YtbnddpknejgmhaaGreat
open Go.RowKit
set_option maxRecDepth 100000

abbrev St2 := List Mk × List Int
def ordK (left : Bool) (n q : Nat) : Nat := if left then n - 1 - q else q
def cellK (f : List Stc) (k : Nat) : Stc := f.getD k ⟨0, false, 0, 0⟩
def stK (f : List Stc) (k : Nat) (st : St2) : St2 := if (cellK f k).kind = 8 then st else (st.1 ++ [⟨[st.2.getD k 0], wantS (cellK f k), (k : Int), 1⟩], st.2.set k (st.1.length : Int))
def rowK (left : Bool) (n : Nat) (f : List Stc) (st : St2) : Nat → St2
  | 0 => st
  | q + 1 => stK f (ordK left n q) (rowK left n f st q)
theorem ordK_lt {left : Bool} {n q : Nat} (h : q < n) : ordK left n q < n := by unfold ordK; split <;> omega
theorem ordK_inj {left : Bool} {n q q' : Nat} (h : q < n) (h' : q' < n) (e : ordK left n q = ordK left n q') : q = q' := by unfold ordK at e; split at e <;> omega
theorem ordK_inv {left : Bool} {n k : Nat} (h : k < n) : ∃ q, q < n ∧ ordK left n q = k := by
  cases left
  · exact ⟨k, h, rfl⟩
  · exact ⟨n - 1 - k, by omega, by show n - 1 - (n - 1 - k) = k; omega⟩
theorem stK_len (f : List Stc) (k : Nat) (st : St2) : (stK f k st).2.length = st.2.length := by unfold stK; split <;> simp
theorem rowK_len (left : Bool) (n : Nat) (f : List Stc) (st : St2) : ∀ q, (rowK left n f st q).2.length = st.2.length
  | 0 => rfl
  | q + 1 => by show (stK _ _ _).2.length = _; rw [stK_len, rowK_len left n f st q]
theorem stK_made (f : List Stc) (k : Nat) (st : St2) : st.1.length ≤ (stK f k st).1.length ∧ (stK f k st).1.length ≤ st.1.length + 1 ∧ st.1 <+: (stK f k st).1 := by
  unfold stK
  split
  · exact ⟨Nat.le_refl _, Nat.le_succ _, List.prefix_refl _⟩
  · refine ⟨by simp, by simp, List.prefix_append _ _⟩
theorem rowK_made (left : Bool) (n : Nat) (f : List Stc) (st : St2) : ∀ q, (rowK left n f st q).1.length ≤ st.1.length + q
  | 0 => Nat.le_refl _
  | q + 1 => by
    have h1 := rowK_made left n f st q
    have h2 := (stK_made f (ordK left n q) (rowK left n f st q)).2.1
    show (stK _ _ _).1.length ≤ _
    omega
theorem rowK_pre (left : Bool) (n : Nat) (f : List Stc) (st : St2) {q q' : Nat} (h : q ≤ q') : (rowK left n f st q).1 <+: (rowK left n f st q').1 := by
  induction q' with
  | zero => rw [Nat.le_zero.1 h]; exact List.prefix_refl _
  | succ m ih =>
    rcases Nat.lt_or_ge q (m + 1) with h1 | h1
    · exact (ih (by omega)).trans (stK_made f (ordK left n m) _).2.2
    · rw [show q = m + 1 by omega]; exact List.prefix_refl _
/-- What a step of a row leaves alone. -/
theorem stK_ne {f : List Stc} {k u : Nat} (h : u ≠ k) (st : St2) : (stK f k st).2.getD u 0 = st.2.getD u 0 := by
  unfold stK
  split
  · rfl
  · by_cases hk : k < st.2.length
    · show (st.2.set k _).getD u 0 = _
      rw [getD_set hk, if_neg h]
    · show (st.2.set k _).getD u 0 = _
      rw [List.set_eq_of_length_le (by omega)]
theorem rowK_later {left : Bool} {n : Nat} (f : List Stc) (st : St2) : ∀ q q', q ≤ q' → q' < n → (rowK left n f st q).2.getD (ordK left n q') 0 = st.2.getD (ordK left n q') 0
  | 0, _, _, _ => rfl
  | q + 1, q', h, h' => by
    show (stK f (ordK left n q) (rowK left n f st q)).2.getD _ 0 = _
    rw [stK_ne (fun e => by have := ordK_inj (by omega) (by omega) e; omega)]
    exact rowK_later f st q q' (by omega) h'
theorem rowK_done {left : Bool} {n : Nat} (f : List Stc) (st : St2) {q' : Nat} (q : Nat) (h : q' < q) (hq : q ≤ n) : (rowK left n f st q).2.getD (ordK left n q') 0 = (rowK left n f st (q' + 1)).2.getD (ordK left n q') 0 := by
  induction q with
  | zero => omega
  | succ m ih =>
    rcases Nat.lt_or_ge q' m with h1 | h1
    · show (stK f (ordK left n m) (rowK left n f st m)).2.getD _ 0 = _
      rw [stK_ne (fun e => by have := ordK_inj (by omega) (by omega) e; omega)]
      exact ih h1 (by omega)
    · rw [show q' = m by omega]
/-! ### the machine knits a row -/
def jS (left : Bool) (n q : Nat) : Nat := if left then n - q else q
def rowN (left : Bool) (n : Nat) (f : List Stc) (B : List Int) (q : Nat) : List Ins := (List.range q).map fun q => knitI (opS (cellK f (ordK left n q))) (!left) (B.getD (ordK left n q) 0) ((ordK left n q : Nat) : Int)
theorem jB_ord {left : Bool} {n q : Nat} (h : q < n) : jB (!left) (ordK left n q) = jS left n q := by
  unfold jB ordK jS
  cases left
  · rfl
  · simp; omega
theorem jA_ord {left : Bool} {n q : Nat} (h : q < n) : jA (!left) (ordK left n q) = jS left n (q + 1) := by
  unfold jA ordK jS
  cases left
  · rfl
  · simp; omega
theorem KnS.row {n : Nat} (hn : n ≤ 101) {left : Bool} {f : List Stc} (hf : f.length = n) (hk : ∀ s ∈ f, s.kind = 1 ∨ s.kind = 8) {B : List Int} (hB : ∀ k, k < n → (cellK f k).kind = 1 → B.getD k 0 = wantS (cellK f k)) (hok : bedOkL B) {st : St2} (hc : st.2.length = n) (hm : st.1.length ≤ 3000) {t : BedS} (h : KnS n st.1 st.2 B (jS left n 0) t) :
    ∀ q, q ≤ n → ∃ t', Go1 t (rowN left n f B q) t' ∧ KnS n (rowK left n f st q).1 (rowK left n f st q).2 B (jS left n q) t'
  | 0, _ => ⟨t, Go1.nil t, h⟩
  | q + 1, hq => by
    obtain ⟨t1, h1, h2⟩ := KnS.row hn hf hk hB hok hc hm h q (by omega)
    have hlt : ordK left n q < n := ordK_lt (by omega)
    have e : rowN left n f B (q + 1) = rowN left n f B q ++ [knitI (opS (cellK f (ordK left n q))) (!left) (B.getD (ordK left n q) 0) ((ordK left n q : Nat) : Int)] := by
      unfold rowN; rw [List.range_succ, List.map_append]; rfl
    rw [e]
    have hmem : cellK f (ordK left n q) ∈ f := by
      unfold cellK
      rw [List.getD_eq_getElem?_getD, List.getElem?_eq_getElem (by omega)]
      exact List.getElem_mem (by omega)
    rw [← jB_ord (by omega)] at h2
    rw [← jA_ord (by omega)]
    show ∃ t', _ ∧ KnS n (stK f (ordK left n q) (rowK left n f st q)).1 (stK f (ordK left n q) (rowK left n f st q)).2 B _ t'
    rcases hk _ hmem with h3 | h3
    · have e8 : ¬ (cellK f (ordK left n q)).kind = 8 := by omega
      unfold stK
      rw [if_neg e8]
      have hlen := rowK_made left n f st q
      obtain ⟨t2, h4, h5⟩ := h2.knit hn hlt (by rw [rowK_len, hc]) (by omega) (hok _) rfl
      refine ⟨t2, h1.app ?_, ?_⟩
      · rw [show opS (cellK f (ordK left n q)) = 3 by unfold opS; rw [if_pos h3]]
        exact h4
      · rw [hB _ hlt h3] at h5
        exact h5
    · unfold stK
      rw [if_pos h3]
      obtain ⟨t2, h4, h5⟩ := h2.miss (k := ordK left n q) (by omega) (hok _) (b := B.getD (ordK left n q) 0)
      refine ⟨t2, h1.app ?_, h5⟩
      rw [show opS (cellK f (ordK left n q)) = 5 by unfold opS; rw [if_neg (by omega)]]
      exact h4
theorem row_list {right : Bool} {n : Nat} {f : List Stc} (hf : f.length = n) {B : List Int} (hB : B.length = n) : rwL right 0 f B = (List.range n).map fun k => knitI (opS (cellK f k)) right ((bdL 0 f B).getD k 0) (k : Int) := by
  apply List.ext_getElem?
  intro d
  by_cases hd : d < n
  · rw [rwL_at right f 0 B (by omega) d (by omega), List.getElem?_map, List.getElem?_range hd, Nat.zero_add]
    rfl
  · rw [List.getElem?_eq_none (by rw [rwL_len]; omega), List.getElem?_eq_none (by rw [List.length_map, List.length_range]; omega)]
theorem row_of {left : Bool} {n : Nat} {f : List Stc} (hf : f.length = n) {B : List Int} (hB : B.length = n) : (if left then (rwL (!left) 0 f B).reverse else rwL (!left) 0 f B) = rowN left n f (bdL 0 f B) n := by
  rw [row_list hf hB]
  cases left
  · rfl
  · rw [if_pos rfl]
    unfold rowN
    apply List.ext_getElem?
    intro d
    by_cases hd : d < n
    · rw [List.getElem?_reverse (by rw [List.length_map, List.length_range]; exact hd), List.getElem?_map, List.getElem?_map, List.length_map, List.length_range, List.getElem?_range (by omega), List.getElem?_range hd]
      rfl
    · rw [List.getElem?_eq_none (by rw [List.length_reverse, List.length_map, List.length_range]; omega), List.getElem?_eq_none (by rw [List.length_map, List.length_range]; omega)]
/-! ### the head -/
def mk0 (k : Nat) : Mk := ⟨[], 0, (k : Int), 1⟩
def st0 (n : Nat) : St2 := ((List.range n).map mk0, (List.range n).map fun k : Nat => (k : Int))
structure HdS (k : Nat) (t : BedS) : Prop where
  good : Good t
  rack : t.rack = 0
  made : t.made = (List.range k).map mk0
  feed : ∃ f, feedAt t.feeds 1 = some f ∧ (f.fresh = true ∨ f.place = 2 * (k : Int) - 1)
  front : ∀ u, heldAt t.hooks 0 u = if 0 ≤ u ∧ u < (k : Int) then [u] else []
  back : ∀ u, heldAt t.hooks 1 u = []
def inK : Ins := ⟨1, false, 0, 0, 0, 1, 0⟩
theorem inK_good : inK.good ∧ inK.wf := ⟨by decide, by unfold Ins.wf; decide⟩
theorem HdS.start : ∃ t, Go1 bed0 [inK] t ∧ HdS 0 t := by
  have hd : doI bed0 inK = ({ bed0 with feeds := setF (keyF 1) [⟨1, true, 0⟩] [] }, 0) := rfl
  have hg := (doI_good bed0_good inK_good.2 inK_good.1 (by rw [hd])).1
  rw [hd] at hg
  exact ⟨_, Go1.one (err_good inK_good.1) hd, hg, rfl, rfl, ⟨⟨1, true, 0⟩, rfl, Or.inl rfl⟩, fun u => by rw [if_neg (by omega)]; rfl, fun u => rfl⟩
theorem HdS.knit {k : Nat} {t : BedS} (h : HdS k t) (hk : k ≤ 100) : ∃ t', Go1 t [knitI 3 true 0 (k : Int)] t' ∧ HdS (k + 1) t' := by
  obtain ⟨f, hf, hfp⟩ := h.feed
  obtain ⟨g1, g2⟩ := knitI_good (Or.inl rfl) true (Or.inl (rfl : (0 : Int) = 0)) hk
  have hcol : colI t.rack (knitI 3 true 0 (k : Int)).bed (knitI 3 true 0 (k : Int)).at_ = (k : Int) := by
    show (k : Int) + 0 * t.rack = (k : Int)
    omega
  have hpass : passS t (knitI 3 true 0 (k : Int)) = some { t with feeds := setF (keyF 1) [⟨1, false, 2 * (k : Int) + 1⟩] t.feeds } := by
    unfold passS
    rw [show feedAt t.feeds (knitI 3 true 0 (k : Int)).car = some f from hf]
    have hw : wayI (knitI 3 true 0 (k : Int)) = 1 := rfl
    simp only [hcol, hw]
    rw [if_neg ?_]
    · rfl
    · rintro ⟨h1, h2⟩
      rcases hfp with h3 | h3
      · rw [h3] at h1; cases h1
      · rw [h3] at h2; omega
  have hml : t.made.length = k := by rw [h.made, List.length_map, List.length_range]
  have h0 : heldAt t.hooks 0 (k : Int) = [] := by rw [h.front, if_neg (by omega)]
  have hd : doI t (knitI 3 true 0 (k : Int)) = ({ rack := t.rack, hooks := putAt (putAt t.hooks 0 (k : Int) []) 0 (k : Int) [(t.made.length : Int)], feeds := setF (keyF 1) [⟨1, false, 2 * (k : Int) + 1⟩] t.feeds, made := t.made ++ [⟨heldAt t.hooks 0 (k : Int), 0, (k : Int), 1⟩] }, 0) := by
    rw [doI_yarn (Or.inl rfl)]
    unfold yarnS
    rw [hpass]
    show (if (3 : Int) = 5 then _ else if (3 : Int) = 4 then _ else if (3 : Int) = 6 then _ else _) = _
    rw [if_neg (by decide), if_neg (by decide), if_neg (by decide)]
    unfold knitS
    show (if t.made.length = 4000 then _ else _) = _
    rw [if_neg (by omega)]
    rfl
  have hg := (doI_good h.good g2 g1 (by rw [hd])).1
  rw [hd] at hg
  have ht0 := h.good.take (b := 0) ⟨by decide, by decide⟩ (show needleP (k : Int) by unfold needleP; omega)
  refine ⟨_, Go1.one (err_good g1) hd, hg, h.rack, ?_, ⟨_, feed_self t.feeds ⟨1, false, 2 * (k : Int) + 1⟩, Or.inr (by show 2 * (k : Int) + 1 = _; push_cast; omega)⟩, fun u => ?_, fun u => ?_⟩
  · show t.made ++ [_] = _
    rw [h0, h.made, List.range_succ, List.map_append]
    rfl
  · show heldAt (putAt (putAt t.hooks 0 (k : Int) []) 0 (k : Int) [(t.made.length : Int)]) 0 u = _
    rw [tp_at (l := putAt t.hooks 0 (k : Int) []) ht0.rh, hml]
    by_cases e : u = (k : Int)
    · rw [if_pos ⟨rfl, e⟩, if_pos (by omega), e]
    · rw [if_neg (fun h => e h.2), tp_at h.good.rh, if_neg (fun h => e h.2), h.front]
      by_cases c : 0 ≤ u ∧ u < (k : Int)
      · rw [if_pos c, if_pos (by omega)]
      · rw [if_neg c, if_neg (by omega)]
  · show heldAt (putAt (putAt t.hooks 0 (k : Int) []) 0 (k : Int) [(t.made.length : Int)]) 1 u = _
    rw [tp_at (l := putAt t.hooks 0 (k : Int) []) ht0.rh, if_neg (by omega), tp_at h.good.rh, if_neg (by omega), h.back]
theorem head_run : ∀ n, n ≤ 101 → ∃ t, Go1 bed0 (headL n) t ∧ HdS n t
  | 0, _ => HdS.start
  | n + 1, hn => by
    obtain ⟨t, h1, h2⟩ := head_run n (by omega)
    obtain ⟨t', h3, h4⟩ := h2.knit (by omega)
    refine ⟨t', ?_, h4⟩
    have e : headL (n + 1) = headL n ++ [knitI 3 true 0 (n : Int)] := by
      unfold headL
      rw [List.range_succ, List.map_append]
      rfl
    rw [e]
    exact h1.app h3
theorem HdS.kn {n : Nat} {t : BedS} (h : HdS n t) : KnS n (st0 n).1 (st0 n).2 (List.replicate n 0) n t :=
  ⟨h.good, h.rack, h.made, h.feed, fun b u hb => by
    by_cases hu : 0 ≤ u ∧ u < (n : Int)
    · obtain ⟨v, rfl⟩ : ∃ v : Nat, u = (v : Int) := ⟨u.toNat, by omega⟩
      have e1 : (List.replicate n (0 : Int)).getD (v : Int).toNat 0 = 0 := by
        rw [List.getD_eq_getElem?_getD, List.getElem?_replicate]; split <;> rfl
      have e2 : (st0 n).2.getD (v : Int).toNat 0 = (v : Int) := by
        rw [Int.toNat_natCast, List.getD_eq_getElem?_getD]
        show ((List.range n).map fun k : Nat => (k : Int))[v]?.getD 0 = _
        rw [List.getElem?_map, List.getElem?_range (by omega)]; rfl
      rw [e1, e2]
      rcases hb with rfl | rfl
      · rw [h.front, if_pos hu, if_pos ⟨hu.1, hu.2, rfl⟩]
      · rw [h.back, if_neg (by omega)]
    · rw [if_neg (fun x => hu ⟨x.1, x.2.1⟩)]
      rcases hb with rfl | rfl
      · rw [h.front, if_neg hu]
      · rw [h.back]⟩
/-! ### the whole chart -/
def stRows (n : Nat) (fs : List (List Stc)) : Nat → St2
  | 0 => st0 n
  | i + 1 => rowK (decide (i % 2 = 0)) n (fs.getD i []) (stRows n fs i) n
def bdRows (n : Nat) (fs : List (List Stc)) : Nat → List Int
  | 0 => List.replicate n 0
  | i + 1 => bdL 0 (fs.getD i []) (bdRows n fs i)
theorem stRows_len (n : Nat) (fs : List (List Stc)) : ∀ i, (stRows n fs i).2.length = n ∧ (stRows n fs i).1.length ≤ n * (i + 1)
  | 0 => ⟨by simp [stRows, st0], by simp [stRows, st0]⟩
  | i + 1 => by
    obtain ⟨h1, h2⟩ := stRows_len n fs i
    refine ⟨by show (rowK _ _ _ _ _).2.length = n; rw [rowK_len, h1], ?_⟩
    have := rowK_made (decide (i % 2 = 0)) n (fs.getD i []) (stRows n fs i) n
    show (rowK _ _ _ _ _).1.length ≤ _
    rw [Nat.mul_succ]
    omega
theorem bdRows_len (n : Nat) (fs : List (List Stc)) : ∀ i, (bdRows n fs i).length = n
  | 0 => by simp [bdRows]
  | i + 1 => by show (bdL 0 _ _).length = n; rw [bdL_len, bdRows_len n fs i]
theorem bdRows_ok (n : Nat) (fs : List (List Stc)) : ∀ i, bedOkL (bdRows n fs i)
  | 0 => fun u => Or.inl (by show (List.replicate n (0 : Int)).getD u 0 = 0; rw [List.getD_eq_getElem?_getD, List.getElem?_replicate]; split <;> rfl)
  | i + 1 => bdL_ok _ _ _ (bdRows_ok n fs i)
/-- A plain chart: rows of n cells, knit or slip. -/
structure PlC (n : Nat) (fs : List (List Stc)) : Prop where
  start : n ≤ 101
  few : fs.length ≤ 12
  len : ∀ f ∈ fs, f.length = n
  kind : ∀ f ∈ fs, ∀ s ∈ f, s.kind = 1 ∨ s.kind = 8
theorem xfL_wf : ∀ (l : List Stc) (k : Nat) (B : List Int), bedOkL B → k + l.length ≤ 101 → ∀ i ∈ xfL k l B, i.wf
  | [], _, _, _, _ => fun i hi => by cases hi
  | s :: l, k, B, hok, hk => fun i hi => by
    rw [List.length_cons] at hk
    rw [xfL_cons] at hi
    rcases List.mem_append.1 hi with h | h
    · split at h
      · rw [List.mem_singleton.1 h]
        exact (xferI_good (by have := hok k; omega) (show needleP (k : Int) by unfold needleP; omega)).2
      · cases h
    · exact xfL_wf l (k + 1) _ (stepB_ok hok) (by omega) i h
theorem rowN_wf {left : Bool} {n : Nat} (hn : n ≤ 101) {f : List Stc} {B : List Int} (hok : bedOkL B) : ∀ i ∈ rowN left n f B n, i.wf := fun i hi => by
  unfold rowN at hi
  obtain ⟨q, hq, rfl⟩ := List.mem_map.1 hi
  have h1 := ordK_lt (left := left) (List.mem_range.1 hq)
  refine (knitI_good (op := opS (cellK f (ordK left n q))) ?_ (!left) (hok _) (by omega)).2
  unfold opS
  split
  · exact Or.inl rfl
  · exact Or.inr rfl
theorem headL_wf {n : Nat} (hn : n ≤ 101) : ∀ i ∈ headL n, i.wf := fun i hi => by
  unfold headL at hi
  rcases List.mem_cons.1 hi with rfl | hi
  · exact inK_good.2
  · obtain ⟨k, hk, rfl⟩ := List.mem_map.1 hi
    exact (knitI_good (Or.inl rfl) true (Or.inl rfl) (by have := List.mem_range.1 hk; omega)).2
theorem rows_run {n : Nat} {p : List RowC} (h : PlC n (p.map faceL)) : ∀ i, i ≤ p.length → ∃ O t, rowsRun 0 p (headL n, List.replicate n 0) = rowsRun i (p.drop i) (O, bdRows n (p.map faceL) i) ∧ (∀ x ∈ O, x.wf) ∧ Go1 bed0 O t ∧ KnS n (stRows n (p.map faceL) i).1 (stRows n (p.map faceL) i).2 (bdRows n (p.map faceL) i) (if i % 2 = 0 then n else 0) t
  | 0, _ => by
    obtain ⟨t, h1, h2⟩ := head_run n h.start
    exact ⟨headL n, t, rfl, headL_wf h.start, h1, h2.kn⟩
  | i + 1, hi => by
    obtain ⟨O, t, h1, hwfO, h2, h3⟩ := rows_run h i (by omega)
    have hr : p[i]? = some p[i] := List.getElem?_eq_getElem (by omega)
    have hfl : (p.map faceL)[i]? = some (faceL p[i]) := by rw [List.getElem?_map, hr]; rfl
    have hgd : (p.map faceL).getD i [] = faceL p[i] := by rw [List.getD_eq_getElem?_getD, hfl]; rfl
    have hmem : faceL p[i] ∈ p.map faceL := List.mem_of_getElem? hfl
    have hlen := h.len _ hmem
    have hkind := h.kind _ hmem
    have hsl := stRows_len n (p.map faceL) i
    have hbl := bdRows_len n (p.map faceL) i
    have hbo := bdRows_ok n (p.map faceL) i
    have hst := h.start
    have hfew : i ≤ 12 := by have := h.few; rw [List.length_map] at this; omega
    obtain ⟨t1, h4, h5⟩ := KnS.xfers hst (faceL p[i]) 0 _ t (by omega) hbl hbo h3
    have hj : (if i % 2 = 0 then n else 0) = jS (decide (i % 2 = 0)) n 0 := by unfold jS; by_cases e : i % 2 = 0 <;> simp [e]
    rw [hj] at h5
    have hB2 : ∀ k, k < n → (cellK (faceL p[i]) k).kind = 1 → (bdL 0 (faceL p[i]) (bdRows n (p.map faceL) i)).getD k 0 = wantS (cellK (faceL p[i]) k) := fun k hk hk1 => by
      rw [bdL_at _ 0 _ (by omega), Nat.sub_zero]
      exact if_pos ⟨Nat.zero_le _, hk1⟩
    have hM : (stRows n (p.map faceL) i).1.length ≤ 3000 := by
      have h6 := hsl.2
      have : n * (i + 1) ≤ 101 * 13 := Nat.mul_le_mul hst (by omega)
      omega
    obtain ⟨t2, h6, h7⟩ := h5.row hst hlen hkind hB2 (bdL_ok _ _ _ hbo) hsl.1 hM n (Nat.le_refl _)
    refine ⟨O ++ xfL 0 (faceL p[i]) (bdRows n (p.map faceL) i) ++ rowN (decide (i % 2 = 0)) n (faceL p[i]) (bdL 0 (faceL p[i]) (bdRows n (p.map faceL) i)) n, t2, ?_, fun x hx => ?_, (h2.app h4).app h6, ?_⟩
    · rw [h1, rows_step hr, run_parts, ← row_of hlen hbl]
      show rowsRun (i + 1) (p.drop (i + 1)) _ = rowsRun (i + 1) (p.drop (i + 1)) (_, bdL 0 ((p.map faceL).getD i []) _)
      rw [hgd]
      by_cases e : i % 2 = 0
      · have e2 : ¬ i % 2 = 1 := by omega
        simp only [e, decide_true, if_true, Bool.not_true, List.nil_append]
        simp
      · have e2 : i % 2 = 1 := by omega
        simp [e2]
    · rcases List.mem_append.1 hx with hx | hx
      · rcases List.mem_append.1 hx with hx | hx
        · exact hwfO x hx
        · exact xfL_wf _ 0 _ hbo (by omega) x hx
      · exact rowN_wf hst (bdL_ok _ _ _ hbo) x hx
    · show KnS n (rowK _ n ((p.map faceL).getD i []) _ n).1 (rowK _ n ((p.map faceL).getD i []) _ n).2 (bdL 0 ((p.map faceL).getD i []) _) _ t2
      rw [hgd]
      have hj2 : (if (i + 1) % 2 = 0 then n else 0) = jS (decide (i % 2 = 0)) n n := by
        unfold jS
        by_cases e : i % 2 = 0
        · rw [if_neg (by omega)]; simp [e]
        · rw [if_pos (by omega)]; simp [e]
      rw [hj2]
      exact h7
theorem plain_chart {n : Nat} {p : List RowC} (he : chartE (n : Int) p = 0) (hp : plainB (n : Int) p = true) (h12 : p.length ≤ 12) : PlC n (p.map faceL) := by
  obtain ⟨h1, h2⟩ := plain_kind hp
  have h3 := plain_len (chart_zero he).2.2 h2
  refine ⟨by omega, by rw [List.length_map]; exact h12, fun f hf => ?_, fun f hf => ?_⟩
  · obtain ⟨r, hr, rfl⟩ := List.mem_map.1 hf
    rw [face_len]
    have := h3 r hr
    omega
  · obtain ⟨r, hr, rfl⟩ := List.mem_map.1 hf
    exact face_kind (h2 r hr)
/-- The machine runs the program. -/
theorem kn_run {n : Nat} {p : List RowC} (he : compE (n : Int) p = 0) (h12 : p.length ≤ 12) : PlC n (p.map faceL) ∧ (compL (n : Int) p).length ≤ 2000 ∧ (∀ i ∈ compL (n : Int) p, i.wf) ∧ ∃ t, runS bed0 (compL (n : Int) p) = (t, ((compL (n : Int) p).length : Int), 0) ∧ KnS n (stRows n (p.map faceL) p.length).1 (stRows n (p.map faceL) p.length).2 (bdRows n (p.map faceL) p.length) (if p.length % 2 = 0 then n else 0) t := by
  unfold compE at he
  by_cases h1 : chartE (n : Int) p ≠ 0
  · rw [if_pos h1] at he; exact absurd he h1
  rw [if_neg h1] at he
  have h1 : chartE (n : Int) p = 0 := by simpa using h1
  cases h2 : plainB (n : Int) p with
  | false => rw [h2, if_pos rfl] at he; exact absurd he (by decide)
  | true =>
    rw [h2, if_neg (by simp)] at he
    have h3 : ¬ 2000 < (compL (n : Int) p).length := fun h => by rw [if_pos h] at he; exact absurd he (by decide)
    have hpc := plain_chart h1 h2 h12
    obtain ⟨O, t, h4, hwf, h5, h6⟩ := rows_run hpc p.length (Nat.le_refl _)
    have hO : compL (n : Int) p = O := by
      unfold compL
      rw [Int.toNat_natCast, h4, List.drop_length]
      rfl
    refine ⟨hpc, by omega, by rw [hO]; exact hwf, t, ?_, h6⟩
    unfold runS
    rw [if_neg (by rw [bed0_good.err]; decide), if_neg h3, hO]
    exact h5.end_
end Go.Proofs.YtbnddpknejgmhaaGreat
