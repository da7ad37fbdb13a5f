/- Layer 27, plain: what a chart is worked to. Layer 27, plain: a chart's rows, one by one. -/
import Derived.Test.YtflpikickbellaaKSt4
namespace Go.Proofs.Ytflpikickbellaa
open Go.RowKit
set_option maxRecDepth 100000

/-- A loop: its row, its cell, its parents, whether it is a purl. -/
structure Lp where
  row : Int
  cell : Int
  par : List Int
  purl : Bool
def lp0 : Lp := ⟨0, 0, [], false⟩
def usedN (at_ n : Nat) : List Int := (List.range n).map fun i : Nat => ((at_ + i : Nat) : Int)
/-- The loops that a cell makes. -/
def newsL (row k : Int) (s : Stc) (used : List Int) (lp : List Lp) : List Lp :=
  if s.kind = 5 then List.replicate s.a.toNat ⟨row, k, used, s.purl⟩
  else if s.kind = 9 then List.replicate s.a.toNat ⟨row, k, [], s.purl⟩
  else if s.kind = 6 ∨ s.kind = 7 then (used.drop s.a.toNat ++ used.take s.a.toNat).map fun x => ⟨row, k, [x], s.purl⟩
  else if s.kind = 10 then []
  else if s.kind = 4 then [⟨row, k, used.reverse, s.purl⟩]
  else if s.kind = 8 then [⟨row, k, used, (lp.getD (used.getD 0 0).toNat lp0).purl⟩]
  else [⟨row, k, used, s.purl⟩]
def crossP (s : Stc) (first i n : Nat) : Int × Int := if s.kind = 7 then ((first + n : Nat), ((first + s.b.toNat + i : Nat) : Int)) else (((first + s.b.toNat + i : Nat) : Int), ((first + n : Nat) : Int))
def crossI (s : Stc) (first i k : Nat) : List (Int × Int) := (List.range k).map (crossP s first i)
def crossN (s : Stc) (first k : Nat) : List (Int × Int) := (List.range k).flatMap fun i => crossI s first i s.b.toNat
def crossL (s : Stc) (first : Nat) : List (Int × Int) := if s.kind = 6 ∨ s.kind = 7 then crossN s first s.a.toNat else []
def boundL (s : Stc) (used : List Int) : List Int := if s.kind = 10 then used else []
/-- A piece under way. -/
structure Pw where
  lp : List Lp
  bound : List Int
  cross : List (Int × Int)
  rows : List Int
  next : Nat
def stepC (row k : Int) (s : Stc) (t : Pw) : Pw :=
  ⟨t.lp ++ newsL row k s (usedN t.next (usesS s).toNat) t.lp, t.bound ++ boundL s (usedN t.next (usesS s).toNat), t.cross ++ crossL s t.lp.length, t.rows, t.next + (usesS s).toNat⟩
def rowRun (row : Int) (l : List Stc) (t : Pw) : Nat → Pw
  | 0 => t
  | k + 1 => stepC row (k : Int) (l.getD k ⟨0, false, 0, 0⟩) (rowRun row l t k)
def endR (t : Pw) : Pw := ⟨t.lp, t.bound, t.cross, t.rows ++ [(t.lp.length : Int)], t.next⟩
def startP (n : Nat) : Pw := ⟨(List.range n).map fun i : Nat => ⟨0, (i : Int), [], false⟩, [], [], [0, (n : Int)], 0⟩
theorem startP_len (n : Nat) : (startP n).lp.length = n := by simp [startP]

theorem crossI_next (s : Stc) (f i k : Nat) : crossI s f i (k + 1) = crossI s f i k ++ [crossP s f i k] := by unfold crossI; rw [List.range_succ, List.map_append]; rfl
theorem crossN_next (s : Stc) (f k : Nat) : crossN s f (k + 1) = crossN s f k ++ crossI s f k s.b.toNat := by unfold crossN; rw [List.range_succ, List.flatMap_append]; simp
theorem crossI_len (s : Stc) (f i k : Nat) : (crossI s f i k).length = k := by unfold crossI; rw [List.length_map, List.length_range]
theorem crossN_len (s : Stc) (f : Nat) : ∀ k, (crossN s f k).length = k * s.b.toNat
  | 0 => by simp [crossN]
  | k + 1 => by rw [crossN_next, List.length_append, crossI_len, crossN_len s f k, Nat.add_mul, Nat.one_mul]
theorem usedN_len (a n : Nat) : (usedN a n).length = n := by unfold usedN; rw [List.length_map, List.length_range]
theorem usedN_next (a n : Nat) : usedN a (n + 1) = usedN a n ++ [((a + n : Nat) : Int)] := by unfold usedN; rw [List.range_succ, List.map_append]; rfl
theorem usedN_at {a n i : Nat} (h : i < n) : (usedN a n)[i]? = some ((a + i : Nat) : Int) := by unfold usedN; rw [List.getElem?_map, List.getElem?_range h]; rfl

/-- What a valid cell is, kind by kind. -/
structure StcK (s : Stc) : Prop where
  lo : 1 ≤ s.kind
  hi : s.kind ≤ 10
  plain : s.kind = 1 ∨ s.kind = 2 ∨ s.kind = 8 → s.a = 0 ∧ s.b = 0
  over : s.kind = 2 ∨ s.kind = 9 → s.purl = false
  few : s.kind = 3 ∨ s.kind = 4 ∨ s.kind = 5 → 2 ≤ s.a ∧ s.a ≤ 4 ∧ s.b = 0
  cable : s.kind = 6 ∨ s.kind = 7 → 1 ≤ s.a ∧ s.a ≤ 6 ∧ 1 ≤ s.b ∧ s.b ≤ 6
  many : s.kind = 9 ∨ s.kind = 10 → 1 ≤ s.a ∧ s.a ≤ 200 ∧ s.b = 0
  uses : usesS s = if s.kind = 2 ∨ s.kind = 9 then 0 else if s.kind = 3 ∨ s.kind = 4 ∨ s.kind = 10 then s.a else if s.kind = 6 ∨ s.kind = 7 then s.a + s.b else 1
  makes : makesS s = if s.kind = 10 then 0 else if s.kind = 5 ∨ s.kind = 9 then s.a else if s.kind = 6 ∨ s.kind = 7 then s.a + s.b else 1
theorem stc_k {s : Stc} (h : s.ok = true) : StcK s := by
  unfold Stc.ok at h
  simp only [Bool.and_eq_true, decide_eq_true_eq] at h
  obtain ⟨⟨k1, k2⟩, ⟨a1, a2⟩, ⟨b1, b2⟩, hp⟩ := h
  obtain ⟨kind, purl, a, b⟩ := s
  simp only at k1 k2 a1 a2 b1 b2 hp
  have hu : usesS ⟨kind, purl, a, b⟩ = loopsI ⟨kind, purl, a, b⟩ (formI kind).uses := rfl
  have hm : makesS ⟨kind, purl, a, b⟩ = loopsI ⟨kind, purl, a, b⟩ (formI kind).made := rfl
  rcases (by omega : kind = 1 ∨ kind = 2 ∨ kind = 3 ∨ kind = 4 ∨ kind = 5 ∨ kind = 6 ∨ kind = 7 ∨ kind = 8 ∨ kind = 9 ∨ kind = 10) with rfl | rfl | rfl | rfl | rfl | rfl | rfl | rfl | rfl | rfl
  all_goals
    refine ⟨k1, k2, fun h => ?_, fun h => ?_, fun h => ?_, fun h => ?_, fun h => ?_, ?_, ?_⟩
  all_goals first
    | (simp at h; done)
    | (rw [hu]; rfl)
    | (rw [hm]; rfl)
    | (cases purl; rfl; exact absurd hp (by decide))
    | (simp [formI, formT] at a1 a2 b1 b2 ⊢; omega)
    | (rw [hu]; simp [formI, formT, loopsI])
    | (rw [hm]; simp [formI, formT, loopsI])
theorem StcK.nat {s : Stc} (h : StcK s) : 0 ≤ s.a ∧ s.a ≤ 200 ∧ 0 ≤ s.b ∧ s.b ≤ 6 ∧ 0 ≤ usesS s ∧ usesS s ≤ 200 ∧ 0 ≤ makesS s ∧ makesS s ≤ 200 := by
  obtain ⟨h1, h2, h3, -, h5, h6, h7, h8, h9⟩ := h
  rw [h8, h9]
  rcases (by omega : s.kind = 1 ∨ s.kind = 2 ∨ s.kind = 3 ∨ s.kind = 4 ∨ s.kind = 5 ∨ s.kind = 6 ∨ s.kind = 7 ∨ s.kind = 8 ∨ s.kind = 9 ∨ s.kind = 10) with e | e | e | e | e | e | e | e | e | e <;> rw [e] at h3 h5 h6 h7 ⊢ <;> simp at h3 h5 h6 h7 ⊢ <;> omega
theorem newsL_len {s : Stc} (h : StcK s) (row k : Int) (at_ : Nat) (lp : List Lp) : ((newsL row k s (usedN at_ (usesS s).toNat) lp).length : Int) = makesS s := by
  have hn := h.nat
  obtain ⟨h1, h2, h3, -, h5, h6, h7, h8, h9⟩ := h
  unfold newsL
  rw [h9]
  rcases (by omega : s.kind = 1 ∨ s.kind = 2 ∨ s.kind = 3 ∨ s.kind = 4 ∨ s.kind = 5 ∨ s.kind = 6 ∨ s.kind = 7 ∨ s.kind = 8 ∨ s.kind = 9 ∨ s.kind = 10) with e | e | e | e | e | e | e | e | e | e <;> rw [e] at h8 ⊢ <;> simp at h8 ⊢
  · omega
  · rw [h8, usedN_len]; omega
  · rw [h8, usedN_len]; omega
  · omega
theorem rowRun_next {row : Int} {l : List Stc} {t : Pw} {k : Nat} {s : Stc} (h : l[k]? = some s) : rowRun row l t (k + 1) = stepC row (k : Int) s (rowRun row l t k) := by
  show stepC row (k : Int) (l.getD k _) _ = _
  rw [List.getD_eq_getElem?_getD, h]; rfl
theorem rowRun_len {row : Int} {l : List Stc} (hl : ∀ s ∈ l, StcK s) (t : Pw) : ∀ k, k ≤ l.length →
    ((rowRun row l t k).next : Int) = t.next + sumU (l.take k) ∧ ((rowRun row l t k).lp.length : Int) = t.lp.length + sumM (l.take k) ∧ (rowRun row l t k).rows = t.rows
  | 0, _ => by
    refine ⟨?_, ?_, rfl⟩ <;> simp [rowRun, sumU, sumM]
  | k + 1, hk => by
    obtain ⟨h1, h2, h3⟩ := rowRun_len hl t k (by omega)
    have hx : l[k]? = some l[k] := List.getElem?_eq_getElem (by omega)
    have hc := hl _ (List.getElem_mem (show k < l.length by omega))
    have hn := hc.nat
    rw [rowRun_next hx]
    unfold stepC sumU sumM
    rw [sum_take hx, sum_take hx]
    unfold sumU at h1
    unfold sumM at h2
    refine ⟨by simp only; omega, ?_, h3⟩
    simp only
    rw [List.length_append]
    have := newsL_len hc row (k : Int) (rowRun row l t k).next (rowRun row l t k).lp
    omega
theorem sumU_le {l : List Stc} (hl : ∀ s ∈ l, StcK s) {k : Nat} {s : Stc} (h : l[k]? = some s) : sumU (l.take k) + usesS s ≤ sumU l ∧ 0 ≤ sumU (l.take k) := by
  have hk := (List.getElem?_eq_some_iff.1 h).1
  have h0 : ∀ (m : List Stc), (∀ s ∈ m, StcK s) → 0 ≤ sumU m := fun m hm => by
    unfold sumU
    induction m with
    | nil => simp
    | cons x m ih =>
      rw [List.map_cons, List.sum_cons]
      have := (hm x List.mem_cons_self).nat
      have := ih fun y hy => hm y (List.mem_cons_of_mem _ hy)
      omega
  have e : sumU l = sumU (l.take (k + 1)) + sumU (l.drop (k + 1)) := by
    unfold sumU
    rw [← List.sum_append, ← List.map_append, List.take_append_drop]
  have e2 : sumU (l.take (k + 1)) = sumU (l.take k) + usesS s := by unfold sumU; rw [sum_take h]
  have h1 := h0 (l.drop (k + 1)) fun x hx => hl x (List.mem_of_mem_drop hx)
  have h2 := h0 (l.take k) fun x hx => hl x (List.mem_of_mem_take hx)
  omega
end Go.Proofs.Ytflpikickbellaa
namespace Go.Proofs.Ytflpikickbellaa
open Go.RowKit
set_option maxRecDepth 100000

/-- What k rows of faces are worked to. -/
def workP (n : Nat) (fs : List (List Stc)) : Nat → Pw
  | 0 => startP n
  | k + 1 => endR (rowRun ((k : Int) + 1) (fs.getD k []) (workP n fs k) (fs.getD k []).length)
theorem workP_next {n : Nat} {fs : List (List Stc)} {k : Nat} {l : List Stc} (h : fs[k]? = some l) : workP n fs (k + 1) = endR (rowRun ((k : Int) + 1) l (workP n fs k) l.length) := by
  show endR (rowRun _ (fs.getD k []) _ (fs.getD k []).length) = _
  rw [List.getD_eq_getElem?_getD, h]; rfl
/-- A chart that can be worked: each row uses the loops of the row before. -/
structure WkOk (n : Nat) (fs : List (List Stc)) : Prop where
  start : n ≤ 200
  few : fs.length ≤ 12
  row : ∀ k l, fs[k]? = some l → (∀ s ∈ l, s.ok = true) ∧ l.length ≤ 200 ∧ sumU l ≤ 200 ∧ sumM l ≤ 200 ∧ ((workP n fs k).next : Int) + sumU l = (workP n fs k).lp.length
theorem cross_len {s : Stc} (h : StcK s) (f : Nat) : ((crossL s f).length : Int) ≤ 18 * usesS s := by
  unfold crossL
  by_cases e : s.kind = 6 ∨ s.kind = 7
  · rw [if_pos e, crossN_len, h.uses, if_neg (by omega), if_neg (by omega), if_pos e]
    obtain ⟨h1, h2, h3, h4⟩ := h.cable e
    have : s.a.toNat * s.b.toNat ≤ 6 * 6 := Nat.mul_le_mul (by omega) (by omega)
    omega
  · rw [if_neg e]
    have := h.nat
    simp only [List.length_nil]
    omega
theorem rowRun_bc {row : Int} {l : List Stc} (hl : ∀ s ∈ l, StcK s) (t : Pw) : ∀ k, k ≤ l.length →
    ((rowRun row l t k).bound.length : Int) ≤ t.bound.length + sumU (l.take k) ∧ ((rowRun row l t k).cross.length : Int) ≤ t.cross.length + 18 * sumU (l.take k)
  | 0, _ => by constructor <;> simp [rowRun, sumU]
  | k + 1, hk => by
    obtain ⟨h1, h2⟩ := rowRun_bc (row := row) hl t k (by omega)
    have hx : l[k]? = some l[k] := List.getElem?_eq_getElem (by omega)
    have hc := hl _ (List.getElem_mem (show k < l.length by omega))
    have hn := hc.nat
    rw [rowRun_next hx]
    unfold stepC sumU
    rw [sum_take hx]
    unfold sumU at h1 h2
    simp only [List.length_append]
    have h3 := cross_len hc (rowRun row l t k).lp.length
    have h4 : ((boundL l[k] (usedN (rowRun row l t k).next (usesS l[k]).toNat)).length : Int) ≤ usesS l[k] := by
      unfold boundL
      split
      · rw [usedN_len]; omega
      · simp only [List.length_nil]; omega
    omega
theorem sumM_nn : ∀ {l : List Stc}, (∀ s ∈ l, StcK s) → 0 ≤ sumM l
  | [], _ => by simp [sumM]
  | x :: m, hm => by
    have h1 := (hm x List.mem_cons_self).nat
    have h2 := sumM_nn (l := m) fun y hy => hm y (List.mem_cons_of_mem _ hy)
    unfold sumM at h2 ⊢
    rw [List.map_cons, List.sum_cons]
    omega
theorem sumU_nn : ∀ {l : List Stc}, (∀ s ∈ l, StcK s) → 0 ≤ sumU l
  | [], _ => by simp [sumU]
  | x :: m, hm => by
    have h1 := (hm x List.mem_cons_self).nat
    have h2 := sumU_nn (l := m) fun y hy => hm y (List.mem_cons_of_mem _ hy)
    unfold sumU at h2 ⊢
    rw [List.map_cons, List.sum_cons]
    omega
theorem sumM_nonneg {l : List Stc} (hl : ∀ s ∈ l, StcK s) (k : Nat) : 0 ≤ sumM (l.take k) := sumM_nn fun x hx => hl x (List.mem_of_mem_take hx)
theorem sumM_le {l : List Stc} (hl : ∀ s ∈ l, StcK s) (k : Nat) : sumM (l.take k) ≤ sumM l := by
  have e : sumM l = sumM (l.take k) + sumM (l.drop k) := by
    unfold sumM
    rw [← List.sum_append, ← List.map_append, List.take_append_drop]
  have := sumM_nn (l := l.drop k) fun x hx => hl x (List.mem_of_mem_drop hx)
  omega
theorem newsL_few {s : Stc} (h : StcK s) (row k : Int) (a : Nat) (lp : List Lp) : ∀ x ∈ newsL row k s (usedN a (usesS s).toNat) lp, x.par.length ≤ 200 := fun x hx => by
  have hu := h.nat
  unfold newsL at hx
  split at hx
  · rw [(List.mem_replicate.1 hx).2]; simp only; rw [usedN_len]; omega
  split at hx
  · rw [(List.mem_replicate.1 hx).2]; simp
  split at hx
  · obtain ⟨y, -, rfl⟩ := List.mem_map.1 hx; simp
  split at hx
  · cases hx
  split at hx
  · rw [List.mem_singleton.1 hx]; simp only; rw [List.length_reverse, usedN_len]; omega
  split at hx
  · rw [List.mem_singleton.1 hx]; simp only; rw [usedN_len]; omega
  · rw [List.mem_singleton.1 hx]; simp only; rw [usedN_len]; omega
theorem par_few {row : Int} {l : List Stc} (hl : ∀ s ∈ l, StcK s) (t : Pw) (ht : ∀ x ∈ t.lp, x.par.length ≤ 200) : ∀ k, k ≤ l.length → ∀ x ∈ (rowRun row l t k).lp, x.par.length ≤ 200
  | 0, _ => ht
  | k + 1, hk => fun x hx => by
    have hy : l[k]? = some l[k] := List.getElem?_eq_getElem (by omega)
    rw [rowRun_next hy] at hx
    unfold stepC at hx
    rcases List.mem_append.1 hx with h | h
    · exact par_few hl t ht k (by omega) x h
    · exact newsL_few (hl _ (List.getElem_mem (show k < l.length by omega))) _ _ _ _ x h
theorem start_few (n : Nat) : ∀ x ∈ (startP n).lp, x.par.length ≤ 200 := fun x hx => by
  unfold startP at hx
  obtain ⟨i, -, rfl⟩ := List.mem_map.1 hx
  simp
/-- What holds ahead of each row. -/
structure WkI (t : Pw) (k : Nat) : Prop where
  rl : t.rows.length = k + 2
  r0 : t.rows[k]? = some (t.next : Int)
  r1 : t.rows[k + 1]? = some (t.lp.length : Int)
  ll : t.lp.length ≤ 200 * (k + 1)
  bl : t.bound.length ≤ 200 * k
  cl : t.cross.length ≤ 3600 * k
theorem WkOk.inv {n : Nat} {fs : List (List Stc)} (h : WkOk n fs) : ∀ k, k ≤ fs.length → WkI (workP n fs k) k
  | 0, _ => by
    have := h.start
    refine ⟨rfl, rfl, ?_, ?_, Nat.le_refl _, Nat.le_refl _⟩
    · show some (n : Int) = some _
      rw [show (workP n fs 0).lp.length = n from startP_len n]
    · rw [show (workP n fs 0).lp.length = n from startP_len n]; omega
  | k + 1, hk => by
    have ih := h.inv k (by omega)
    have hx : fs[k]? = some fs[k] := List.getElem?_eq_getElem (by omega)
    obtain ⟨o1, o2, o3, o4, o5⟩ := h.row k _ hx
    have hK : ∀ s ∈ fs[k], StcK s := fun s hs => stc_k (o1 s hs)
    obtain ⟨l1, l2, l3⟩ := rowRun_len (row := (k : Int) + 1) hK (workP n fs k) fs[k].length (Nat.le_refl _)
    obtain ⟨b1, b2⟩ := rowRun_bc (row := (k : Int) + 1) hK (workP n fs k) fs[k].length (Nat.le_refl _)
    rw [List.take_length] at l1 l2 b1 b2
    rw [workP_next hx]
    obtain ⟨rl, r0, r1, ll, bl, cl⟩ := ih
    unfold endR
    refine ⟨by simp only; rw [List.length_append, l3, rl]; rfl, ?_, ?_, by simp only; omega, by simp only; omega, by simp only; omega⟩
    · simp only
      rw [List.getElem?_append_left (by rw [l3, rl]; omega), l3, r1]
      congr 1
      omega
    · simp only
      rw [List.getElem?_append_right (by rw [l3, rl]; omega), l3, rl, Nat.sub_self]
      rfl
end Go.Proofs.Ytflpikickbellaa
