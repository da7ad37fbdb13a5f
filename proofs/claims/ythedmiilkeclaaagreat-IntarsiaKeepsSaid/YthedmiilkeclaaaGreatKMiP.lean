/- Layer 34, plain: the picture the other way about has the floats the other way about. -/
import Derived.Test.YthedmiilkeclaaaGreatKRa
namespace Go.Proofs.YthedmiilkeclaaaGreat.I34

def posTo (row : List Int) (c : Int) (k : Nat) : List Nat := (List.range k).filter fun j => decide (row.getD j 0 = c)
def adj : List Nat → List (Nat × Nat)
  | [] => []
  | x :: l => match l with
    | [] => []
    | y :: _ => if x + 1 < y then (x, y) :: adj l else adj l
theorem adj_two (x y : Nat) (l : List Nat) : adj (x :: y :: l) = (if x + 1 < y then [(x, y)] else []) ++ adj (y :: l) := by
  show (if x + 1 < y then (x, y) :: adj (y :: l) else adj (y :: l)) = _
  split <;> rfl
theorem adj_snoc : ∀ (l : List Nat) (x z : Nat), adj (l ++ [x, z]) = adj (l ++ [x]) ++ if x + 1 < z then [(x, z)] else []
  | [], x, z => by
    show adj [x, z] = adj [x] ++ _
    rw [adj_two]
    show _ ++ [] = [] ++ _
    simp
  | [a], x, z => by
    show adj [a, x, z] = adj [a, x] ++ _
    rw [adj_two, adj_two, adj_two]
    show _ ++ (_ ++ []) = (_ ++ []) ++ _
    simp
  | a :: b :: l, x, z => by
    show adj (a :: b :: (l ++ [x, z])) = adj (a :: b :: (l ++ [x])) ++ _
    rw [adj_two, adj_two]
    have h := adj_snoc (b :: l) x z
    rw [List.cons_append, List.cons_append] at h
    rw [h, List.append_assoc]
theorem posTo_succ (row : List Int) (c : Int) (k : Nat) : posTo row c (k + 1) = posTo row c k ++ if row.getD k 0 = c then [k] else [] := by
  unfold posTo
  rw [List.range_succ, List.filter_append]
  congr 1
  by_cases h : row.getD k 0 = c
  · rw [if_pos h, List.filter_cons_of_pos (by simpa using h)]; rfl
  · rw [if_neg h, List.filter_cons_of_neg (by simpa using h)]; rfl
theorem floTo_pos (row : List Int) (c : Int) : ∀ k, floTo row c k = (adj (posTo row c k), (posTo row c k).getLast?)
  | 0 => rfl
  | k + 1 => by
    show floStep c (floTo row c k) k (row.getD k 0) = _
    rw [floTo_pos row c k, posTo_succ]
    unfold floStep
    by_cases h : row.getD k 0 = c
    · rw [if_pos h, if_pos h]
      rcases List.eq_nil_or_concat (posTo row c k) with e | ⟨l, x, e⟩
      · rw [e]; rfl
      · rw [e, List.concat_eq_append]
        have e2 : (l ++ [x]).getLast? = some x := by simp
        have e3 : l ++ [x] ++ [k] = l ++ [x, k] := by simp
        have e4 : (l ++ [x, k]).getLast? = some k := by simp
        rw [e3, adj_snoc, e2, e4]
        by_cases hx : x + 1 < k
        · simp [hx]
        · simp [hx]
    · rw [if_neg h, if_neg h, List.append_nil]
theorem flo_pos (row : List Int) (c : Int) : flo row c = adj (posTo row c row.length) := by unfold flo; rw [floTo_pos]
def mir (n : Nat) (f : Nat × Nat) : Nat × Nat := (n - 1 - f.2, n - 1 - f.1)
theorem adj_mirror (n : Nat) : ∀ l : List Nat, (∀ x ∈ l, x < n) → adj (l.reverse.map fun x => n - 1 - x) = ((adj l).map (mir n)).reverse
  | [], _ => rfl
  | [x], _ => rfl
  | x :: y :: l, h => by
    have hx := h x (by simp)
    have hy := h y (by simp)
    have h1 := adj_mirror n (y :: l) (fun z hz => h z (List.mem_cons_of_mem _ hz))
    have e : ((x :: y :: l).reverse.map fun x => n - 1 - x) = (l.reverse.map fun x => n - 1 - x) ++ [n - 1 - y, n - 1 - x] := by simp
    have e1 : ((y :: l).reverse.map fun x => n - 1 - x) = (l.reverse.map fun x => n - 1 - x) ++ [n - 1 - y] := by simp
    rw [e1] at h1
    rw [e, adj_snoc, h1, adj_two, List.map_append, List.reverse_append]
    congr 1
    by_cases hc : x + 1 < y
    · rw [if_pos hc, if_pos (by omega)]; rfl
    · rw [if_neg hc, if_neg (by omega)]; rfl
theorem range_mirror (n : Nat) : List.range n = (List.range n).reverse.map fun x => n - 1 - x := by
  apply List.ext_getElem (by simp)
  intro i h1 h2
  simp only [List.length_range] at h1
  simp only [List.getElem_range, List.getElem_map, List.getElem_reverse, List.length_range]
  omega
theorem posTo_mirror (row : List Int) (c : Int) : posTo row.reverse c row.length = (posTo row c row.length).reverse.map fun x => row.length - 1 - x := by
  unfold posTo
  conv => lhs; rw [range_mirror]
  rw [List.filter_map, ← List.filter_reverse]
  congr 1
  apply List.filter_congr
  intro j hj
  have hj' : j < row.length := by simpa using hj
  show decide (row.reverse.getD (row.length - 1 - j) 0 = c) = _
  rw [List.getD_eq_getElem?_getD, List.getElem?_reverse (by omega), List.getD_eq_getElem?_getD, show row.length - 1 - (row.length - 1 - j) = j by omega]
theorem flo_mirror (row : List Int) (c : Int) : flo row.reverse c = ((flo row c).map (mir row.length)).reverse := by
  rw [flo_pos, flo_pos, List.length_reverse, posTo_mirror, adj_mirror]
  intro x hx
  unfold posTo at hx
  simpa using (List.mem_filter.1 hx).1
theorem flo_mem (row : List Int) (c : Int) : ∀ f ∈ flo row c, f.1 + 1 < f.2 ∧ f.2 < row.length := by
  have H : ∀ {N : Nat} {l : List (Nat × Nat)} {a : Nat}, Row a N l → ∀ f ∈ l, f.1 + 1 < f.2 ∧ f.2 < N := by
    intro N l
    induction l with
    | nil => intro a _ f hf; cases hf
    | cons g l ih =>
      intro a hr f hf
      obtain ⟨h1, h2, h3, h4⟩ := hr
      rcases List.mem_cons.1 hf with rfl | hf
      · exact ⟨by omega, by omega⟩
      · exact ih (by assumption) f hf
  exact H (flo_row row c)
theorem lenOf_mir {n : Nat} {f : Nat × Nat} (h : f.1 + 1 < f.2 ∧ f.2 < n) : lenOf (mir n f) = lenOf f := by
  unfold lenOf mir
  show n - 1 - f.1 - (n - 1 - f.2) - 1 = f.2 - f.1 - 1
  omega
theorem rowLens_mirror (row : List Int) (c : Nat) : rowLens row.reverse c = (rowLens row c).reverse := by
  unfold rowLens
  rw [flo_mirror, List.map_reverse, List.map_map]
  congr 1
  apply List.map_congr_left
  intro f hf
  exact lenOf_mir (flo_mem row _ f hf)
def mirP (p : List (List Int)) : List (List Int) := p.map List.reverse
theorem perm_flatMap {α β : Type} (f g : α → List β) (h : ∀ x, (f x).Perm (g x)) : ∀ l : List α, (l.flatMap f).Perm (l.flatMap g)
  | [] => by simp
  | x :: l => by rw [List.flatMap_cons, List.flatMap_cons]; exact (h x).append (perm_flatMap f g h l)
theorem lens_mirror (p : List (List Int)) : (lens (mirP p)).Perm (lens p) := by
  unfold lens mirP
  rw [List.flatMap_map]
  apply perm_flatMap
  intro row
  apply perm_flatMap
  intro c
  rw [rowLens_mirror]
  exact List.reverse_perm _
theorem longest_mirror (p : List (List Int)) : longest (mirP p) = longest p := by
  unfold longest
  exact (lens_mirror p).foldl_eq' (fun x _ y _ z => by rw [Nat.max_assoc, Nat.max_comm x y, ← Nat.max_assoc]) 0
theorem sumBind_mirror (limit : Nat) (p : List (List Int)) : sumBind limit (mirP p) = sumBind limit p := by
  unfold sumBind
  exact ((lens_mirror p).map _).sum_nat
theorem chk_mirror (p : List (List Int)) : chk (mirP p) = chk p := by
  unfold chk mirP
  have e : ((p.map List.reverse).headD []).length = (p.headD []).length := by cases p <;> simp
  have e2 : (p.map List.reverse).any (rowBad (p.headD []).length) = p.any (rowBad (p.headD []).length) := by
    rw [List.any_map]
    congr 1
    funext row
    unfold rowBad
    simp
  rw [List.length_map, e, e2]
theorem getD_mirror (p : List (List Int)) (k : Nat) : (mirP p).getD k [] = (p.getD k []).reverse := by
  unfold mirP
  rw [List.getD_eq_getElem?_getD, List.getElem?_map, List.getD_eq_getElem?_getD]
  cases p[k]? <;> rfl
end Go.Proofs.YthedmiilkeclaaaGreat.I34
