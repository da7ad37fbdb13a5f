/- Layer 34, plain: the picture the other way about has the floats the other way about. Layer 34, plain: between two instructions of a pass that are not OpMiss there are at most as many needles as the limit says; floats are bound as often as told. Layer 34, plain: the program's passes, one after the other: floats within the limit, and bound as often as told. Layer 34, plain: what instructions show; the program of a picture shows the picture. -/
import Derived.Test.YthedmiilkeclaaaGreatKRa
import Derived.Test.YthedmiilkeclaaaGreatKRf
namespace Go.Proofs.YthedmiilkeclaaaGreat.I34

def posTo (row : List Int) (c : Int) (k : Nat) : List Nat := (List.range k).filter fun j => decide (row.getD j 0 = c)
def adj : List Nat → List (Nat × Nat)
  | [] => []
  | x :: l => match l with
    | [] => []
    | y :: _ => if x + 1 < y then (x, y) :: adj l else adj l
theorem adj_two (x y : Nat) (l : List Nat) : adj (x :: y :: l) = (if x + 1 < y then [(x, y)] else []) ++ adj (y :: l) := by
  show (if x + 1 < y then (x, y) :: adj (y :: l) else adj (y :: l)) = _
  split <;> rfl
theorem adj_snoc : ∀ (l : List Nat) (x z : Nat), adj (l ++ [x, z]) = adj (l ++ [x]) ++ if x + 1 < z then [(x, z)] else []
  | [], x, z => by
    show adj [x, z] = adj [x] ++ _
    rw [adj_two]
    show _ ++ [] = [] ++ _
    simp
  | [a], x, z => by
    show adj [a, x, z] = adj [a, x] ++ _
    rw [adj_two, adj_two, adj_two]
    show _ ++ (_ ++ []) = (_ ++ []) ++ _
    simp
  | a :: b :: l, x, z => by
    show adj (a :: b :: (l ++ [x, z])) = adj (a :: b :: (l ++ [x])) ++ _
    rw [adj_two, adj_two]
    have h := adj_snoc (b :: l) x z
    rw [List.cons_append, List.cons_append] at h
    rw [h, List.append_assoc]
theorem posTo_succ (row : List Int) (c : Int) (k : Nat) : posTo row c (k + 1) = posTo row c k ++ if row.getD k 0 = c then [k] else [] := by
  unfold posTo
  rw [List.range_succ, List.filter_append]
  congr 1
  by_cases h : row.getD k 0 = c
  · rw [if_pos h, List.filter_cons_of_pos (by simpa using h)]; rfl
  · rw [if_neg h, List.filter_cons_of_neg (by simpa using h)]; rfl
theorem floTo_pos (row : List Int) (c : Int) : ∀ k, floTo row c k = (adj (posTo row c k), (posTo row c k).getLast?)
  | 0 => rfl
  | k + 1 => by
    show floStep c (floTo row c k) k (row.getD k 0) = _
    rw [floTo_pos row c k, posTo_succ]
    unfold floStep
    by_cases h : row.getD k 0 = c
    · rw [if_pos h, if_pos h]
      rcases List.eq_nil_or_concat (posTo row c k) with e | ⟨l, x, e⟩
      · rw [e]; rfl
      · rw [e, List.concat_eq_append]
        have e2 : (l ++ [x]).getLast? = some x := by simp
        have e3 : l ++ [x] ++ [k] = l ++ [x, k] := by simp
        have e4 : (l ++ [x, k]).getLast? = some k := by simp
        rw [e3, adj_snoc, e2, e4]
        by_cases hx : x + 1 < k
        · simp [hx]
        · simp [hx]
    · rw [if_neg h, if_neg h, List.append_nil]
theorem flo_pos (row : List Int) (c : Int) : flo row c = adj (posTo row c row.length) := by unfold flo; rw [floTo_pos]
def mir (n : Nat) (f : Nat × Nat) : Nat × Nat := (n - 1 - f.2, n - 1 - f.1)
theorem adj_mirror (n : Nat) : ∀ l : List Nat, (∀ x ∈ l, x < n) → adj (l.reverse.map fun x => n - 1 - x) = ((adj l).map (mir n)).reverse
  | [], _ => rfl
  | [x], _ => rfl
  | x :: y :: l, h => by
    have hx := h x (by simp)
    have hy := h y (by simp)
    have h1 := adj_mirror n (y :: l) (fun z hz => h z (List.mem_cons_of_mem _ hz))
    have e : ((x :: y :: l).reverse.map fun x => n - 1 - x) = (l.reverse.map fun x => n - 1 - x) ++ [n - 1 - y, n - 1 - x] := by simp
    have e1 : ((y :: l).reverse.map fun x => n - 1 - x) = (l.reverse.map fun x => n - 1 - x) ++ [n - 1 - y] := by simp
    rw [e1] at h1
    rw [e, adj_snoc, h1, adj_two, List.map_append, List.reverse_append]
    congr 1
    by_cases hc : x + 1 < y
    · rw [if_pos hc, if_pos (by omega)]; rfl
    · rw [if_neg hc, if_neg (by omega)]; rfl
theorem range_mirror (n : Nat) : List.range n = (List.range n).reverse.map fun x => n - 1 - x := by
  apply List.ext_getElem (by simp)
  intro i h1 h2
  simp only [List.length_range] at h1
  simp only [List.getElem_range, List.getElem_map, List.getElem_reverse, List.length_range]
  omega
theorem posTo_mirror (row : List Int) (c : Int) : posTo row.reverse c row.length = (posTo row c row.length).reverse.map fun x => row.length - 1 - x := by
  unfold posTo
  conv => lhs; rw [range_mirror]
  rw [List.filter_map, ← List.filter_reverse]
  congr 1
  apply List.filter_congr
  intro j hj
  have hj' : j < row.length := by simpa using hj
  show decide (row.reverse.getD (row.length - 1 - j) 0 = c) = _
  rw [List.getD_eq_getElem?_getD, List.getElem?_reverse (by omega), List.getD_eq_getElem?_getD, show row.length - 1 - (row.length - 1 - j) = j by omega]
theorem flo_mirror (row : List Int) (c : Int) : flo row.reverse c = ((flo row c).map (mir row.length)).reverse := by
  rw [flo_pos, flo_pos, List.length_reverse, posTo_mirror, adj_mirror]
  intro x hx
  unfold posTo at hx
  simpa using (List.mem_filter.1 hx).1
theorem flo_mem (row : List Int) (c : Int) : ∀ f ∈ flo row c, f.1 + 1 < f.2 ∧ f.2 < row.length := by
  have H : ∀ {N : Nat} {l : List (Nat × Nat)} {a : Nat}, Row a N l → ∀ f ∈ l, f.1 + 1 < f.2 ∧ f.2 < N := by
    intro N l
    induction l with
    | nil => intro a _ f hf; cases hf
    | cons g l ih =>
      intro a hr f hf
      obtain ⟨h1, h2, h3, h4⟩ := hr
      rcases List.mem_cons.1 hf with rfl | hf
      · exact ⟨by omega, by omega⟩
      · exact ih (by assumption) f hf
  exact H (flo_row row c)
theorem lenOf_mir {n : Nat} {f : Nat × Nat} (h : f.1 + 1 < f.2 ∧ f.2 < n) : lenOf (mir n f) = lenOf f := by
  unfold lenOf mir
  show n - 1 - f.1 - (n - 1 - f.2) - 1 = f.2 - f.1 - 1
  omega
theorem rowLens_mirror (row : List Int) (c : Nat) : rowLens row.reverse c = (rowLens row c).reverse := by
  unfold rowLens
  rw [flo_mirror, List.map_reverse, List.map_map]
  congr 1
  apply List.map_congr_left
  intro f hf
  exact lenOf_mir (flo_mem row _ f hf)
def mirP (p : List (List Int)) : List (List Int) := p.map List.reverse
theorem perm_flatMap {α β : Type} (f g : α → List β) (h : ∀ x, (f x).Perm (g x)) : ∀ l : List α, (l.flatMap f).Perm (l.flatMap g)
  | [] => by simp
  | x :: l => by rw [List.flatMap_cons, List.flatMap_cons]; exact (h x).append (perm_flatMap f g h l)
theorem lens_mirror (p : List (List Int)) : (lens (mirP p)).Perm (lens p) := by
  unfold lens mirP
  rw [List.flatMap_map]
  apply perm_flatMap
  intro row
  apply perm_flatMap
  intro c
  rw [rowLens_mirror]
  exact List.reverse_perm _
theorem longest_mirror (p : List (List Int)) : longest (mirP p) = longest p := by
  unfold longest
  exact (lens_mirror p).foldl_eq' (fun x _ y _ z => by rw [Nat.max_assoc, Nat.max_comm x y, ← Nat.max_assoc]) 0
theorem sumBind_mirror (limit : Nat) (p : List (List Int)) : sumBind limit (mirP p) = sumBind limit p := by
  unfold sumBind
  exact ((lens_mirror p).map _).sum_nat
theorem chk_mirror (p : List (List Int)) : chk (mirP p) = chk p := by
  unfold chk mirP
  have e : ((p.map List.reverse).headD []).length = (p.headD []).length := by cases p <;> simp
  have e2 : (p.map List.reverse).any (rowBad (p.headD []).length) = p.any (rowBad (p.headD []).length) := by
    rw [List.any_map]
    congr 1
    funext row
    unfold rowBad
    simp
  rw [List.length_map, e, e2]
theorem getD_mirror (p : List (List Int)) (k : Nat) : (mirP p).getD k [] = (p.getD k []).reverse := by
  unfold mirP
  rw [List.getD_eq_getElem?_getD, List.getElem?_map, List.getD_eq_getElem?_getD]
  cases p[k]? <;> rfl
end Go.Proofs.YthedmiilkeclaaaGreat.I34
namespace Go.Proofs.YthedmiilkeclaaaGreat
open Go.RowKit
open Go.Proofs.YthedmiilkeclaaaGreat.I34
set_option maxRecDepth 100000

/-! ### what the law's loop does -/
def rsB (prev : Option Ins) (i : Ins) : Bool := match prev with
  | none => false
  | some q => decide (q.op = 1) || (decide (q.car ≠ i.car) || decide (q.right ≠ i.right))
def lastR (prev : Option Ins) (last : Int) (i : Ins) : Int := if rsB prev i then -1 else last
/-- An instruction, behind the reset. -/
def gStep (lim : Nat) (s : Nat × Int) (i : Ins) : Option (Nat × Int) :=
  if i.op = 5 then some s
  else if i.op = 4 ∧ s.2 < 0 then none
  else if 0 ≤ s.2 ∧ (lim : Int) + 1 < max (i.at_ - s.2) (s.2 - i.at_) then none
  else some (s.1 + (if i.op = 4 then 1 else 0), i.at_)
def fsStep (lim : Nat) (prev : Option Ins) (s : Nat × Int) (i : Ins) : Option (Nat × Int) :=
  if i.op = 1 then some s else gStep lim (s.1, lastR prev s.2 i) i
def fsRun (lim : Nat) : Option Ins → Nat × Int → List Ins → Option (Nat × Int)
  | _, s, [] => some s
  | prev, s, i :: l => match fsStep lim prev s i with
    | none => none
    | some t => fsRun lim (some i) t l
def gRun (lim : Nat) : Nat × Int → List Ins → Option (Nat × Int)
  | s, [] => some s
  | s, i :: l => match gStep lim s i with
    | none => none
    | some t => gRun lim t l
def lastI (prev : Option Ins) (l : List Ins) : Option Ins := match l.getLast? with
  | none => prev
  | some q => some q
theorem lastI_cons (prev : Option Ins) (i : Ins) (l : List Ins) : lastI prev (i :: l) = lastI (some i) l := by
  unfold lastI
  cases l with
  | nil => rfl
  | cons a t => rw [List.getLast?_cons_cons]; cases h : (a :: t).getLast? with
    | none => simp at h
    | some q => rfl
theorem fsRun_app (lim : Nat) : ∀ (a b : List Ins) (prev : Option Ins) (s : Nat × Int), fsRun lim prev s (a ++ b) = match fsRun lim prev s a with
    | none => none
    | some t => fsRun lim (lastI prev a) t b
  | [], b, prev, s => rfl
  | i :: a, b, prev, s => by
    rw [List.cons_append, lastI_cons]
    show (match fsStep lim prev s i with | none => none | some t => fsRun lim (some i) t (a ++ b)) = match (match fsStep lim prev s i with | none => none | some t => fsRun lim (some i) t a) with | none => none | some t => fsRun lim (lastI (some i) a) t b
    cases fsStep lim prev s i with
    | none => rfl
    | some t => exact fsRun_app lim a b (some i) t
theorem gRun_app (lim : Nat) : ∀ (a b : List Ins) (s : Nat × Int), gRun lim s (a ++ b) = match gRun lim s a with
    | none => none
    | some t => gRun lim t b
  | [], b, s => rfl
  | i :: a, b, s => by
    show (match gStep lim s i with | none => none | some t => gRun lim t (a ++ b)) = match (match gStep lim s i with | none => none | some t => gRun lim t a) with | none => none | some t => gRun lim t b
    cases gStep lim s i with
    | none => rfl
    | some t => exact gRun_app lim a b t
theorem fsRun_part {lim : Nat} {l : List Ins} {r : Nat × Int} (h : fsRun lim none (0, -1) l = some r) (n : Nat) : ∃ s, fsRun lim none (0, -1) (l.take n) = some s := by
  have e := fsRun_app lim (l.take n) (l.drop n) none (0, -1)
  rw [List.take_append_drop, h] at e
  cases hs : fsRun lim none (0, -1) (l.take n) with
  | none => rw [hs] at e; cases e
  | some s => exact ⟨s, rfl⟩
/-- The instructions of a pass are of one carrier and one direction. -/
structure OneP (c : Int) (right : Bool) (l : List Ins) : Prop where
  car : ∀ i ∈ l, i.car = c
  right : ∀ i ∈ l, i.right = right
  op : ∀ i ∈ l, i.op ≠ 1
theorem fs_g {lim : Nat} {c : Int} {right : Bool} : ∀ {l : List Ins} {q : Ins} {s : Nat × Int}, OneP c right l → q.op ≠ 1 → q.car = c → q.right = right → fsRun lim (some q) s l = gRun lim s l
  | [], _, _, _, _, _, _ => rfl
  | i :: l, q, s, h, h1, h2, h3 => by
    have hi := List.mem_cons_self (a := i) (l := l)
    have e : fsStep lim (some q) s i = gStep lim s i := by
      unfold fsStep lastR rsB
      rw [if_neg (h.op i hi)]
      simp only [h1, h2, h3, h.car i hi, h.right i hi, decide_false, ne_eq, not_true_eq_false, Bool.or_self, Bool.false_eq_true, if_false]
    show (match fsStep lim (some q) s i with | none => none | some t => fsRun lim (some i) t l) = match gStep lim s i with | none => none | some t => gRun lim t l
    rw [e]
    cases gStep lim s i with
    | none => rfl
    | some t => exact fs_g ⟨fun x hx => h.car x (List.mem_cons_of_mem _ hx), fun x hx => h.right x (List.mem_cons_of_mem _ hx), fun x hx => h.op x (List.mem_cons_of_mem _ hx)⟩ (h.op i hi) (h.car i hi) (h.right i hi)
theorem fs_pass {lim : Nat} {c : Int} {right : Bool} {l : List Ins} {prev : Option Ins} {s : Nat × Int} (h : OneP c right l) (hr : ∀ i, i.car = c → i.right = right → i.op ≠ 1 → lastR prev s.2 i = -1) (hn : l ≠ []) : fsRun lim prev s l = gRun lim (s.1, -1) l := by
  cases l with
  | nil => exact absurd rfl hn
  | cons i l =>
    have hi := List.mem_cons_self (a := i) (l := l)
    have e : fsStep lim prev s i = gStep lim (s.1, -1) i := by
      unfold fsStep
      rw [if_neg (h.op i hi), hr i (h.car i hi) (h.right i hi) (h.op i hi)]
    show (match fsStep lim prev s i with | none => none | some t => fsRun lim (some i) t l) = match gStep lim (s.1, -1) i with | none => none | some t => gRun lim t l
    rw [e]
    cases gStep lim (s.1, -1) i with
    | none => rfl
    | some t => exact fs_g ⟨fun x hx => h.car x (List.mem_cons_of_mem _ hx), fun x hx => h.right x (List.mem_cons_of_mem _ hx), fun x hx => h.op x (List.mem_cons_of_mem _ hx)⟩ (h.op i hi) (h.car i hi) (h.right i hi)

/-! ### one pass -/
section
variable (row : List Int) (c : Int) (m : Nat) (right : Bool)
def T (k : Nat) : Bool := tuckB (flo row c) m right k
def NM (k : Nat) : Bool := T row c m right k || decide (row.getD k 0 = c)
end
theorem flo_ends (row : List Int) (c : Int) : ∀ K, (∀ f ∈ (floTo row c K).1, row.getD f.1 0 = c ∧ row.getD f.2 0 = c ∧ f.1 + 1 < f.2 ∧ f.2 < K) ∧ (∀ l, (floTo row c K).2 = some l → row.getD l 0 = c ∧ l < K)
  | 0 => ⟨fun f hf => by simp [floTo] at hf, fun l h => by simp [floTo] at h⟩
  | K + 1 => by
    obtain ⟨h1, h2⟩ := flo_ends row c K
    simp only [floTo, floStep]
    by_cases e : row.getD K 0 = c
    · simp only [e, if_true]
      refine ⟨fun f hf => ?_, fun l hl => ?_⟩
      · cases hs : (floTo row c K).2 with
        | none =>
          rw [hs] at hf
          obtain ⟨a, b, d, g⟩ := h1 f hf
          exact ⟨a, b, d, by omega⟩
        | some l =>
          rw [hs] at hf
          simp only at hf
          split at hf
          · rename_i hlt
            rcases List.mem_append.1 hf with hf | hf
            · obtain ⟨a, b, d, g⟩ := h1 f hf
              exact ⟨a, b, d, by omega⟩
            · rw [List.mem_singleton.1 hf]
              exact ⟨(h2 l hs).1, e, hlt, by show K < K + 1; omega⟩
          · obtain ⟨a, b, d, g⟩ := h1 f hf
            exact ⟨a, b, d, by omega⟩
      · have hl' : K = l := by simpa using hl
        subst hl'
        exact ⟨e, by omega⟩
    · simp only [e, if_false]
      refine ⟨fun f hf => ?_, fun l hl => ?_⟩
      · obtain ⟨a, b, d, g⟩ := h1 f hf
        exact ⟨a, b, d, by omega⟩
      · obtain ⟨a, b⟩ := h2 l hl
        exact ⟨a, by omega⟩
/-- Two cells of a colour with none between them, not side by side, are a float. -/
theorem flo_has {row : List Int} {c : Int} {a b : Nat} (hab : a + 1 < b) (ha : row.getD a 0 = c) (hb : row.getD b 0 = c) (hn : ∀ k, a < k → k < b → row.getD k 0 ≠ c) : ∀ K, b < K → (a, b) ∈ (floTo row c K).1
  | 0, h => by omega
  | K + 1, h => by
    by_cases e : b = K
    · subst e
      have hl : ∀ j, j ≤ b → a < j → (floTo row c j).2 = some a := by
        intro j
        induction j with
        | zero => intro _ h; omega
        | succ j ih =>
          intro h1 h2
          simp only [floTo, floStep]
          by_cases ej : j = a
          · subst ej; rw [if_pos ha]
          · rw [if_neg (hn j (by omega) (by omega))]
            exact ih (by omega) (by omega)
      simp only [floTo, floStep]
      rw [if_pos hb, hl b (Nat.le_refl _) (by omega)]
      simp only
      rw [if_pos hab]
      exact List.mem_append.2 (Or.inr (List.mem_singleton.2 rfl))
    · have ih := flo_has hab ha hb hn K (by omega)
      simp only [floTo, floStep]
      split
      · split
        · split
          · exact List.mem_append.2 (Or.inl ih)
          · exact ih
        · exact ih
      · exact ih
theorem gap_any {row : List Int} {c : Int} {m : Nat} {right : Bool} (hm : 0 < m) {a b : Nat} (hab : a < b) (hb : b < row.length) (ha : NM row c m right a = true) (hbn : NM row c m right b = true) (hn : ∀ k, a < k → k < b → NM row c m right k = false) : b - a ≤ m := by
  apply Nat.le_of_not_lt
  intro hlt
  have nm_c : ∀ k, row.getD k 0 = c → NM row c m right k = true := fun k h => by unfold NM; rw [decide_eq_true h, Bool.or_true]
  have nm_t : ∀ k f, f ∈ flo row c → hitB m right k f = true → NM row c m right k = true := fun k f hf hh => by
    unfold NM T tuckB
    rw [List.any_eq_true.2 ⟨f, hf, hh⟩, Bool.true_or]
  have nc : ∀ k, a < k → k < b → row.getD k 0 ≠ c := fun k h1 h2 e => by have := hn k h1 h2; rw [nm_c k e] at this; cases this
  have hend := (flo_ends row c row.length).1
  have hgap := (flo_gap row c row.length).1
  -- the float that goes over what lies between
  have key : ∃ f ∈ flo row c, f.1 ≤ a ∧ b ≤ f.2 ∧ (f.1 = a ∨ hitB m right a f = true) ∧ (f.2 = b ∨ hitB m right b f = true) := by
    have ofT : ∀ k, T row c m right k = true → ∃ f ∈ flo row c, hitB m right k f = true := fun k h => List.any_eq_true.1 h
    by_cases hac : row.getD a 0 = c
    · by_cases hbc : row.getD b 0 = c
      · exact ⟨(a, b), flo_has (by omega) hac hbc nc _ hb, Nat.le_refl _, Nat.le_refl _, Or.inl rfl, Or.inl rfl⟩
      · have hT : T row c m right b = true := by
          unfold NM at hbn
          rw [decide_eq_false hbc, Bool.or_false] at hbn; exact hbn
        obtain ⟨f, hf, hh⟩ := ofT b hT
        obtain ⟨-, -, h3, h4⟩ := hitB_pos hh
        obtain ⟨e1, e2, -, -⟩ := hend f hf
        have h5 : f.1 ≤ a := by
          apply Nat.le_of_not_lt
          intro h
          exact nc f.1 h (by omega) e1
        have h6 : f.1 = a := by
          apply Nat.le_antisymm h5
          apply Nat.le_of_not_lt
          intro h
          exact (hgap f hf).2 a h (by omega) hac
        exact ⟨f, hf, h5, by omega, Or.inl h6, Or.inr hh⟩
    · have hT : T row c m right a = true := by
        unfold NM at ha
        rw [decide_eq_false hac, Bool.or_false] at ha; exact ha
      obtain ⟨f, hf, hh⟩ := ofT a hT
      obtain ⟨-, -, h3, h4⟩ := hitB_pos hh
      obtain ⟨e1, e2, -, -⟩ := hend f hf
      have h5 : b ≤ f.2 := by
        apply Nat.le_of_not_lt
        intro h
        exact nc f.2 h4 h e2
      by_cases h6 : f.2 = b
      · exact ⟨f, hf, by omega, h5, Or.inr hh, Or.inl h6⟩
      · have hbc : row.getD b 0 ≠ c := (hgap f hf).2 b (by omega) (by omega)
        have hT2 : T row c m right b = true := by
          unfold NM at hbn
          rw [decide_eq_false hbc, Bool.or_false] at hbn; exact hbn
        obtain ⟨g, hg, hh2⟩ := ofT b hT2
        obtain ⟨-, -, g3, g4⟩ := hitB_pos hh2
        obtain ⟨d1, d2, -, -⟩ := hend g hg
        have e3 : g.1 = f.1 := by
          rcases Nat.lt_trichotomy g.1 f.1 with h | h | h
          · exact absurd e1 ((hgap g hg).2 f.1 h (by omega))
          · exact h
          · exact absurd d1 ((hgap f hf).2 g.1 h (by omega))
        have e4 : g.2 = f.2 := by
          rcases Nat.lt_trichotomy g.2 f.2 with h | h | h
          · exact absurd d2 ((hgap f hf).2 g.2 (by omega) h)
          · exact h
          · exact absurd e2 ((hgap g hg).2 f.2 (by omega) h)
        have e5 : g = f := Prod.ext e3 e4
        rw [e5] at hh2
        exact ⟨f, hf, by omega, h5, Or.inr hh, Or.inr hh2⟩
  obtain ⟨f, hf, hfa, hfb, h1, h2⟩ := key
  have big : ∀ k, a < k → k < b → hitB m right k f = true → False := fun k g1 g2 hh => by
    have := hn k g1 g2
    rw [nm_t k f hf hh] at this; cases this
  cases right with
  | true =>
    refine big (a + m) (by omega) (by omega) ?_
    have hd : (a + m - f.1) % m = 0 := by
      rcases h1 with h1 | h1
      · rw [h1, Nat.add_sub_cancel_left, Nat.mod_self]
      · obtain ⟨-, h3, h4, -⟩ := hitB_pos h1
        unfold distF at h3
        rw [if_pos rfl] at h3
        rw [show a + m - f.1 = (a - f.1) + m by omega, Nat.add_mod_right]; exact h3
    unfold hitB distF
    rw [decide_eq_true (show f.1 < a + m by omega), decide_eq_true (show a + m < f.2 by omega), if_pos rfl, decide_eq_true hd]; rfl
  | false =>
    refine big (b - m) (by omega) (by omega) ?_
    have hd : (f.2 - (b - m)) % m = 0 := by
      rcases h2 with h2 | h2
      · rw [h2, show b - (b - m) = m by omega, Nat.mod_self]
      · obtain ⟨-, h3, -, h4⟩ := hitB_pos h2
        unfold distF at h3
        rw [if_neg (by decide)] at h3
        rw [show f.2 - (b - m) = (f.2 - b) + m by omega, Nat.add_mod_right]; exact h3
    unfold hitB distF
    rw [decide_eq_true (show f.1 < b - m by omega), decide_eq_true (show b - m < f.2 by omega), if_neg (by decide), decide_eq_true hd]; rfl
/-- The index of the last one that is not missed, in the order of the pass. -/
def lastJ (N : Nat → Bool) : Nat → Option Nat
  | 0 => none
  | K + 1 => if N K then some K else lastJ N K
theorem lastJ_some {N : Nat → Bool} : ∀ {K j : Nat}, lastJ N K = some j → j < K ∧ N j = true ∧ ∀ i, j < i → i < K → N i = false
  | 0, j, h => by cases h
  | K + 1, j, h => by
    unfold lastJ at h
    split at h
    · rename_i hN
      cases h
      exact ⟨by omega, hN, fun i h1 h2 => by omega⟩
    · rename_i hN
      obtain ⟨h1, h2, h3⟩ := lastJ_some h
      refine ⟨by omega, h2, fun i h4 h5 => ?_⟩
      by_cases e : i = K
      · subst e; simpa using hN
      · exact h3 i h4 (by omega)
theorem lastJ_none {N : Nat → Bool} : ∀ {K : Nat}, lastJ N K = none → ∀ i, i < K → N i = false
  | 0, _, i, h => by omega
  | K + 1, h, i, hi => by
    unfold lastJ at h
    split at h
    · cases h
    · rename_i hN
      by_cases e : i = K
      · subst e; simpa using hN
      · exact lastJ_none h i (by omega)
def lastP (pos : Nat → Nat) : Option Nat → Int
  | none => -1
  | some j => (pos j : Int)
theorem gRun_pass {row : List Int} {c : Int} {m lim : Nat} {right : Bool} (hm : m = lim + 1) (pos : Nat → Nat) (n : Nat)
    (hgap : ∀ j K, j < K → K < n → NM row c m right (pos j) = true → NM row c m right (pos K) = true → (∀ i, j < i → i < K → NM row c m right (pos i) = false) → pos K ≤ pos j + m ∧ pos j ≤ pos K + m)
    (htk : ∀ K, K < n → T row c m right (pos K) = true → ∃ j, j < K ∧ NM row c m right (pos j) = true) (t0 : Nat) :
    ∀ K, K ≤ n → gRun lim (t0, -1) ((List.range K).map fun j => insQ row c right (T row c m right) (pos j)) = some (t0 + cnt K (fun j => T row c m right (pos j)), lastP pos (lastJ (fun j => NM row c m right (pos j)) K))
  | 0, _ => rfl
  | K + 1, hK => by
    have ih := gRun_pass hm pos n hgap htk t0 K (by omega)
    rw [List.range_succ, List.map_append, gRun_app, ih]
    simp only [List.map_cons, List.map_nil]
    have hst : ∀ (s : Nat × Int) (i : Ins), gRun lim s [i] = gStep lim s i := fun s i => by
      show (match gStep lim s i with | none => none | some t => some t) = _
      cases gStep lim s i <;> rfl
    rw [hst, cnt_succ]
    have hop : (insQ row c right (T row c m right) (pos K)).op = if T row c m right (pos K) then 4 else if row.getD (pos K) 0 = c then 3 else 5 := rfl
    have hat : (insQ row c right (T row c m right) (pos K)).at_ = (pos K : Int) := rfl
    have hlj : lastJ (fun j => NM row c m right (pos j)) (K + 1) = if NM row c m right (pos K) then some K else lastJ (fun j => NM row c m right (pos j)) K := rfl
    have hfar : NM row c m right (pos K) = true → ¬ (0 ≤ lastP pos (lastJ (fun j => NM row c m right (pos j)) K) ∧ (lim : Int) + 1 < max ((pos K : Int) - lastP pos (lastJ (fun j => NM row c m right (pos j)) K)) (lastP pos (lastJ (fun j => NM row c m right (pos j)) K) - (pos K : Int))) := fun hnm => by
      cases hl : lastJ (fun j => NM row c m right (pos j)) K with
      | none => intro h; exact absurd h.1 (by show ¬ ((0 : Int) ≤ -1); omega)
      | some j =>
        obtain ⟨h1, h2, h3⟩ := lastJ_some hl
        have := hgap j K h1 (by omega) h2 hnm h3
        intro h
        have h' : (0 : Int) ≤ (pos j : Int) ∧ (lim : Int) + 1 < max ((pos K : Int) - (pos j : Int)) ((pos j : Int) - (pos K : Int)) := h
        omega
    unfold gStep
    rw [hop, hat, hlj]
    by_cases hT : T row c m right (pos K) = true
    · have hnm : NM row c m right (pos K) = true := by unfold NM; rw [hT]; rfl
      obtain ⟨j, hj, hj2⟩ := htk K (by omega) hT
      have hpos : ¬ lastP pos (lastJ (fun j => NM row c m right (pos j)) K) < 0 := by
        cases hl : lastJ (fun j => NM row c m right (pos j)) K with
        | none => have h9 : NM row c m right (pos j) = false := lastJ_none hl j hj; rw [hj2] at h9; cases h9
        | some i => show ¬ ((pos i : Int) < 0); omega
      rw [if_pos hT, if_neg (by decide), if_neg (fun h => hpos h.2), if_neg (hfar hnm), if_pos rfl, if_pos hT, if_pos hnm]
      rfl
    · have hT' : T row c m right (pos K) = false := by simpa using hT
      rw [if_neg hT, if_neg hT]
      by_cases hc : row.getD (pos K) 0 = c
      · have hnm : NM row c m right (pos K) = true := by unfold NM; rw [decide_eq_true hc, Bool.or_true]
        rw [if_pos hc, if_neg (by decide), if_neg (fun h => absurd h.1 (by decide)), if_neg (hfar hnm), if_neg (by decide), if_pos hnm]
        rfl
      · have hnm : ¬ NM row c m right (pos K) = true := by unfold NM; rw [hT', decide_eq_false hc]; decide
        rw [if_neg hc, if_pos rfl, if_neg hnm]
        rfl
end Go.Proofs.YthedmiilkeclaaaGreat
namespace Go.Proofs.YthedmiilkeclaaaGreat
open Go.RowKit
open Go.Proofs.YthedmiilkeclaaaGreat.I34
set_option maxRecDepth 100000

theorem cnt_rev (n : Nat) (P : Nat → Bool) : cnt n (fun k => P (n - 1 - k)) = cnt n P := by
  have h1 : ∀ Q : Nat → Bool, cnt n Q = (List.range n).countP Q := fun Q => by unfold cnt; rw [List.countP_eq_length_filter]
  rw [h1, h1]
  conv => rhs; rw [range_mirror n]
  rw [List.countP_map, List.countP_reverse]
  rfl
theorem cnt_or {P Q : Nat → Bool} : ∀ N, (∀ k, k < N → P k = true → Q k = true → False) → cnt N (fun k => P k || Q k) = cnt N P + cnt N Q
  | 0, _ => rfl
  | N + 1, h => by
    rw [cnt_succ, cnt_succ, cnt_succ, cnt_or N (fun k hk => h k (by omega))]
    cases hp : P N with
    | true =>
      cases hq : Q N with
      | true => exact absurd (h N (by omega) hp hq) id
      | false => simp; omega
    | false => cases hq : Q N <;> simp <;> omega
theorem cnt_hitR (m : Nat) (hm : 0 < m) (f : Nat × Nat) (N : Nat) (hN : f.2 ≤ N) : cnt N (fun k => hitB m true k f) = lenOf f / m := by
  rw [cnt_stop _ f.2 N hN (fun k h1 h2 => by unfold hitB; rw [decide_eq_false (show ¬ k < f.2 by omega)]; simp)]
  rw [cnt_congr (Q := fun k => decide (f.1 < k) && decide ((k - f.1) % m = 0)) (fun k hk => by
    unfold hitB distF
    rw [decide_eq_true hk, if_pos rfl, Bool.and_true])]
  rw [cnt_upto m f.1 hm]
  rfl
theorem cnt_hitL (m : Nat) (hm : 0 < m) (f : Nat × Nat) (N : Nat) (hN : f.2 ≤ N) : cnt N (fun k => hitB m false k f) = lenOf f / m := by
  have hz : ∀ k, f.2 ≤ k → hitB m false k f = false := fun k h1 => by unfold hitB; rw [decide_eq_false (show ¬ k < f.2 by omega)]; simp
  rw [cnt_stop _ f.2 N hN (fun k h1 _ => hz k h1), ← cnt_stop _ f.2 (f.1 + f.2 + 1) (by omega) (fun k h1 _ => hz k h1), ← cnt_rev]
  rw [cnt_congr (Q := fun k => hitB m true k f) (fun k hk => ?_)]
  · exact cnt_hitR m hm f _ (by omega)
  · show hitB m false (f.1 + f.2 + 1 - 1 - k) f = hitB m true k f
    unfold hitB distF
    rw [if_neg (by decide), if_pos rfl]
    have e1 : decide (f.1 < f.1 + f.2 + 1 - 1 - k) = decide (k < f.2) := by rw [decide_eq_decide]; omega
    have e2 : decide (f.1 + f.2 + 1 - 1 - k < f.2) = decide (f.1 < k) := by rw [decide_eq_decide]; omega
    rw [e1, e2]
    by_cases h : f.1 < k ∧ k < f.2
    · rw [show f.2 - (f.1 + f.2 + 1 - 1 - k) = k - f.1 by omega, Bool.and_comm (decide (k < f.2))]
    · by_cases h1 : f.1 < k
      · rw [decide_eq_false (show ¬ k < f.2 from fun h2 => h ⟨h1, h2⟩)]; simp
      · rw [decide_eq_false h1]; simp
theorem cnt_hit (m : Nat) (hm : 0 < m) (right : Bool) (f : Nat × Nat) (N : Nat) (hN : f.2 ≤ N) : cnt N (fun k => hitB m right k f) = lenOf f / m := by
  cases right with
  | true => exact cnt_hitR m hm f N hN
  | false => exact cnt_hitL m hm f N hN
theorem Row.ge {N : Nat} : ∀ {l : List (Nat × Nat)} {a : Nat}, Row a N l → ∀ g ∈ l, a ≤ g.1
  | [], _, _, g, hg => absurd hg List.not_mem_nil
  | f :: l, a, ⟨h1, h2, _, h4⟩, g, hg => by
    rcases List.mem_cons.1 hg with rfl | hg
    · exact h1
    · have := Row.ge h4 g hg; omega
theorem cnt_tuck (m N : Nat) (hm : 0 < m) (right : Bool) : ∀ (l : List (Nat × Nat)) (a : Nat), Row a N l → cnt N (tuckB l m right) = (l.map fun f => lenOf f / m).sum
  | [], _, _ => by
    have h : cnt N (tuckB [] m right) = 0 := cnt_false (fun _ _ => rfl)
    rw [h]; rfl
  | f :: l, a, ⟨h1, h2, h3, h4⟩ => by
    have ih := cnt_tuck m N hm right l f.2 h4
    have e : tuckB (f :: l) m right = fun k => hitB m right k f || tuckB l m right k := by funext k; unfold tuckB; rw [List.any_cons]
    rw [e, cnt_or N (fun k hk hp hq => ?_), ih, cnt_hit m hm right f N (by omega)]
    · rw [List.map_cons, List.sum_cons]
    · obtain ⟨-, -, -, g4⟩ := hitB_pos hp
      obtain ⟨g, hg, hh⟩ := List.any_eq_true.1 hq
      obtain ⟨-, -, g5, -⟩ := hitB_pos hh
      have := Row.ge h4 g hg
      omega
def passTot (lim : Nat) (row : List Int) (c : Int) : Nat := ((flo row c).map fun f => lenOf f / (lim + 1)).sum
theorem insQ_rev {row : List Int} {c : Int} {right : Bool} {Q : Nat → Bool} : (passQ row c right Q).reverse = (List.range row.length).map fun j => insQ row c right Q (row.length - 1 - j) := by
  unfold passQ
  apply List.ext_getElem (by simp)
  intro i h1 h2
  simp only [List.length_reverse, List.length_map, List.length_range] at h1
  simp only [List.getElem_reverse, List.getElem_map, List.getElem_range, List.length_map, List.length_range]
theorem pass_run (row : List Int) (c : Int) (lim : Nat) (right : Bool) (t0 : Nat) : ∃ x, gRun lim (t0, -1) (passI row c lim right) = some (t0 + passTot lim row c, x) := by
  have hcount : cnt row.length (T row c (lim + 1) right) = passTot lim row c := cnt_tuck (lim + 1) row.length (by omega) right (flo row c) 0 (flo_row row c)
  have hT : ∀ k, T row c (lim + 1) right k = true → ∃ f ∈ flo row c, hitB (lim + 1) right k f = true := fun k h => List.any_eq_true.1 h
  have hnm : ∀ k, row.getD k 0 = c → NM row c (lim + 1) right k = true := fun k h => by unfold NM; rw [decide_eq_true h, Bool.or_true]
  have hend := (flo_ends row c row.length).1
  cases right with
  | true =>
    have h := gRun_pass (row := row) (c := c) (m := lim + 1) (lim := lim) (right := true) rfl (fun j => j) row.length
      (fun j K h1 h2 h3 h4 h5 => by have := gap_any (by omega) h1 h2 h3 h4 h5; omega)
      (fun K hK ht => by
        obtain ⟨f, hf, hh⟩ := hT K ht
        obtain ⟨-, -, g3, -⟩ := hitB_pos hh
        exact ⟨f.1, g3, hnm _ (hend f hf).1⟩) t0 row.length (Nat.le_refl _)
    rw [hcount] at h
    exact ⟨_, h⟩
  | false =>
    have h := gRun_pass (row := row) (c := c) (m := lim + 1) (lim := lim) (right := false) rfl (fun j => row.length - 1 - j) row.length
      (fun j K h1 h2 h3 h4 h5 => by
        have := gap_any (row := row) (c := c) (m := lim + 1) (right := false) (by omega) (a := row.length - 1 - K) (b := row.length - 1 - j) (by omega) (by omega) h4 h3 (fun k g1 g2 => by
          have := h5 (row.length - 1 - k) (by omega) (by omega)
          rw [show row.length - 1 - (row.length - 1 - k) = k by omega] at this
          exact this)
        omega)
      (fun K hK ht => by
        obtain ⟨f, hf, hh⟩ := hT _ ht
        obtain ⟨-, -, -, g4⟩ := hitB_pos hh
        obtain ⟨-, e2, -, e4⟩ := hend f hf
        refine ⟨row.length - 1 - f.2, by omega, ?_⟩
        rw [show row.length - 1 - (row.length - 1 - f.2) = f.2 by omega]
        exact hnm _ e2) t0 row.length (Nat.le_refl _)
    rw [cnt_rev row.length (T row c (lim + 1) false), hcount] at h
    have e : passI row c lim false = (List.range row.length).map fun j => insQ row c false (T row c (lim + 1) false) (row.length - 1 - j) := by
      show (passQ row c false (tuckB (flo row c) (lim + 1) false)).reverse = _
      rw [insQ_rev]
      rfl
    rw [e]
    exact ⟨_, h⟩
theorem pass_one (row : List Int) (c : Int) (lim : Nat) (right : Bool) : OneP c right (passI row c lim right) := by
  refine ⟨fun i hi => ?_, fun i hi => ?_, fun i hi => ?_⟩ <;> obtain ⟨k, -, rfl⟩ := passI_mem hi
  · rfl
  · rfl
  · intro h
    have := opQ_vals row c (tuckB (flo row c) (lim + 1) right) k
    have e : opQ row c (tuckB (flo row c) (lim + 1) right) k = 1 := h
    omega
theorem passI_ne {row : List Int} (h : 0 < row.length) (c : Int) (lim : Nat) (right : Bool) : passI row c lim right ≠ [] := fun e => by
  have := passI_len row c lim right
  rw [e] at this
  simp at this; omega
/-- What the last instruction tells. -/
structure Rdy (p : List (List Int)) (t j : Nat) (prev : Option Ins) (l : Int) : Prop where
  fit : ∀ c', (colsOf (p.getD t []))[j]? = some c' → ∀ i : Ins, i.car = c' → i.right = !oddB (p.take t) c' → i.op ≠ 1 → lastR prev l i = -1
  info : 0 < j → ∃ q c, prev = some q ∧ (colsOf (p.getD t []))[j - 1]? = some c ∧ q.car = c ∧ q.right = !oddB (p.take t) c
theorem lastR_ne {q i : Ins} (l : Int) (h : q.op = 1 ∨ q.car ≠ i.car ∨ q.right ≠ i.right) : lastR (some q) l i = -1 := by
  unfold lastR
  rw [if_pos]
  show (decide (q.op = 1) || (decide (q.car ≠ i.car) || decide (q.right ≠ i.right))) = true
  rcases h with h | h | h
  · rw [decide_eq_true h]; rfl
  · rw [decide_eq_true h]; simp
  · rw [decide_eq_true h]; simp
theorem lastI_mem {prev : Option Ins} {l : List Ins} (h : l ≠ []) : ∃ q ∈ l, lastI prev l = some q := by
  unfold lastI
  cases hl : l.getLast? with
  | none => exact absurd (List.getLast?_eq_none_iff.1 hl) h
  | some q => exact ⟨q, List.mem_of_getLast? hl, rfl⟩
theorem lastI_app {a b : List Ins} {prev : Option Ins} (h : b ≠ []) : lastI prev (a ++ b) = lastI (lastI prev a) b := by
  unfold lastI
  rw [List.getLast?_append]
  cases hb : b.getLast? with
  | none => exact absurd (List.getLast?_eq_none_iff.1 hb) h
  | some q => rfl
theorem fsRun_ins {lim : Nat} : ∀ {l : List Ins} {prev : Option Ins} {s : Nat × Int}, (∀ i ∈ l, i.op = 1) → fsRun lim prev s l = some s
  | [], _, _, _ => rfl
  | i :: l, prev, s, h => by
    have e : fsStep lim prev s i = some s := by unfold fsStep; rw [if_pos (h i List.mem_cons_self)]
    show (match fsStep lim prev s i with | none => none | some t => fsRun lim (some i) t l) = _
    rw [e]
    exact fsRun_ins fun x hx => h x (List.mem_cons_of_mem _ hx)
theorem insK_op {p : List (List Int)} {k : Nat} {i : Ins} (h : i ∈ insK p k) : i.op = 1 := by
  unfold insK at h
  obtain ⟨c, -, rfl⟩ := List.mem_map.1 h
  rfl
theorem odd_next {p : List (List Int)} {t : Nat} {row : List Int} (hr : p[t]? = some row) {c : Int} (hc : c ∈ row) : oddB (p.take (t + 1)) c = !oddB (p.take t) c := by
  unfold oddB
  rw [List.take_add_one, hr]
  simp only [Option.toList_some, List.countP_append, List.countP_cons, List.countP_nil]
  have : row.contains c = true := by simpa using hc
  rw [this]
  simp only [if_true]
  rw [Bool.eq_iff_iff]
  simp only [decide_eq_true_eq, Bool.not_eq_true', decide_eq_false_iff_not]
  omega
def rowTot (lim : Nat) (row : List Int) : Nat := ((colsOf row).map (passTot lim row)).sum
def totTo (p : List (List Int)) (lim t j : Nat) : Nat := ((p.take t).map (rowTot lim)).sum + (((colsOf (p.getD t [])).take j).map (passTot lim (p.getD t []))).sum
theorem prog_step {p : List (List Int)} {lim t j : Nat} {row : List Int} {c : Int} (hr : p[t]? = some row) (hn : 0 < row.length) (hc : (colsOf row)[j]? = some c) (h : ∃ l, fsRun lim none (0, -1) (progTo p lim t j) = some (totTo p lim t j, l) ∧ Rdy p t j (lastI none (progTo p lim t j)) l) :
    ∃ l, fsRun lim none (0, -1) (progTo p lim t (j + 1)) = some (totTo p lim t (j + 1), l) ∧ Rdy p t (j + 1) (lastI none (progTo p lim t (j + 1))) l := by
  obtain ⟨l, h1, h2⟩ := h
  have e : p.getD t [] = row := by rw [List.getD_eq_getElem?_getD, hr]; rfl
  have hc' : (colsOf (p.getD t []))[j]? = some c := by rw [e]; exact hc
  have hpn := progTo_next (p := p) (lim := lim) hc'
  rw [e] at hpn
  obtain ⟨x, hx⟩ := pass_run row c lim (!oddB (p.take t) c) (totTo p lim t j)
  have hne := passI_ne hn c lim (!oddB (p.take t) c)
  have hone := pass_one row c lim (!oddB (p.take t) c)
  have htot : totTo p lim t (j + 1) = totTo p lim t j + passTot lim row c := by
    unfold totTo
    rw [List.take_add_one, hc', e]
    simp only [Option.toList_some, List.map_append, List.map_cons, List.map_nil, List.sum_append, List.sum_cons, List.sum_nil]
    omega
  refine ⟨x, ?_, ?_⟩
  · rw [hpn, fsRun_app, h1]
    simp only
    rw [fs_pass hone (fun i g1 g2 g3 => h2.fit c hc' i g1 g2 g3) hne, htot]
    exact hx
  · rw [hpn, lastI_app hne]
    obtain ⟨q, hq, hq2⟩ := lastI_mem (prev := lastI none (progTo p lim t j)) hne
    rw [hq2]
    have hqc := hone.car q hq
    have hqr := hone.right q hq
    refine ⟨fun c' hcc i g1 g2 _ => lastR_ne _ (Or.inr (Or.inl fun he => ?_)), fun _ => ⟨q, c, rfl, by rw [Nat.add_sub_cancel]; exact hc', hqc, hqr⟩⟩
    rw [hqc, g1] at he
    rw [e] at hcc
    obtain ⟨a1, a2⟩ := List.getElem?_eq_some_iff.1 hc
    obtain ⟨b1, b2⟩ := List.getElem?_eq_some_iff.1 hcc
    have := List.pairwise_iff_getElem.1 (colsOf_lt row) j (j + 1) a1 b1 (by omega)
    omega
theorem prog_row {p : List (List Int)} {lim t : Nat} {row : List Int} (hr : p[t]? = some row) (hn : 0 < row.length) (h : ∃ l, fsRun lim none (0, -1) (progTo p lim t 0) = some (totTo p lim t 0, l) ∧ Rdy p t 0 (lastI none (progTo p lim t 0)) l) :
    ∀ j, j ≤ (colsOf row).length → ∃ l, fsRun lim none (0, -1) (progTo p lim t j) = some (totTo p lim t j, l) ∧ Rdy p t j (lastI none (progTo p lim t j)) l
  | 0, _ => h
  | j + 1, hj => prog_step hr hn (List.getElem?_eq_getElem (by omega)) (prog_row hr hn h j (by omega))
theorem prog_all {p : List (List Int)} {lim : Nat} (hv : chk p = 0) : ∀ t, t ≤ p.length → ∃ l, fsRun lim none (0, -1) (progTo p lim t 0) = some (totTo p lim t 0, l) ∧ Rdy p t 0 (lastI none (progTo p lim t 0)) l
  | 0, _ => by
    refine ⟨-1, ?_, ?_, fun h => absurd h (by omega)⟩
    · rw [progTo_zero, fsRun_ins fun i hi => insK_op hi]
      simp [totTo]
    · intro c' _ i _ _ _
      rw [progTo_zero]
      unfold lastI
      cases hl : (insK p 6).getLast? with
      | none => rfl
      | some q => exact lastR_ne _ (Or.inl (insK_op (List.mem_of_getLast? hl)))
  | t + 1, ht => by
    have hr : p[t]? = some p[t] := List.getElem?_eq_getElem (by omega)
    obtain ⟨row, hrow⟩ : ∃ row, row = p[t] := ⟨_, rfl⟩
    rw [← hrow] at hr
    have hmem := List.mem_of_getElem? hr
    have hn := ((chk_zero hv).2 row hmem).1
    have e : p.getD t [] = row := by rw [List.getD_eq_getElem?_getD, hr]; rfl
    obtain ⟨l, h1, h2⟩ := prog_row hr hn (prog_all hv t (by omega)) (colsOf row).length (Nat.le_refl _)
    have hpr := progTo_row p lim t
    rw [e] at hpr
    have htot : totTo p lim (t + 1) 0 = totTo p lim t (colsOf row).length := by
      unfold totTo
      rw [List.take_add_one, hr, e, List.take_length]
      simp only [Option.toList_some, List.map_append, List.map_cons, List.map_nil, List.sum_append, List.sum_cons, List.sum_nil, List.take_zero]
      unfold rowTot
      omega
    rw [hpr] at h1 h2
    refine ⟨l, by rw [htot]; exact h1, ?_, fun h => absurd h (by omega)⟩
    have hpos : 0 < (colsOf row).length := by
      apply List.length_pos_iff.2
      intro he
      have hx : row[0] ∈ colsOf row := colsOf_mem.2 ⟨chk_cells hv row hmem _ (List.getElem_mem hn), List.getElem_mem hn⟩
      rw [he] at hx
      exact absurd hx List.not_mem_nil
    obtain ⟨q, c, hq, hc, g1, g2⟩ := h2.info hpos
    rw [e] at hc
    have hcr := (colsOf_mem.1 (List.mem_of_getElem? hc)).2
    intro c' _ i i1 i2 _
    rw [hq]
    refine lastR_ne _ (Or.inr ?_)
    by_cases ec : c' = c
    · right
      rw [g2, i2, ec, odd_next hr hcr]
      cases oddB (p.take t) c <;> simp
    · left
      rw [g1, i1]
      exact fun h => ec h.symm
theorem sum_filter_zero {α : Type} (P : α → Bool) (f : α → Nat) : ∀ l : List α, (∀ x ∈ l, P x = false → f x = 0) → ((l.filter P).map f).sum = (l.map f).sum
  | [], _ => rfl
  | x :: l, h => by
    have ih := sum_filter_zero P f l fun y hy => h y (List.mem_cons_of_mem _ hy)
    cases hp : P x with
    | true => rw [List.filter_cons_of_pos hp, List.map_cons, List.map_cons, List.sum_cons, List.sum_cons, ih]
    | false => rw [List.filter_cons_of_neg (by rw [hp]; decide), List.map_cons, List.sum_cons, h x List.mem_cons_self hp, ih]; omega
theorem flo_absent {row : List Int} {c : Int} (h : c ∉ row) : flo row c = [] := by
  cases hl : flo row c with
  | nil => rfl
  | cons f l =>
    obtain ⟨e1, -, e3, e4⟩ := (flo_ends row c row.length).1 f (by show f ∈ flo row c; rw [hl]; exact List.mem_cons_self)
    rw [List.getD_eq_getElem?_getD, List.getElem?_eq_getElem (by omega)] at e1
    exact absurd (by rw [← e1]; exact List.getElem_mem _) h
theorem rowTot_eq (lim : Nat) (row : List Int) : rowTot lim row = ((List.range 6).map fun c => ((rowLens row c).map (· / (lim + 1))).sum).sum := by
  unfold rowTot
  have e : colsOf row = sixC.filter (row.contains ·) := rfl
  rw [e, sum_filter_zero _ _ _ (fun c _ hc => by
    have : c ∉ row := by simpa using hc
    unfold passTot
    rw [flo_absent this]; rfl)]
  have e2 : sixC = (List.range 6).map (fun c : Nat => (c : Int) + 1) := rfl
  rw [e2, List.map_map]
  congr 1
  apply List.map_congr_left
  intro c _
  show passTot lim row ((c : Int) + 1) = _
  unfold passTot rowLens
  rw [List.map_map]
  rfl
/-- The law's loop runs through. -/
theorem prog_scan {p : List (List Int)} {lim : Nat} (hv : chk p = 0) : ∃ l, fsRun lim none (0, -1) (progI p lim) = some (sumBind lim p, l) := by
  obtain ⟨l, h, -⟩ := prog_all (lim := lim) hv p.length (Nat.le_refl _)
  rw [progTo_all] at h
  refine ⟨l, ?_⟩
  rw [h]
  congr 2
  unfold totTo sumBind lens
  rw [List.take_length, List.take_zero, List.map_nil, List.sum_nil, Nat.add_zero, sum_flatMap]
  congr 1
  apply List.map_congr_left
  intro row _
  rw [rowTot_eq, sum_flatMap]
end Go.Proofs.YthedmiilkeclaaaGreat
namespace Go.Proofs.YthedmiilkeclaaaGreat
open Go.RowKit
open Go.Proofs.YthedmiilkeclaaaGreat.I34
set_option maxRecDepth 100000

/-- Is it a loop of the front that is shown? -/
def shB (w : Nat) (i : Ins) : Bool := decide (i.op = 3) && (decide (i.bed = 0) && (decide (0 ≤ i.at_) && decide (i.at_ < (w : Int))))
/-- The counts of the needles, and the rows. -/
abbrev ShS := List Int × List (List Int)
def shIn (w : Nat) (s : ShS) (i : Ins) : ShS :=
  let row := s.1.getD i.at_.toNat 0
  let R := if row = (s.2.length : Int) then s.2 ++ [List.replicate w 0] else s.2
  (s.1.set i.at_.toNat (row + 1), R.set row.toNat ((R.getD row.toNat []).set i.at_.toNat i.car))
def shStep (w : Nat) (s : ShS) (i : Ins) : ShS := if shB w i then shIn w s i else s
def shRun (w : Nat) (s : ShS) (l : List Ins) : ShS := l.foldl (shStep w) s
def sh0 : ShS := (List.replicate 101 0, [])
/-- What Show answers. -/
def showE (l : List Ins) (w : Int) : List (List Int) × Int :=
  if 2000 < l.length then ([], 4)
  else if l.any (fun i => decide (i.err ≠ 0)) then ([], 8)
  else if w < 1 ∨ 101 < w then ([], 2)
  else if 100 < (shRun w.toNat sh0 l).2.length then ([], 4)
  else if ((shRun w.toNat sh0 l).1.take w.toNat).any (fun n => decide (n ≠ ((shRun w.toNat sh0 l).2.length : Int))) then ([], 26)
  else ((shRun w.toNat sh0 l).2, 0)
/-- The counts and rows stay in order. -/
structure ShOk (w : Nat) (s : ShS) : Prop where
  len : s.1.length = 101
  rows : ∀ r ∈ s.2, r.length = w
  lo : ∀ k, 0 ≤ s.1.getD k 0
  hi : ∀ k, s.1.getD k 0 ≤ (s.2.length : Int)
theorem ShOk.new (w : Nat) : ShOk w sh0 := by
  have h : ∀ k, sh0.1.getD k 0 = 0 := fun k => by
    show (List.replicate 101 (0 : Int)).getD k 0 = 0
    rw [List.getD_eq_getElem?_getD, List.getElem?_replicate]
    split <;> rfl
  exact ⟨by simp [sh0], fun r hr => by simp [sh0] at hr, fun k => by rw [h]; exact Int.le_refl 0, fun k => by rw [h]; simp [sh0]⟩
theorem getD_set_int (l : List Int) (k j : Nat) (x : Int) (hk : k < l.length) : (l.set k x).getD j 0 = if j = k then x else l.getD j 0 := by
  rw [List.getD_eq_getElem?_getD, List.getElem?_set]
  by_cases e : k = j
  · subst e; simp [hk]
  · rw [if_neg e, if_neg (fun h => e h.symm), List.getD_eq_getElem?_getD]
theorem ShOk.step {w : Nat} {s : ShS} (h : ShOk w s) {i : Ins} (hw : w ≤ 101) : ShOk w (shStep w s i) := by
  unfold shStep
  by_cases hb : shB w i = true
  · rw [if_pos hb]
    have hat : i.at_.toNat < 101 := by
      unfold shB at hb
      simp only [Bool.and_eq_true, decide_eq_true_eq] at hb
      omega
    have h1 := h.lo i.at_.toNat
    have h2 := h.hi i.at_.toNat
    have hl := h.len
    have key : ∀ R : List (List Int), (∀ r ∈ R, r.length = w) → s.2.length ≤ R.length → s.1.getD i.at_.toNat 0 < (R.length : Int) → ShOk w (s.1.set i.at_.toNat (s.1.getD i.at_.toNat 0 + 1), R.set (s.1.getD i.at_.toNat 0).toNat ((R.getD (s.1.getD i.at_.toNat 0).toNat []).set i.at_.toNat i.car)) := fun R hR hle hlt => by
      refine ⟨by simp [hl], fun r hr => ?_, fun k => ?_, fun k => ?_⟩
      · rcases List.mem_or_eq_of_mem_set hr with hr | hr
        · exact hR r hr
        · rw [hr, List.length_set]
          have hx : R.getD (s.1.getD i.at_.toNat 0).toNat [] ∈ R := by
            rw [List.getD_eq_getElem?_getD, List.getElem?_eq_getElem (by omega)]
            exact List.getElem_mem _
          exact hR _ hx
      · show 0 ≤ (s.1.set _ _).getD k 0
        rw [getD_set_int _ _ _ _ (by omega)]
        split
        · omega
        · exact h.lo k
      · show (s.1.set _ _).getD k 0 ≤ ((R.set _ _).length : Int)
        rw [getD_set_int _ _ _ _ (by omega), List.length_set]
        split
        · omega
        · have := h.hi k; omega
    unfold shIn
    simp only
    by_cases e : s.1.getD i.at_.toNat 0 = (s.2.length : Int)
    · rw [if_pos e]
      refine key _ (fun r hr => ?_) (by simp) (by rw [e]; simp; omega)
      rcases List.mem_append.1 hr with hr | hr
      · exact h.rows r hr
      · rw [List.mem_singleton.1 hr]; simp
    · rw [if_neg e]
      exact key _ h.rows (Nat.le_refl _) (by omega)
  · rw [if_neg hb]; exact h
theorem ShOk.run {w : Nat} (hw : w ≤ 101) : ∀ {l : List Ins} {s : ShS}, ShOk w s → ShOk w (shRun w s l)
  | [], _, h => h
  | i :: l, _, h => ShOk.run hw (l := l) (h.step (i := i) hw)
theorem shRun_len (w : Nat) : ∀ (l : List Ins) (s : ShS), (shRun w s l).2.length ≤ s.2.length + l.length
  | [], s => by show s.2.length ≤ s.2.length + 0; omega
  | i :: l, s => by
    have h1 := shRun_len w l (shStep w s i)
    have h2 : (shStep w s i).2.length ≤ s.2.length + 1 := by
      unfold shStep shIn
      split
      · simp only [List.length_set]
        split
        · simp
        · omega
      · omega
    show (shRun w (shStep w s i) l).2.length ≤ _
    simp only [List.length_cons]
    omega
theorem shRun_app (w : Nat) (a b : List Ins) (s : ShS) : shRun w s (a ++ b) = shRun w (shRun w s a) b := List.foldl_append ..
theorem shRun_next (w : Nat) {l : List Ins} {i : Nat} {x : Ins} (h : l[i]? = some x) (s : ShS) : shRun w s (l.take (i + 1)) = shStep w (shRun w s (l.take i)) x := by
  rw [List.take_add_one, h, Option.toList_some, shRun_app]
  rfl

/-! ### the program of a picture -/
/-- Behind t rows and the cells D of the next one. -/
structure ShP (n : Nat) (p : List (List Int)) (t : Nat) (row : List Int) (D : Nat → Bool) (s : ShS) : Prop where
  len : s.1.length = 101
  cnt : ∀ k, k < n → s.1.getD k 0 = (t : Int) + if D k then 1 else 0
  rows : (∀ k, k < n → D k = false) → s.2 = p.take t
  part : (∃ k, k < n ∧ D k = true) → s.2 = p.take t ++ [(List.range n).map fun k => if D k then row.getD k 0 else 0]
theorem ShP.congr {n : Nat} {p : List (List Int)} {t : Nat} {row : List Int} {D E : Nat → Bool} {s : ShS} (h : ShP n p t row D s) (he : ∀ k, k < n → E k = D k) : ShP n p t row E s := by
  refine ⟨h.len, fun k hk => by rw [he k hk]; exact h.cnt k hk, fun hz => h.rows fun k hk => by rw [← he k hk]; exact hz k hk, fun ⟨k, hk, hd⟩ => ?_⟩
  rw [h.part ⟨k, hk, by rw [← he k hk]; exact hd⟩]
  congr 2
  apply List.map_congr_left
  intro j hj
  rw [he j (by simpa using hj)]
theorem ShP.knit {n : Nat} {p : List (List Int)} {t : Nat} {row : List Int} {D : Nat → Bool} {s : ShS} (h : ShP n p t row D s) (hn : n ≤ 101) (ht : t ≤ p.length) {k : Nat} (hk : k < n) (hD : D k = false) {i : Ins} (h1 : i.op = 3) (h2 : i.bed = 0) (h3 : i.at_ = (k : Int)) (h4 : i.car = row.getD k 0) : ShP n p t row (fun j => D j || decide (j = k)) (shStep n s i) := by
  have hb : shB n i = true := by unfold shB; rw [h1, h2, h3]; simp; omega
  have hat : i.at_.toNat = k := by omega
  have hc : s.1.getD k 0 = (t : Int) := by rw [h.cnt k hk, hD]; simp
  have htl : (p.take t).length = t := by rw [List.length_take]; omega
  unfold shStep
  rw [if_pos hb]
  unfold shIn
  simp only [hat, hc, Int.toNat_natCast, h4]
  have hcnt : ∀ j, j < n → (s.1.set k ((t : Int) + 1)).getD j 0 = (t : Int) + if (D j || decide (j = k)) then 1 else 0 := fun j hj => by
    rw [getD_set_int _ _ _ _ (by rw [h.len]; omega)]
    by_cases e : j = k
    · subst e; simp
    · rw [if_neg e, decide_eq_false e, Bool.or_false]; exact h.cnt j hj
  have fin : ∀ R : List (List Int), R = p.take t ++ [(List.range n).map fun j => if D j then row.getD j 0 else 0] → R.set t ((R.getD t []).set k (row.getD k 0)) = p.take t ++ [(List.range n).map fun j => if (D j || decide (j = k)) then row.getD j 0 else 0] := fun R hR => by
    have hg : R.getD t [] = (List.range n).map fun j => if D j then row.getD j 0 else 0 := by
      rw [hR, List.getD_eq_getElem?_getD, List.getElem?_append_right (by omega), htl, Nat.sub_self]; rfl
    rw [hg, hR, List.set_append_right _ _ (by omega), htl, Nat.sub_self]
    congr 1
    show [((List.range n).map fun j => if D j then row.getD j 0 else 0).set k (row.getD k 0)] = _
    congr 1
    apply List.ext_getElem (by simp)
    intro j g1 g2
    rw [List.getElem_set]
    simp only [List.getElem_map, List.getElem_range]
    by_cases e : k = j
    · subst e; simp
    · rw [if_neg e, decide_eq_false (fun h => e h.symm), Bool.or_false]
  by_cases hz : ∀ j, j < n → D j = false
  · have hr := h.rows hz
    have hl : (s.2.length : Int) = (t : Int) := by rw [hr, htl]
    rw [if_pos hl.symm, hr]
    refine ⟨by simp [h.len], hcnt, fun hh => ?_, fun _ => ?_⟩
    · have := hh k hk; simp at this
    · refine fin _ ?_
      congr 2
      apply List.ext_getElem (by simp)
      intro j g1 g2
      simp only [List.getElem_replicate, List.getElem_map, List.getElem_range]
      rw [hz j (by simpa using g2)]; rfl
  · have hex : ∃ j, j < n ∧ D j = true := by
      apply Classical.byContradiction
      intro hne
      exact hz fun j hj => by
        cases hd : D j with
        | false => rfl
        | true => exact absurd ⟨j, hj, hd⟩ hne
    have hr := h.part hex
    have hl : ¬ (t : Int) = (s.2.length : Int) := by rw [hr, List.length_append, htl]; simp; omega
    rw [if_neg hl]
    refine ⟨by simp [h.len], hcnt, fun hh => ?_, fun _ => fin _ hr⟩
    have := hh k hk; simp at this
/-- A list of cells of one row, worked in some order. -/
theorem ShP.cells {n : Nat} {p : List (List Int)} {t : Nat} {row : List Int} (hn : n ≤ 101) (ht : t ≤ p.length) (c : Int) : ∀ (ks : List Nat) {D : Nat → Bool} {s : ShS} (f : Nat → Ins), ShP n p t row D s → ks.Nodup → (∀ k ∈ ks, k < n ∧ (f k).bed = 0 ∧ (f k).at_ = (k : Int) ∧ (f k).car = c ∧ ((f k).op = 3 ↔ row.getD k 0 = c)) → (∀ k ∈ ks, row.getD k 0 = c → D k = false) →
    ShP n p t row (fun j => D j || (decide (j ∈ ks) && decide (row.getD j 0 = c))) (shRun n s (ks.map f))
  | [], D, s, f, h, _, _, _ => h.congr fun k _ => by simp
  | k :: ks, D, s, f, h, hnd, hf, hD => by
    obtain ⟨hk, f1, f2, f3, f4⟩ := hf k List.mem_cons_self
    obtain ⟨n1, n2⟩ := List.nodup_cons.1 hnd
    show ShP n p t row _ (shRun n (shStep n s (f k)) (ks.map f))
    by_cases hc : row.getD k 0 = c
    · have h2 := h.knit hn ht hk (hD k List.mem_cons_self hc) (f4.2 hc) f1 f2 (f3.trans hc.symm)
      refine (ShP.cells hn ht c ks f h2 n2 (fun j hj => hf j (List.mem_cons_of_mem _ hj)) (fun j hj hjc => ?_)).congr fun j hj => ?_
      · rw [hD j (List.mem_cons_of_mem _ hj) hjc, decide_eq_false (fun e => n1 (by rw [← e]; exact hj))]; rfl
      · by_cases e : j = k
        · subst e; rw [decide_eq_true hc]; simp
        · rw [decide_eq_false e, Bool.or_false]
          congr 2
          rw [decide_eq_decide]
          simp [e]
    · have hb : shStep n s (f k) = s := by
        unfold shStep shB
        rw [decide_eq_false (fun h => hc (f4.1 h))]
        rfl
      rw [hb]
      refine (ShP.cells hn ht c ks f h n2 (fun j hj => hf j (List.mem_cons_of_mem _ hj)) (fun j hj hjc => hD j (List.mem_cons_of_mem _ hj) hjc)).congr fun j hj => ?_
      by_cases e : j = k
      · subst e; rw [decide_eq_false hc]; simp
      · congr 2
        rw [decide_eq_decide]
        simp [e]
theorem ShP.pass {p : List (List Int)} {t : Nat} {row : List Int} {D : Nat → Bool} {s : ShS} (h : ShP row.length p t row D s) (hn : row.length ≤ 101) (ht : t ≤ p.length) (c : Int) (lim : Nat) (right : Bool) (hD : ∀ k, k < row.length → row.getD k 0 = c → D k = false) :
    ShP row.length p t row (fun j => D j || decide (row.getD j 0 = c)) (shRun row.length s (passI row c lim right)) := by
  have hop : ∀ k, (insQ row c right (tuckB (flo row c) (lim + 1) right) k).op = 3 ↔ row.getD k 0 = c := fun k => by
    show opQ row c (tuckB (flo row c) (lim + 1) right) k = 3 ↔ _
    unfold opQ
    constructor
    · intro h1
      split at h1
      · omega
      · split at h1
        · assumption
        · omega
    · intro h1
      rw [tuck_colour h1, if_neg (by decide), if_pos h1]
  unfold passI turnR
  split
  · unfold passQ
    refine (ShP.cells hn ht c (List.range row.length) (insQ row c right (tuckB (flo row c) (lim + 1) right)) h List.nodup_range (fun k hk => ⟨by simpa using hk, rfl, rfl, rfl, hop k⟩) (fun k hk hkc => hD k (by simpa using hk) hkc)).congr fun j hj => ?_
    rw [decide_eq_true (show j ∈ List.range row.length by simpa using hj), Bool.true_and]
  · unfold passQ
    rw [← List.map_reverse]
    refine (ShP.cells hn ht c (List.range row.length).reverse (insQ row c right (tuckB (flo row c) (lim + 1) right)) h ((List.reverse_perm _).nodup_iff.2 List.nodup_range) (fun k hk => ⟨by simpa using hk, rfl, rfl, rfl, hop k⟩) (fun k hk hkc => hD k (by simpa using hk) hkc)).congr fun j hj => ?_
    rw [decide_eq_true (show j ∈ (List.range row.length).reverse by simpa using hj), Bool.true_and]
theorem chk_len {p : List (List Int)} (h : chk p = 0) {row : List Int} (hr : row ∈ p) : row.length = (p.headD []).length := by
  unfold chk at h
  split at h
  · cases h
  · split at h
    · cases h
    · rename_i h2
      have h3 : rowBad (p.headD []).length row = false := by
        cases hb : rowBad (p.headD []).length row with
        | false => rfl
        | true => exact absurd (List.any_eq_true.2 ⟨row, hr, hb⟩) h2
      unfold rowBad at h3
      rw [Bool.or_eq_false_iff, Bool.or_eq_false_iff] at h3
      have := of_decide_eq_false h3.1.2
      exact Classical.not_not.1 this
theorem ShP.cols {p : List (List Int)} {lim t : Nat} {row : List Int} (hr : p[t]? = some row) (hn : row.length ≤ 101) : ∀ (j : Nat), j ≤ (colsOf row).length → ∀ {s : ShS}, ShP row.length p t row (fun _ => false) s →
    ShP row.length p t row (fun k => decide (row.getD k 0 ∈ (colsOf row).take j)) (shRun row.length s (((colsOf row).take j).flatMap fun c => passI row c lim (!oddB (p.take t) c)))
  | 0, _, s, h => h.congr fun k _ => by simp
  | j + 1, hj, s, h => by
    have hg : (colsOf row)[j]? = some (colsOf row)[j] := List.getElem?_eq_getElem (by omega)
    have ih := ShP.cols (lim := lim) hr hn j (by omega) h
    have ht : t ≤ p.length := by have := (List.getElem?_eq_some_iff.1 hr).1; omega
    rw [List.take_add_one, hg]
    simp only [Option.toList_some, List.flatMap_append, List.flatMap_singleton]
    rw [shRun_app]
    refine (ih.pass hn ht (colsOf row)[j] lim _ (fun k hk hkc => ?_)).congr fun k hk => ?_
    · rw [hkc]
      apply decide_eq_false
      intro hm
      obtain ⟨i, hi⟩ := List.mem_iff_getElem?.1 hm
      rw [List.getElem?_take] at hi
      split at hi
      · rename_i hij
        obtain ⟨a1, a2⟩ := List.getElem?_eq_some_iff.1 hi
        have := (List.getElem_inj (cols_nodup row)).1 a2
        omega
      · cases hi
    · simp only [List.mem_append, List.mem_singleton]
      rw [Bool.eq_iff_iff]
      simp
theorem ShP.row {p : List (List Int)} {lim t : Nat} {row : List Int} (hv : chk p = 0) (hr : p[t]? = some row) {s : ShS} (h : ShP row.length p t row (fun _ => false) s) (nx : List Int) (hnx : nx.length = row.length) : ShP nx.length p (t + 1) nx (fun _ => false) (shRun row.length s (rowProg (p.take t) row lim)) := by
  have hm := List.mem_of_getElem? hr
  have hn := (chk_zero hv).2 row hm
  have h2 := ShP.cols (lim := lim) hr hn.2 (colsOf row).length (Nat.le_refl _) h
  rw [List.take_length] at h2
  have hall : ∀ k, k < row.length → row.getD k 0 ∈ colsOf row := fun k hk => by
    have hx : row.getD k 0 ∈ row := by rw [List.getD_eq_getElem?_getD, List.getElem?_eq_getElem hk]; exact List.getElem_mem hk
    exact colsOf_mem.2 ⟨chk_cells hv row hm _ hx, hx⟩
  rw [hnx]
  unfold rowProg
  refine ⟨h2.len, fun k hk => ?_, fun _ => ?_, fun ⟨k, hk, hd⟩ => by simp at hd⟩
  · rw [h2.cnt k hk, decide_eq_true (hall k hk)]; simp
  · rw [h2.part ⟨0, hn.1, decide_eq_true (hall 0 hn.1)⟩, List.take_add_one, hr]
    congr 1
    show _ = [row]
    congr 1
    apply List.ext_getElem (by simp)
    intro k g1 g2
    simp only [List.getElem_map, List.getElem_range]
    rw [decide_eq_true (hall k g2), if_pos rfl, List.getD_eq_getElem?_getD, List.getElem?_eq_getElem g2]
    rfl
/-- The program shows the picture. -/
theorem show_prog {p : List (List Int)} {lim : Nat} (hv : chk p = 0) (hp : p ≠ []) (hl : (progI p lim).length ≤ 2000) (he : ∀ i ∈ progI p lim, i.err = 0) : showE (progI p lim) ((p.headD []).length : Int) = (p, 0) := by
  obtain ⟨hp100, hrows⟩ := chk_zero hv
  have hhd : p.headD [] ∈ p := by cases p with
    | nil => exact absurd rfl hp
    | cons a t => exact List.mem_cons_self
  obtain ⟨hn1, hn2⟩ := hrows _ hhd
  obtain ⟨n, hnd⟩ : ∃ n, n = (p.headD []).length := ⟨_, rfl⟩
  rw [← hnd] at hn1 hn2 ⊢
  have hlen : ∀ row ∈ p, row.length = n := fun row hr => by rw [hnd]; exact chk_len hv hr
  have hins : shRun n sh0 (insK p 6) = sh0 := by
    have : ∀ (l : List Ins), (∀ i ∈ l, i.op = 1) → ∀ s, shRun n s l = s := by
      intro l
      induction l with
      | nil => intro _ s; rfl
      | cons i l ih =>
        intro h s
        show shRun n (shStep n s i) l = s
        have e : shStep n s i = s := by
          unfold shStep shB
          rw [h i List.mem_cons_self]
          simp
        rw [e]
        exact ih (fun x hx => h x (List.mem_cons_of_mem _ hx)) s
    exact this _ (fun i hi => insK_op hi) _
  have hz : ∀ k, sh0.1.getD k 0 = 0 := fun k => by
    show (List.replicate 101 (0 : Int)).getD k 0 = 0
    rw [List.getD_eq_getElem?_getD, List.getElem?_replicate]
    split <;> rfl
  have main : ∀ t, t ≤ p.length → ∀ row : List Int, row.length = n → ShP row.length p t row (fun _ => false) (shRun n sh0 (bodyProg p lim t)) := by
    intro t
    induction t with
    | zero =>
      intro _ row hr
      refine ⟨by simp [bodyProg, shRun, sh0], fun k _ => ?_, fun _ => by simp [bodyProg, shRun, sh0], fun ⟨k, _, hd⟩ => by simp at hd⟩
      show sh0.1.getD k 0 = _
      rw [hz]; simp
    | succ t ih =>
      intro ht nx hnx
      have hr : p[t]? = some p[t] := List.getElem?_eq_getElem (by omega)
      have hrl := hlen _ (List.mem_of_getElem? hr)
      have h1 := ih (by omega) p[t] hrl
      have h2 := ShP.row (lim := lim) hv hr h1 nx (by rw [hnx, hrl])
      have e : bodyProg p lim (t + 1) = bodyProg p lim t ++ rowProg (p.take t) p[t] lim := by
        unfold bodyProg
        rw [List.range_succ, List.flatMap_append, List.flatMap_singleton]
        congr 2
        rw [List.getD_eq_getElem?_getD, hr]; rfl
      rw [e, shRun_app]
      rw [hrl] at h2
      exact h2
  have hfin := main p.length (Nat.le_refl _) (p.headD []) hnd.symm
  rw [← hnd] at hfin
  have hrun : shRun n sh0 (progI p lim) = shRun n sh0 (bodyProg p lim p.length) := by
    unfold progI
    rw [shRun_app, hins]
  have hR : (shRun n sh0 (progI p lim)).2 = p := by
    rw [hrun, hfin.rows fun _ _ => rfl, List.take_length]
  unfold showE
  rw [if_neg (by omega), if_neg (by
    intro h
    obtain ⟨i, hi, hx⟩ := List.any_eq_true.1 h
    exact (of_decide_eq_true hx) (he i hi)), if_neg (by omega), Int.toNat_natCast, hR, if_neg (by omega), if_neg (by
    intro h
    obtain ⟨x, hx, hx2⟩ := List.any_eq_true.1 h
    obtain ⟨k, hk⟩ := List.mem_iff_getElem?.1 hx
    rw [List.getElem?_take] at hk
    split at hk
    · rename_i hkn
      have h1 := hfin.cnt k hkn
      rw [← hrun, List.getD_eq_getElem?_getD, hk] at h1
      simp only [Option.getD_some, Bool.false_eq_true, if_false] at h1
      exact (of_decide_eq_true hx2) (by rw [h1]; omega)
    · cases hk)]
end Go.Proofs.YthedmiilkeclaaaGreat
