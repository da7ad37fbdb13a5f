/- The plain law of layer 34: checks of pictures, floats, and how many needles bind them. No program in sight. -/
namespace Go.Proofs.Ythedmiilkeclaaa.I34

/-- A row that is not valid beside a first row of n0 cells. -/
def rowBad (n0 : Nat) (row : List Int) : Bool :=
  decide (row.length = 0) || decide (101 < row.length) || decide (row.length ≠ n0) || row.any (fun c => decide (c < 1) || decide (6 < c))
def chk (p : List (List Int)) : Int :=
  if 100 < p.length then 4 else if p.any (rowBad (p.headD []).length) then 8 else 0

/-- The floats of a colour found in the first k cells, and the last cell of this colour. -/
def floStep (colour : Int) (s : List (Nat × Nat) × Option Nat) (k : Nat) (c : Int) : List (Nat × Nat) × Option Nat :=
  if c = colour then ((match s.2 with
    | some l => if l + 1 < k then s.1 ++ [(l, k)] else s.1
    | none => s.1), some k) else s
def floTo (row : List Int) (colour : Int) : Nat → List (Nat × Nat) × Option Nat
  | 0 => ([], none)
  | k + 1 => floStep colour (floTo row colour k) k (row.getD k 0)
def flo (row : List Int) (colour : Int) : List (Nat × Nat) := (floTo row colour row.length).1

def lenOf (f : Nat × Nat) : Nat := f.2 - f.1 - 1
def rowLens (row : List Int) (c : Nat) : List Nat := (flo row ((c : Int) + 1)).map lenOf
def lens (p : List (List Int)) : List Nat := p.flatMap fun row => (List.range 6).flatMap fun c => rowLens row c
def longest (p : List (List Int)) : Nat := (lens p).foldl max 0
def sumBind (limit : Nat) (p : List (List Int)) : Nat := ((lens p).map (· / (limit + 1))).sum

/-- The reference's question: is the needle bound by a float that goes over it? -/
def boundIn (l : List (Nat × Nat)) (m k : Nat) : Bool :=
  match l.find? (fun f => decide (f.1 < k) && decide (k < f.2)) with
  | some f => decide ((k - f.1) % m = 0)
  | none => false
def boundB (row : List Int) (c : Nat) (limit k : Nat) : Bool := boundIn (flo row ((c : Int) + 1)) (limit + 1) k
def cnt (N : Nat) (P : Nat → Bool) : Nat := ((List.range N).filter P).length
def rowBinds (row : List Int) (c limit : Nat) : Nat := cnt row.length (boundB row c limit)
def binds (limit : Nat) (p : List (List Int)) : Nat := (p.map fun row => ((List.range 6).map fun c => rowBinds row c limit).sum).sum

theorem cnt_zero (P : Nat → Bool) : cnt 0 P = 0 := rfl
theorem cnt_succ (N : Nat) (P : Nat → Bool) : cnt (N + 1) P = cnt N P + if P N then 1 else 0 := by
  unfold cnt
  rw [List.range_succ, List.filter_append, List.length_append]
  by_cases h : P N <;> simp [h]
theorem cnt_congr {N : Nat} {P Q : Nat → Bool} (h : ∀ k, k < N → P k = Q k) : cnt N P = cnt N Q := by
  induction N with
  | zero => rfl
  | succ n ih => rw [cnt_succ, cnt_succ, ih (fun k hk => h k (by omega)), h n (by omega)]
theorem cnt_false {N : Nat} {P : Nat → Bool} (h : ∀ k, k < N → P k = false) : cnt N P = 0 := by
  rw [cnt_congr (Q := fun _ => false) h]
  induction N with
  | zero => rfl
  | succ n ih => rw [cnt_succ, ih (fun k hk => h k (by omega))]; rfl

theorem div_succ_step (x m : Nat) (hm : 0 < m) : (x + 1) / m = x / m + if (x + 1) % m = 0 then 1 else 0 := by
  have h1 := Nat.div_add_mod x m
  have h2 := Nat.mod_lt x hm
  by_cases h : x % m + 1 = m
  · have e : x + 1 = m * (x / m + 1) := by rw [Nat.mul_add]; omega
    have e1 : (x + 1) / m = x / m + 1 := by rw [e]; exact Nat.mul_div_cancel_left _ hm
    have e2 : (x + 1) % m = 0 := by rw [e]; exact Nat.mul_mod_right _ _
    rw [e1, if_pos e2]
  · have e1 : (x + 1) / m = x / m := by
      have : x + 1 = m * (x / m) + (x % m + 1) := by omega
      have hlt : x % m + 1 < m := by omega
      rw [this, Nat.mul_add_div hm, Nat.div_eq_of_lt hlt, Nat.add_zero]
    have e2 : (x + 1) % m ≠ 0 := by
      have : x + 1 = m * (x / m) + (x % m + 1) := by omega
      have hlt : x % m + 1 < m := by omega
      rw [this, Nat.mul_add_mod, Nat.mod_eq_of_lt hlt]; omega
    rw [e1, if_neg e2]; rfl

/-- Below b, in a float that begins at a: as many as fit. -/
theorem cnt_upto (m a : Nat) (hm : 0 < m) : ∀ b, cnt b (fun k => decide (a < k) && decide ((k - a) % m = 0)) = (b - a - 1) / m := by
  intro b
  induction b with
  | zero => simp [cnt_zero]
  | succ b ih =>
    rw [cnt_succ, ih]
    by_cases hab : a < b
    · have e : b + 1 - a - 1 = (b - a - 1) + 1 := by omega
      rw [e, div_succ_step _ _ hm]
      have e2 : b - a - 1 + 1 = b - a := by omega
      rw [e2]
      by_cases h : (b - a) % m = 0 <;> simp [hab, h]
    · have e1 : b + 1 - a - 1 = 0 := by omega
      have e2 : b - a - 1 = 0 := by omega
      rw [e1, e2]; simp [hab]
theorem cnt_stop (P : Nat → Bool) (b : Nat) : ∀ N, b ≤ N → (∀ k, b ≤ k → k < N → P k = false) → cnt N P = cnt b P := by
  intro N
  induction N with
  | zero => intro h _; have : b = 0 := by omega
            subst this; rfl
  | succ n ih =>
    intro h hf
    by_cases e : b = n + 1
    · subst e; rfl
    · rw [cnt_succ, ih (by omega) (fun k h1 h2 => hf k h1 (by omega)), hf n (by omega) (by omega)]; simp

/-- Floats one after the other, the first one from a on, all ends below N. -/
def Row : Nat → Nat → List (Nat × Nat) → Prop
  | _, _, [] => True
  | a, N, f :: l => a ≤ f.1 ∧ f.1 + 1 < f.2 ∧ f.2 < N ∧ Row f.2 N l
theorem Row.mono {a a' N : Nat} : ∀ {l : List (Nat × Nat)}, Row a N l → a' ≤ a → Row a' N l
  | [], _, _ => trivial
  | _ :: _, ⟨h1, h2, h3, h4⟩, h => ⟨by omega, h2, h3, h4⟩
theorem Row.find_none {a N k : Nat} : ∀ {l : List (Nat × Nat)}, Row a N l → k ≤ a → l.find? (fun f => decide (f.1 < k) && decide (k < f.2)) = none
  | [], _, _ => rfl
  | f :: l, ⟨h1, h2, _, h4⟩, h => by
    rw [List.find?_cons]
    have : decide (f.1 < k) = false := by simp; omega
    rw [this, Bool.false_and]
    exact h4.find_none (by omega)
theorem cnt_row (m N : Nat) (hm : 0 < m) : ∀ (l : List (Nat × Nat)) (a : Nat), Row a N l → cnt N (boundIn l m) = (l.map fun f => lenOf f / m).sum
  | [], _, _ => by
    have h : cnt N (boundIn [] m) = 0 := cnt_false (fun _ _ => rfl)
    rw [h]; rfl
  | f :: l, a, ⟨h1, h2, h3, h4⟩ => by
    have ih := cnt_row m N hm l f.2 h4
    have key : ∀ M, f.2 ≤ M → M ≤ N → cnt M (boundIn (f :: l) m) = lenOf f / m + cnt M (boundIn l m) := by
      intro M
      induction M with
      | zero => intro h _; omega
      | succ n ihn =>
        intro hM hN
        by_cases e : f.2 = n + 1
        · have z : cnt (n + 1) (boundIn l m) = 0 := cnt_false fun k hk => by
            unfold boundIn; rw [h4.find_none (by omega)]
          have y : cnt (n + 1) (boundIn (f :: l) m) = cnt (n + 1) (fun k => decide (f.1 < k) && decide ((k - f.1) % m = 0)) := cnt_congr fun k hk => by
            unfold boundIn
            rw [List.find?_cons]
            by_cases hk1 : f.1 < k
            · have hk2 : k < f.2 := by omega
              simp [hk1, hk2]
            · have : decide (f.1 < k) = false := by simpa using hk1
              rw [this, Bool.false_and, Bool.false_and, h4.find_none (by omega)]
          rw [y, z, cnt_upto m f.1 hm]
          unfold lenOf; rw [e]; rfl
        · rw [cnt_succ, cnt_succ, ihn (by omega) (by omega)]
          have : boundIn (f :: l) m n = boundIn l m n := by
            unfold boundIn
            rw [List.find?_cons]
            have : decide (n < f.2) = false := by simp; omega
            rw [this, Bool.and_false]
          rw [this]; omega
    rw [key N (by omega) (Nat.le_refl _), ih]; rfl

/-- What has been found in the first k cells is such a row of floats. -/
theorem Row.snoc {N : Nat} {x y : Nat} (hxy : x + 1 < y) (hy : y < N) : ∀ {l : List (Nat × Nat)} {a : Nat}, Row a (x + 1) l → a ≤ x → Row a N (l ++ [(x, y)])
  | [], _, _, h => ⟨h, hxy, hy, trivial⟩
  | f :: l, _, ⟨h1, h2, h3, h4⟩, _ => ⟨h1, h2, by omega, Row.snoc hxy hy h4 (by omega)⟩
theorem Row.grow {N N' : Nat} (h : N ≤ N') : ∀ {l : List (Nat × Nat)} {a : Nat}, Row a N l → Row a N' l
  | [], _, _ => trivial
  | _ :: _, _, ⟨h1, h2, h3, h4⟩ => ⟨h1, h2, by omega, Row.grow h h4⟩
theorem floTo_row (row : List Int) (colour : Int) : ∀ k, (∀ l, (floTo row colour k).2 = some l → l < k ∧ Row 0 (l + 1) (floTo row colour k).1) ∧ ((floTo row colour k).2 = none → (floTo row colour k).1 = [])
  | 0 => ⟨fun l h => by simp [floTo] at h, fun _ => rfl⟩
  | k + 1 => by
    obtain ⟨h1, h2⟩ := floTo_row row colour k
    simp only [floTo, floStep]
    by_cases e : row.getD k 0 = colour
    · simp only [e, if_true]
      refine ⟨fun l hl => ?_, fun h => by cases h⟩
      have hl' : k = l := by simpa using hl
      subst hl'
      refine ⟨by omega, ?_⟩
      cases hs : (floTo row colour k).2 with
      | none => simp only; rw [h2 hs]; trivial
      | some l =>
        obtain ⟨hlk, hr⟩ := h1 l hs
        simp only
        by_cases hlt : l + 1 < k
        · rw [if_pos hlt]
          exact Row.snoc hlt (by omega) hr (by omega)
        · rw [if_neg hlt]; exact hr.grow (by omega)
    · simp only [e, if_false]
      exact ⟨fun l hl => ⟨by have := (h1 l hl).1; omega, (h1 l hl).2⟩, h2⟩
theorem flo_row (row : List Int) (colour : Int) : Row 0 row.length (flo row colour) := by
  obtain ⟨h1, h2⟩ := floTo_row row colour row.length
  unfold flo
  cases hs : (floTo row colour row.length).2 with
  | none => rw [h2 hs]; trivial
  | some l => obtain ⟨a, b⟩ := h1 l hs; exact b.grow (by omega)

theorem rowBinds_eq (row : List Int) (c limit : Nat) : rowBinds row c limit = ((rowLens row c).map (· / (limit + 1))).sum := by
  unfold rowBinds rowLens
  have := cnt_row (limit + 1) row.length (by omega) (flo row ((c : Int) + 1)) 0 (flo_row row _)
  rw [List.map_map]
  exact this
theorem sum_flatMap {α : Type} (f : α → List Nat) (g : Nat → Nat) : ∀ l : List α, ((l.flatMap f).map g).sum = (l.map fun x => ((f x).map g).sum).sum
  | [] => rfl
  | x :: l => by simp [List.flatMap_cons, sum_flatMap f g l]
/-- The two ways to count are one. -/
theorem binds_eq (limit : Nat) (p : List (List Int)) : binds limit p = sumBind limit p := by
  unfold binds sumBind lens
  rw [sum_flatMap]
  congr 1
  apply List.map_congr_left
  intro row _
  rw [sum_flatMap]
  congr 1
  apply List.map_congr_left
  intro c _
  exact rowBinds_eq row c limit
end Go.Proofs.Ythedmiilkeclaaa.I34
