/- Layer 29, plain: the search finds the first of the plans that fit. -/
import Derived.Test.YtodjkifcbgmckaaHs
namespace Go.Proofs.Ytodjkifcbgmckaa
open Go.RowKit
set_option maxRecDepth 100000

theorem orE_some {α : Type} {a b : Option α} {r : α} (h : orE a b = some r) : a = some r ∨ (a = none ∧ b = some r) := by
  unfold orE at h
  cases a with
  | some x => exact Or.inl h
  | none => exact Or.inr ⟨rfl, h⟩
/-- Numbers that fit behind a plan. -/
def fitsL (k : Nat) (P : List Int → Bool) : List Int → List Int → Prop
  | _, [] => True
  | pre, a :: r => -1 ≤ a ∧ a < (k : Int) ∧ P (pre ++ [a]) = true ∧ fitsL k P (pre ++ [a]) r
/-- p does not come behind q. -/
def notBehind : List Int → List Int → Prop
  | [], _ => True
  | _ :: _, [] => False
  | a :: p, b :: q => a < b ∨ (a = b ∧ notBehind p q)
theorem nb_refl : ∀ p : List Int, notBehind p p
  | [] => trivial
  | _ :: p => Or.inr ⟨rfl, nb_refl p⟩
theorem firstAt_sound {α : Type} {f : Int → Option α} {r : α} : ∀ {c : Nat} {a : Int}, firstAt f c a = some r → ∃ x, a ≤ x ∧ x < a + (c : Int) ∧ f x = some r ∧ ∀ y, a ≤ y → y < x → f y = none
  | 0, _, h => by cases h
  | c + 1, a, h => by
    rcases orE_some h with h | ⟨h0, h⟩
    · exact ⟨a, Int.le_refl _, by omega, h, fun y h1 h2 => by omega⟩
    · obtain ⟨x, h1, h2, h3, h4⟩ := firstAt_sound h
      refine ⟨x, by omega, by omega, h3, fun y h5 h6 => ?_⟩
      by_cases e : y = a
      · rw [e]; exact h0
      · exact h4 y (by omega) h6
theorem firstAt_none {α : Type} {f : Int → Option α} : ∀ {c : Nat} {a : Int}, firstAt f c a = none → ∀ y, a ≤ y → y < a + (c : Int) → f y = none
  | 0, _, _, y, h1, h2 => by omega
  | c + 1, a, h, y, h1, h2 => by
    have h0 : f a = none ∧ firstAt f c (a + 1) = none := by
      have h' : orE (f a) (firstAt f c (a + 1)) = none := h
      unfold orE at h'
      cases e : f a with
      | some x => rw [e] at h'; cases h'
      | none => rw [e] at h'; exact ⟨rfl, h'⟩
    by_cases e : y = a
    · rw [e]; exact h0.1
    · exact firstAt_none h0.2 y (by omega) (by omega)
theorem sea_sound {k : Nat} {P : List Int → Bool} : ∀ {m : Nat} {pre q : List Int}, sea k P m pre = some q → ∃ p, q = pre ++ p ∧ p.length = m ∧ fitsL k P pre p
  | 0, pre, q, h => by
    cases h
    exact ⟨[], (List.append_nil _).symm, rfl, trivial⟩
  | m + 1, pre, q, h => by
    obtain ⟨x, h1, h2, h3, -⟩ := firstAt_sound h
    by_cases hp : P (pre ++ [x]) = true
    · rw [if_pos hp] at h3
      obtain ⟨p, e, hl, hf⟩ := sea_sound h3
      exact ⟨x :: p, by rw [e, List.append_assoc]; rfl, by rw [List.length_cons, hl], h1, by omega, hp, hf⟩
    · rw [if_neg hp] at h3; cases h3
/-- If some plan fits, one is found, and it does not come behind. -/
theorem sea_first {k : Nat} {P : List Int → Bool} : ∀ {m : Nat} {pre r : List Int}, r.length = m → fitsL k P pre r → ∃ p, sea k P m pre = some (pre ++ p) ∧ p.length = m ∧ notBehind p r
  | 0, pre, r, hl, _ => ⟨[], by rw [List.append_nil]; rfl, rfl, trivial⟩
  | m + 1, pre, [], hl, _ => by cases hl
  | m + 1, pre, a :: r, hl, ⟨h1, h2, h3, h4⟩ => by
    obtain ⟨p, e, hpl, hb⟩ := sea_first (k := k) (P := P) (m := m) (by simpa using hl) h4
    have ha : (if P (pre ++ [a]) = true then sea k P m (pre ++ [a]) else none) = some (pre ++ [a] ++ p) := by
      rw [if_pos h3, e]
    cases hs : sea k P (m + 1) pre with
    | none =>
      have := firstAt_none hs a h1 (by omega)
      rw [ha] at this
      cases this
    | some q =>
      obtain ⟨x, g1, g2, g3, g4⟩ := firstAt_sound hs
      have hxa : x ≤ a := by
        rcases Int.lt_or_le a x with h | h
        · have := g4 a h1 h; rw [ha] at this; cases this
        · exact h
      obtain ⟨p', e', hl', -⟩ := sea_sound hs
      subst e'
      refine ⟨p', rfl, hl', ?_⟩
      -- the first number of p' is x
      by_cases hp : P (pre ++ [x]) = true
      · have g3' : sea k P m (pre ++ [x]) = some (pre ++ p') := by
          have h5 : (if P (pre ++ [x]) then sea k P m (pre ++ [x]) else none) = some (pre ++ p') := g3
          rw [if_pos hp] at h5
          exact h5
        obtain ⟨p2, e2, -, -⟩ := sea_sound g3'
        have e3 : p' = x :: p2 := by
          rw [List.append_assoc] at e2
          exact List.append_cancel_left e2
        subst e3
        by_cases hx : x = a
        · subst hx
          refine Or.inr ⟨rfl, ?_⟩
          rw [e] at g3'
          have e4 := Option.some.inj g3'
          rw [List.append_assoc] at e4
          have e5 := List.append_cancel_left e4
          have e6 : p = p2 := by simpa using e5
          rw [← e6]
          exact hb
        · exact Or.inl (by omega)
      · have h5 : (if P (pre ++ [x]) then sea k P m (pre ++ [x]) else none) = some (pre ++ p') := g3
        rw [if_neg hp] at h5
        cases h5
theorem sea_none {k : Nat} {P : List Int → Bool} {m : Nat} {pre r : List Int} (h : sea k P m pre = none) (hl : r.length = m) : ¬ fitsL k P pre r := fun hf => by
  obtain ⟨p, e, -, -⟩ := sea_first hl hf
  rw [h] at e
  cases e
end Go.Proofs.Ytodjkifcbgmckaa
