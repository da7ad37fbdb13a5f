/- Layer 29, plain: the first right plan: the reference's recursion, the program's loop. -/
import Derived.Test.YtodjkifcbgmckaaBase
namespace Go.Proofs.Ytodjkifcbgmckaa
open Go.RowKit
set_option maxRecDepth 100000

def orE {α : Type} (a b : Option α) : Option α := match a with
  | some r => some r
  | none => b
/-- The first of the numbers next, next + 1, .., k - 1 (c of them) at which f has a result. -/
def firstAt {α : Type} (f : Int → Option α) : Nat → Int → Option α
  | 0, _ => none
  | c + 1, a => orE (f a) (firstAt f c (a + 1))
/-- The reference's search: m loops are left to be planned; k cable needles; P says whether the last loop of a plan may have what it has. -/
def sea (k : Nat) (P : List Int → Bool) : Nat → List Int → Option (List Int)
  | 0, plan => some plan
  | m + 1, plan => firstAt (fun a => if P (plan ++ [a]) then sea k P m (plan ++ [a]) else none) (k + 1) (-1)
/-- What is left of a level's search, from next on. -/
def seaF (k : Nat) (P : List Int → Bool) (m : Nat) (plan : List Int) (next : Int) : Option (List Int) :=
  firstAt (fun a => if P (plan ++ [a]) then sea k P m (plan ++ [a]) else none) ((k : Int) - next).toNat next
theorem sea_F (k : Nat) (P : List Int → Bool) (m : Nat) (plan : List Int) : sea k P (m + 1) plan = seaF k P m plan (-1) := by
  unfold seaF
  rw [show ((k : Int) - -1).toNat = k + 1 by omega]
  rfl
theorem seaF_end {k : Nat} {P : List Int → Bool} {m : Nat} {plan : List Int} : seaF k P m plan (k : Int) = none := by
  unfold seaF
  rw [show ((k : Int) - (k : Int)).toNat = 0 by omega]
  rfl
theorem seaF_step {k : Nat} {P : List Int → Bool} {m : Nat} {plan : List Int} {next : Int} (h : next < (k : Int)) : seaF k P m plan next = orE (if P (plan ++ [next]) then sea k P m (plan ++ [next]) else none) (seaF k P m plan (next + 1)) := by
  unfold seaF
  rw [show ((k : Int) - next).toNat = ((k : Int) - (next + 1)).toNat + 1 by omega]
  rfl
/-- Turning back: what the levels above still have; the plan with its last number ahead. -/
def back (n k : Nat) (P : List Int → Bool) : List Int → Option (List Int)
  | [] => none
  | a :: r => orE (seaF k P (n - r.length - 1) r.reverse (a + 1)) (back n k P r)
theorem back_cons {n k : Nat} {P : List Int → Bool} {a : Int} {r : List Int} : back n k P (a :: r) = orE (seaF k P (n - r.length - 1) r.reverse (a + 1)) (back n k P r) := rfl
/-- What the program's loop comes to. -/
def loopF (n k : Nat) (P : List Int → Bool) (plan : List Int) (next : Int) : Option (List Int) :=
  orE (seaF k P (n - plan.length - 1) plan next) (back n k P plan.reverse)
theorem loop_start {n k : Nat} {P : List Int → Bool} (hn : 0 < n) : loopF n k P [] (-1) = sea k P n [] := by
  unfold loopF
  obtain ⟨m, rfl⟩ : ∃ m, n = m + 1 := ⟨n - 1, by omega⟩
  rw [show m + 1 - ([] : List Int).length - 1 = m by simp, sea_F]
  cases seaF k P m [] (-1) <;> rfl
/-- A level is at its end: back to the one above. -/
theorem loop_back {n k : Nat} {P : List Int → Bool} {p : List Int} {a : Int} : loopF n k P (p ++ [a]) (k : Int) = loopF n k P p (a + 1) := by
  unfold loopF
  rw [seaF_end, List.reverse_append]
  show back n k P (a :: p.reverse) = _
  rw [back_cons, List.length_reverse, List.reverse_reverse]
theorem loop_none {n k : Nat} {P : List Int → Bool} : loopF n k P [] (k : Int) = none := by
  unfold loopF
  rw [seaF_end]
  rfl
/-- The next number is right: one level down. -/
theorem loop_push {n k : Nat} {P : List Int → Bool} {plan : List Int} {next : Int} (hl : plan.length + 1 < n) (h : next < (k : Int)) (hp : P (plan ++ [next]) = true) : loopF n k P plan next = loopF n k P (plan ++ [next]) (-1) := by
  unfold loopF
  rw [seaF_step h, hp, if_pos rfl, List.reverse_append]
  obtain ⟨m, hm⟩ : ∃ m, n - plan.length - 1 = m + 1 := ⟨n - plan.length - 2, by omega⟩
  rw [hm, sea_F, show n - (plan ++ [next]).length - 1 = m by rw [List.length_append, List.length_singleton]; omega]
  cases hs : seaF k P m (plan ++ [next]) (-1) with
  | some q => rfl
  | none =>
    show orE (orE none _) _ = back n k P (next :: plan.reverse)
    rw [back_cons, List.length_reverse, List.reverse_reverse, hm]
    rfl
/-- It is right, and the plan is whole. -/
theorem loop_whole {n k : Nat} {P : List Int → Bool} {plan : List Int} {next : Int} (hl : plan.length + 1 = n) (h : next < (k : Int)) (hp : P (plan ++ [next]) = true) : loopF n k P plan next = some (plan ++ [next]) := by
  unfold loopF
  rw [seaF_step h, hp, if_pos rfl, show n - plan.length - 1 = 0 by omega]
  rfl
/-- It is not right: the next one. -/
theorem loop_skip {n k : Nat} {P : List Int → Bool} {plan : List Int} {next : Int} (h : next < (k : Int)) (hp : P (plan ++ [next]) = false) : loopF n k P plan next = loopF n k P plan (next + 1) := by
  unfold loopF
  rw [seaF_step h, hp, if_neg (by simp)]
  rfl
/-- How much is left of the loop: each round makes it less. -/
def leftW (k : Nat) : Nat → List Int → Int → Nat
  | 0, _, _ => 0
  | m + 1, [], next => ((k : Int) - next + 1).toNat * (k + 3) ^ (m + 1)
  | m + 1, a :: r, next => ((k : Int) - a).toNat * (k + 3) ^ (m + 1) + leftW k m r next
theorem left_skip {k : Nat} : ∀ {m : Nat} {plan : List Int} {next : Int}, plan.length < m → next < (k : Int) → leftW k m plan (next + 1) < leftW k m plan next
  | 0, _, _, h, _ => absurd h (Nat.not_lt_zero _)
  | m + 1, [], next, _, h => by
    unfold leftW
    refine Nat.mul_lt_mul_of_pos_right (by omega) (Nat.pow_pos (by omega))
  | m + 1, a :: r, next, hl, h => by
    unfold leftW
    have := left_skip (plan := r) (next := next) (show r.length < m by simpa using hl) h
    omega
theorem left_push {k : Nat} : ∀ {m : Nat} {plan : List Int} {next : Int}, plan.length + 1 < m → -1 ≤ next → next < (k : Int) → leftW k m (plan ++ [next]) (-1) < leftW k m plan next
  | 0, _, _, h, _, _ => absurd h (Nat.not_lt_zero _)
  | m + 1, [], next, hl, h1, h => by
    obtain ⟨m', rfl⟩ : ∃ m', m = m' + 1 := ⟨m - 1, by simp at hl; omega⟩
    show ((k : Int) - next).toNat * (k + 3) ^ (m' + 1 + 1) + ((k : Int) - -1 + 1).toNat * (k + 3) ^ (m' + 1) < ((k : Int) - next + 1).toNat * (k + 3) ^ (m' + 1 + 1)
    rw [show ((k : Int) - next + 1).toNat = ((k : Int) - next).toNat + 1 by omega, Nat.add_mul, Nat.one_mul, show ((k : Int) - -1 + 1).toNat = k + 2 by omega]
    have : (k + 2) * (k + 3) ^ (m' + 1) < (k + 3) ^ (m' + 1 + 1) := by
      rw [Nat.pow_succ (k + 3) (m' + 1), Nat.mul_comm ((k + 3) ^ (m' + 1)) (k + 3)]
      exact Nat.mul_lt_mul_of_pos_right (by omega) (Nat.pow_pos (by omega))
    omega
  | m + 1, a :: r, next, hl, h1, h => by
    show ((k : Int) - a).toNat * (k + 3) ^ (m + 1) + leftW k m (r ++ [next]) (-1) < ((k : Int) - a).toNat * (k + 3) ^ (m + 1) + leftW k m r next
    have := left_push (plan := r) (next := next) (show r.length + 1 < m by simpa using hl) h1 h
    omega
theorem left_back {k : Nat} : ∀ {m : Nat} {p : List Int} {a : Int}, p.length + 1 < m → a < (k : Int) → leftW k m p (a + 1) < leftW k m (p ++ [a]) (k : Int)
  | 0, _, _, h, _ => absurd h (Nat.not_lt_zero _)
  | m + 1, [], a, hl, h => by
    obtain ⟨m', rfl⟩ : ∃ m', m = m' + 1 := ⟨m - 1, by simp at hl; omega⟩
    show ((k : Int) - (a + 1) + 1).toNat * (k + 3) ^ (m' + 1 + 1) < ((k : Int) - a).toNat * (k + 3) ^ (m' + 1 + 1) + ((k : Int) - (k : Int) + 1).toNat * (k + 3) ^ (m' + 1)
    rw [show (k : Int) - (a + 1) + 1 = (k : Int) - a by omega, show ((k : Int) - (k : Int) + 1).toNat = 1 by omega, Nat.one_mul]
    have : 0 < (k + 3) ^ (m' + 1) := Nat.pow_pos (by omega)
    omega
  | m + 1, b :: r, a, hl, h => by
    show ((k : Int) - b).toNat * (k + 3) ^ (m + 1) + leftW k m r (a + 1) < ((k : Int) - b).toNat * (k + 3) ^ (m + 1) + leftW k m (r ++ [a]) (k : Int)
    have := left_back (p := r) (a := a) (show r.length + 1 < m by simpa using hl) h
    omega
end Go.Proofs.Ytodjkifcbgmckaa
