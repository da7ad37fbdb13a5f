/- Layer 31, plain: a row of the reference's Compile. -/
import Derived.Test.YtbnddpknejgmhaaComp0
namespace Go.Proofs.Ytbnddpknejgmhaa
open Go.RowKit
set_option maxRecDepth 100000

def xRun : Nat → List Stc → List Ins × List Int → List Ins × List Int
  | _, [], st => st
  | k, s :: t, (O, B) => xRun (k + 1) t (stepO s k O B, stepB s k B)
def opK (s : Stc) : Int := if s.kind = 1 then 3 else 5
def knF (qr : Bool) (B : List Int) : Nat → List Stc → List Ins
  | _, [] => []
  | k, s :: t => knitI (opK s) qr (B.getD k 0) k :: knF qr B (k + 1) t
theorem xRun_step {l : List Stc} {k : Nat} {s : Stc} (h : l[k]? = some s) (O : List Ins) (B : List Int) : xRun k (l.drop k) (O, B) = xRun (k + 1) (l.drop (k + 1)) (stepO s k O B, stepB s k B) := by
  obtain ⟨hk, e⟩ := List.getElem?_eq_some_iff.1 h
  rw [List.drop_eq_getElem_cons hk, e]; rfl
theorem getD_set_ne {B : List Int} {k j : Nat} (h : j ≠ k) (z : Int) : (B.set k z).getD j 0 = B.getD j 0 := by
  rw [List.getD, List.getD, List.getElem?_set_ne (fun e => h e.symm)]
theorem stepB_get {s : Stc} {k j : Nat} {B : List Int} (h : j ≠ k) : (stepB s k B).getD j 0 = B.getD j 0 := by
  unfold stepB
  split
  · exact getD_set_ne h _
  · rfl
theorem xRun_get : ∀ (l : List Stc) (k : Nat) (O : List Ins) (B : List Int) (j : Nat), j < k → (xRun k l (O, B)).2.getD j 0 = B.getD j 0
  | [], _, _, _, _, _ => rfl
  | s :: l, k, O, B, j, h => by
    show (xRun (k + 1) l (stepO s k O B, stepB s k B)).2.getD j 0 = _
    rw [xRun_get l (k + 1) _ _ j (by omega), stepB_get (by omega)]
theorem row_x (qr : Bool) : ∀ (l : List Stc) (k : Nat) (O R : List Ins) (B : List Int), rowRun qr k l (O, R, B) = ((xRun k l (O, B)).1, R ++ knF qr (xRun k l (O, B)).2 k l, (xRun k l (O, B)).2)
  | [], _, _, _, _ => by simp [rowRun, xRun, knF]
  | s :: l, k, O, R, B => by
    show rowRun qr (k + 1) l (stepO s k O B, stepRw qr s k R B, stepB s k B) = _
    rw [row_x qr l (k + 1)]
    have h := xRun_get l (k + 1) (stepO s k O B) (stepB s k B) k (by omega)
    show (_, _, _) = ((xRun (k + 1) l (stepO s k O B, stepB s k B)).1, R ++ (knitI (opK s) qr ((xRun (k + 1) l (stepO s k O B, stepB s k B)).2.getD k 0) k :: knF qr (xRun (k + 1) l (stepO s k O B, stepB s k B)).2 (k + 1) l), (xRun (k + 1) l (stepO s k O B, stepB s k B)).2)
    rw [h]
    unfold stepRw opK
    rw [List.append_assoc]; rfl
theorem knF_len (qr : Bool) (B : List Int) : ∀ (l : List Stc) (k : Nat), (knF qr B k l).length = l.length
  | [], _ => rfl
  | s :: l, k => by simp only [knF, List.length_cons, knF_len qr B l]
theorem knF_at (qr : Bool) (B : List Int) : ∀ (l : List Stc) (k j : Nat) (s : Stc), l[j]? = some s → (knF qr B k l)[j]? = some (knitI (opK s) qr (B.getD (k + j) 0) ((k + j : Nat) : Int))
  | [], _, _, _, h => by simp at h
  | x :: l, k, 0, s, h => by
    simp at h; subst h; rfl
  | x :: l, k, j + 1, s, h => by
    have := knF_at qr B l (k + 1) j s (by simpa using h)
    rw [show k + (j + 1) = k + 1 + j by omega, ← this]; rfl
/-- The row as the reference writes it. -/
def rowL (i : Nat) (qr : Bool) (B : List Int) (l : List Stc) : List Ins := if i % 2 = 0 then (knF qr B 0 l).reverse else knF qr B 0 l
theorem rowL_len (i : Nat) (qr : Bool) (B : List Int) (l : List Stc) : (rowL i qr B l).length = l.length := by
  unfold rowL; split <;> simp [knF_len]
theorem rowL_at {i : Nat} {qr : Bool} {B : List Int} {l : List Stc} {m j : Nat} {s : Stc} (hm : m < l.length) (hj : j = if i % 2 = 0 then l.length - 1 - m else m) (hs : l[j]? = some s) :
    (rowL i qr B l)[m]? = some (knitI (opK s) qr (B.getD j 0) (j : Int)) := by
  have h := knF_at qr B l 0 j s hs
  rw [Nat.zero_add] at h
  unfold rowL
  by_cases hi : i % 2 = 0
  · rw [if_pos hi] at hj ⊢
    rw [List.getElem?_reverse (by rw [knF_len]; exact hm), knF_len, ← hj]
    exact h
  · rw [if_neg hi] at hj ⊢
    subst hj; exact h
theorem rows_step2 {p : List RowC} {i : Nat} {r : RowC} (h : p[i]? = some r) (O : List Ins) (B : List Int) :
    rowsRun i (p.drop i) (O, B) = rowsRun (i + 1) (p.drop (i + 1)) ((xRun 0 (faceL r) (O, B)).1 ++ rowL i (decide (i % 2 = 1)) (xRun 0 (faceL r) (O, B)).2 (faceL r), (xRun 0 (faceL r) (O, B)).2) := by
  rw [rows_step h, row_x]
  unfold rowL
  simp only [List.nil_append]
def bt (b : Int) : Prop := b = 0 ∨ b = 1
theorem bt_get {B : List Int} (h : ∀ b ∈ B, bt b) (k : Nat) : bt (B.getD k 0) := by
  rw [List.getD]
  cases hk : B[k]? with
  | none => exact Or.inl rfl
  | some b => exact h b (List.mem_of_getElem? hk)
theorem bt_set {B : List Int} (h : ∀ b ∈ B, bt b) (k : Nat) {z : Int} (hz : bt z) : ∀ b ∈ B.set k z, bt b := fun b hb => by
  rcases List.mem_or_eq_of_mem_set hb with h' | h'
  · exact h b h'
  · rw [h']; exact hz
theorem set_self {B : List Int} {k : Nat} {z : Int} (h : B.getD k 0 = z) (hk : k < B.length) : B.set k z = B := by
  rw [List.getD, List.getElem?_eq_getElem hk] at h
  have h' : B[k] = z := h
  rw [← h']; exact List.set_getElem_self hk
/-- What a cell does to the program and the beds. -/
theorem step_slip {s : Stc} (h : s.kind = 8) (k : Nat) (O : List Ins) (B : List Int) : stepO s k O B = O ∧ stepB s k B = B := by
  unfold stepO stepB; rw [if_neg (by omega), if_neg (by omega)]; exact ⟨rfl, rfl⟩
theorem step_same {s : Stc} (h : s.kind = 1) {k : Nat} {O : List Ins} {B : List Int} (hk : k < B.length) (hb : B.getD k 0 = wantS s) : stepO s k O B = O ∧ stepB s k B = B := by
  unfold stepO stepB; rw [if_neg (fun h => h.2 hb), if_pos h]; exact ⟨rfl, set_self hb hk⟩
theorem step_turn {s : Stc} (h : s.kind = 1) {k : Nat} {O : List Ins} {B : List Int} {b z : Int} (hg : B.getD k 0 = b) (hz : wantS s = z) (hb : b ≠ z) : stepO s k O B = O ++ [xferI b k] ∧ stepB s k B = B.set k z := by
  unfold stepO stepB; rw [hg, if_pos ⟨h, by rw [hz]; exact hb⟩, if_pos h, hz]; exact ⟨rfl, rfl⟩
end Go.Proofs.Ytbnddpknejgmhaa
