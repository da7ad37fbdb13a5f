/- Layer 29, plain: Replay over queues, the left needle the last of them. -/
import Derived.Test.YtodjkifcbgmckaaHp0
namespace Go.Proofs.Ytodjkifcbgmckaa
open Go.RowKit
set_option maxRecDepth 100000

def natL (l : List Nat) : List Int := l.map fun (x : Nat) => (x : Int)
/-- The queues of the program: the cable needles', and the left needle's. -/
def qsOf (n : Nat) (s : RpS) : List (List Int) := s.on.map natL ++ [natL (List.range' s.left (n - s.left))]
theorem qs_len {n k : Nat} {s : RpS} (h : RpOk n k s) : (qsOf n s).length = k + 1 := by unfold qsOf; rw [List.length_append, List.length_map, h.ons]; rfl
theorem qs_last {n k : Nat} {s : RpS} (h : RpOk n k s) : (qsOf n s)[k]? = some (natL (List.range' s.left (n - s.left))) := by
  unfold qsOf
  rw [List.getElem?_append_right (by rw [List.length_map, h.ons]; exact Nat.le_refl _), List.length_map, h.ons, Nat.sub_self]
  rfl
theorem qs_at {n k : Nat} {s : RpS} (h : RpOk n k s) {i : Nat} (hi : i < k) : (qsOf n s)[i]? = some (natL (s.on.getD i [])) := by
  unfold qsOf
  have hl : i < s.on.length := by rw [h.ons]; exact hi
  rw [List.getElem?_append_left (by rw [List.length_map]; exact hl), List.getElem?_map, List.getElem?_eq_getElem hl, List.getD_eq_getElem?_getD, List.getElem?_eq_getElem hl]
  rfl
theorem range_pop {a n : Nat} (h : a < n) : List.range' a (n - a) = a :: List.range' (a + 1) (n - (a + 1)) := by
  rw [show n - a = (n - (a + 1)) + 1 by omega, List.range'_succ]
theorem range_nil {a n : Nat} (h : n ≤ a) : List.range' a (n - a) = [] := by rw [show n - a = 0 by omega]; rfl
/-- The left needle's next loop is worked. -/
theorem qs_work {n k : Nat} {s : RpS} (h : RpOk n k s) {to_ : List Int} {d : Nat} : (qsOf n s).set k (natL (List.range' (s.left + 1) (n - (s.left + 1)))) = qsOf n { s with to_ := to_, left := s.left + 1, done := d } := by
  unfold qsOf
  rw [List.set_append_right _ _ (by rw [List.length_map, h.ons]; exact Nat.le_refl _), List.length_map, h.ons, Nat.sub_self]
  rfl
/-- It is slipped onto a cable needle. -/
theorem qs_slip {n k : Nat} {s : RpS} (h : RpOk n k s) {i : Nat} (hi : i < k) : ((qsOf n s).set k (natL (List.range' (s.left + 1) (n - (s.left + 1))))).set i (natL (s.on.getD i []) ++ [(s.left : Int)]) = qsOf n { s with on := s.on.set i (s.on.getD i [] ++ [s.left]), left := s.left + 1 } := by
  unfold qsOf
  rw [List.set_append_right _ _ (by rw [List.length_map, h.ons]; exact Nat.le_refl _), List.length_map, h.ons, Nat.sub_self]
  rw [List.set_append_left _ _ (by rw [List.length_map, h.ons]; exact hi)]
  show _ = (s.on.set i (s.on.getD i [] ++ [s.left])).map natL ++ _
  rw [List.map_set]
  congr 2
  unfold natL
  rw [List.map_append]
  rfl
/-- A cable needle's next loop is worked. -/
theorem qs_take {n k : Nat} {s : RpS} (h : RpOk n k s) {i : Nat} (hi : i < k) {r : List Nat} {to_ deep : List Int} {d : Nat} : (qsOf n s).set i (natL r) = qsOf n { s with on := s.on.set i r, to_ := to_, deep := deep, done := d } := by
  unfold qsOf
  rw [List.set_append_left _ _ (by rw [List.length_map, h.ons]; exact hi)]
  show _ = (s.on.set i r).map natL ++ _
  rw [List.map_set]
theorem natL_cons (x : Nat) (l : List Nat) : natL (x :: l) = (x : Int) :: natL l := rfl
theorem natL_len (l : List Nat) : (natL l).length = l.length := List.length_map ..
/-- The step, as the program takes it: the queue that a loop comes from. -/
def fromI (k : Nat) (m : Mv) : Nat := if m.slip = true ∨ m.nd < 0 then k else m.nd.toNat
theorem step_none {n k : Nat} {ns : List Int} {s : RpS} {m : Mv} (h : RpOk n k s) (hm : mvOk k m = true) : (qsOf n s)[fromI k m]? = some [] ↔ rpStep n ns s m = none := by
  unfold fromI rpStep
  by_cases hc : m.slip = true ∨ m.nd < 0
  · rw [if_pos hc, if_pos hc, qs_last h]
    by_cases hl : s.left = n
    · rw [if_pos hl, range_nil (by omega)]
      exact ⟨fun _ => rfl, fun _ => rfl⟩
    · have := h.left
      rw [if_neg hl, range_pop (by omega)]
      constructor
      · intro e; simp [natL] at e
      · intro e; split at e <;> cases e
  · rw [if_neg hc, if_neg hc]
    have hi : m.nd.toNat < k := by
      unfold mvOk at hm
      rw [Bool.and_eq_true, decide_eq_true_iff] at hm
      have : ¬ m.nd < 0 := fun h => hc (Or.inr h)
      omega
    rw [qs_at h hi]
    cases s.on.getD m.nd.toNat [] with
    | nil => exact ⟨fun _ => rfl, fun _ => rfl⟩
    | cons x r => exact ⟨fun e => by simp [natL] at e, fun e => by cases e⟩
end Go.Proofs.Ytodjkifcbgmckaa
