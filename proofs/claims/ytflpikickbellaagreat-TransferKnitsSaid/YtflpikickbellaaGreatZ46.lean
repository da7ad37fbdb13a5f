/- The reference's layer 30. -/
import Derived.Test.YtflpikickbellaaGreatZ19
namespace Go.Proofs.YtflpikickbellaaGreat
open Go.RowKit Go.Shelf
set_option maxRecDepth 100000
theorem heldL_all (s : BedS) : heldL s = heldKB s.hooks := rfl
def marks (n : Nat) (P : List Int) : List Value := (List.range n).map fun j : Nat => Value.bool (decide ((j : Int) ∈ P))
def SeenAt (W : World) (B sb n : Nat) (P : List Int) : Prop := W.ownsRow B 4 1 (.slice (some ⟨sb, 0, none⟩) n n) n (marks n P)
theorem marks_set {n : Nat} {P : List Int} {x : Nat} : marks n (P ++ [(x : Int)]) = (marks n P).set x (.bool true) := by
 unfold marks
 apply List.ext_getElem?
 intro j
 rw [List.getElem?_map, List.getElem?_set]
 by_cases e : x = j
 · subst e
   rw [if_pos rfl, List.length_map, List.length_range]
   by_cases hj : x < n
   · rw [if_pos hj, List.getElem?_range hj]; simp
   · rw [if_neg hj, List.getElem?_eq_none (by simpa using hj)]; rfl
 · rw [if_neg e, List.getElem?_map]
   by_cases hj : j < n
   · rw [List.getElem?_range hj]
     have : (j : Int) ≠ (x : Int) := by omega
     simp [this]
   · rw [List.getElem?_eq_none (by simpa using hj)]; rfl
theorem SeenAt.to {W W' : World} {B sb n : Nat} {P : List Int} (h : SeenAt W B sb n P) (hb : Below W.heap.size W W') : SeenAt W' B sb n P := own_below h hb (Nat.le_refl _)
theorem SeenAt.cell {W : World} {B sb n : Nat} {P : List Int} (h : SeenAt W B sb n P) {x : Nat} (hx : x < n) : W.cell? ⟨sb, x, none⟩ = some (.bool (decide ((x : Int) ∈ P))) := by
 rw [World.ownsRow.cellAt h x (by omega)]
 unfold marks
 rw [List.getElem?_map, List.getElem?_range hx]; rfl
theorem SeenAt.mark {W : World} {B sb n : Nat} {P : List Int} (h : SeenAt W B sb n P) (x : Nat) : SeenAt (W.setCell ⟨sb, x, none⟩ (.bool true)) B sb n (P ++ [(x : Int)]) := by
 unfold SeenAt
 rw [marks_set]
 exact (World.ownsRow.stored h x (.bool true)).1
def good (n : Nat) (P : List Int) : Prop := (∀ x ∈ P, 0 ≤ x ∧ x < (n : Int)) ∧ P.Nodup
theorem good_snoc {n : Nat} {P : List Int} {x : Int} (h : good n P) (hx : 0 ≤ x ∧ x < (n : Int)) (hn : x ∉ P) : good n (P ++ [x]) := by
 refine ⟨fun y hy => ?_, ?_⟩
 · rcases List.mem_append.1 hy with hy | hy
   · exact h.1 y hy
   · rw [List.mem_singleton.1 hy]; exact hx
 · rw [List.nodup_append]
   refine ⟨h.2, by simp, fun a ha b hb => ?_⟩
   rw [List.mem_singleton.1 hb]
   intro e; subst e; exact hn ha
theorem dist_range {s : BedS} {x : Int} (hx : x ∈ heldL s) (h : ¬ (0 ≤ x ∧ x < (s.made.length : Int))) : bedE s = 8 := by
 have : distB (heldL s) s.made.length = false := by
  unfold distB
  rw [decide_eq_false (fun hh => h (hh x hx))]; rfl
 unfold bedE bedOk; rw [this]; simp
theorem dist_twice {s : BedS} {P Q : List Int} {x : Int} (he : heldL s = P ++ x :: Q) (h : x ∈ P) : bedE s = 8 := by
 have : distB (heldL s) s.made.length = false := by
  unfold distB
  have hn : ¬ (heldL s).Nodup := fun hn => by
   rw [he, List.nodup_append] at hn
   exact hn.2.2 x h x List.mem_cons_self rfl
  rw [decide_eq_false hn, Bool.and_false]
 unfold bedE bedOk; rw [this]; simp
theorem ris_bad {s : BedS} (h : risB ltH s.hooks = false) : bedE s = 8 := by unfold bedE bedOk; rw [h]; simp
theorem heldK_split {l : List Hk} {k : Nat} {h : Hk} (hr : l[k]? = some h) : heldKB l = heldKB (l.take k) ++ (h.loops ++ heldKB (l.drop (k + 1))) := by
 obtain ⟨hk, e⟩ := List.getElem?_eq_some_iff.1 hr
 have : l = l.take k ++ h :: l.drop (k + 1) := by
  rw [← e, ← List.drop_eq_getElem_cons hk, List.take_append_drop]
 conv => lhs; rw [this]
 simp [heldKB]
theorem info_bool : (Tryz.prog.info? 4).map (fun i => (i.zero, i.size, i.bytes)) = some (some (.bool false), 1, 1) := by kernel_rfl
end Go.Proofs.YtflpikickbellaaGreat
