/- Layer 28, plain: the program's search for what hangs on a loop. -/
import Derived.Test.YtbibndpkcilblaaKG8
namespace Go.Proofs.Ytbibndpkcilblaa
open Go.RowKit
set_option maxRecDepth 100000

/-- What has been found is whole, from a loop on. -/
def WholeFrom (lp : List Lp) (i : Nat) (S : Nat → Bool) : Prop := ∀ j, i ≤ j → S j = true → ∀ q, Reach lp j q → S q = true
/-- What a visit leaves. -/
def Visited (lp : List Lp) (i : Nat) (S S' : Nat → Bool) : Prop := ∀ q, S' q = true ↔ S q = true ∨ Reach lp i q
theorem visit_seen {lp : List Lp} {i : Nat} {S : Nat → Bool} (h : WholeFrom lp i S) (hi : S i = true) : Visited lp i S S := fun q => ⟨Or.inl, fun hq => by
  rcases hq with hq | hq
  · exact hq
  · exact h i (Nat.le_refl _) hi q hq⟩
/-- Within a visit, m kids done. -/
def VisitK (lp : List Lp) (i : Nat) (S : Nat → Bool) (m : Nat) (S' : Nat → Bool) : Prop := ∀ q, S' q = true ↔ S q = true ∨ q = i ∨ ∃ k ∈ (kidsN lp i).take m, Reach lp k q
theorem visitK_start {lp : List Lp} {i : Nat} {S : Nat → Bool} : VisitK lp i S 0 (fun j => S j || decide (j = i)) := fun q => by
  simp only [Bool.or_eq_true, decide_eq_true_eq, List.take_zero]
  constructor
  · rintro (h | h)
    · exact Or.inl h
    · exact Or.inr (Or.inl h)
  · rintro (h | h | ⟨k, hk, -⟩)
    · exact Or.inl h
    · exact Or.inr h
    · cases hk
theorem visitK_whole {lp : List Lp} {bound : List Int} {K lv : Nat} (hg : GrN lp bound K lv) {i m : Nat} {S S' : Nat → Bool} (hw : WholeFrom lp i S) (h : VisitK lp i S m S') {k : Nat} (hk : k ∈ kidsN lp i) : WholeFrom lp k S' := fun j hj hs q hq => by
  have hik := kids_gt hg.fwd hk
  rcases (h j).1 hs with h1 | h1 | ⟨k', h1, h2⟩
  · exact (h q).2 (Or.inl (hw j (by omega) h1 q hq))
  · omega
  · refine (h q).2 (Or.inr (Or.inr ⟨k', h1, ?_⟩))
    clear h1
    induction hq with
    | refl _ => exact h2
    | step _ hk2 ih => exact .step ih hk2
theorem visitK_next {lp : List Lp} {i m k : Nat} {S S' S'' : Nat → Bool} (h : VisitK lp i S m S') (hk : (kidsN lp i)[m]? = some k) (hv : Visited lp k S' S'') : VisitK lp i S (m + 1) S'' := fun q => by
  obtain ⟨hm, e⟩ := List.getElem?_eq_some_iff.1 hk
  rw [hv q, h q, List.take_succ_eq_append_getElem hm, e]
  constructor
  · rintro ((h1 | h1 | ⟨k', h1, h2⟩) | h1)
    · exact Or.inl h1
    · exact Or.inr (Or.inl h1)
    · exact Or.inr (Or.inr ⟨k', List.mem_append.2 (Or.inl h1), h2⟩)
    · exact Or.inr (Or.inr ⟨k, List.mem_append.2 (Or.inr List.mem_cons_self), h1⟩)
  · rintro (h1 | h1 | ⟨k', h1, h2⟩)
    · exact Or.inl (Or.inl h1)
    · exact Or.inl (Or.inr (Or.inl h1))
    · rcases List.mem_append.1 h1 with h3 | h3
      · exact Or.inl (Or.inr (Or.inr ⟨k', h3, h2⟩))
      · rw [List.mem_singleton.1 h3] at h2
        exact Or.inr h2
theorem visitK_end {lp : List Lp} {i : Nat} (hi : i < lp.length) {S S' : Nat → Bool} (h : VisitK lp i S (kidsN lp i).length S') : Visited lp i S S' := fun q => by
  rw [h q, List.take_length]
  constructor
  · rintro (h1 | rfl | ⟨k, h1, h2⟩)
    · exact Or.inl h1
    · exact Or.inr (.refl hi)
    · exact Or.inr (Reach.head hi h1 h2)
  · rintro (h1 | h1)
    · exact Or.inl h1
    · rcases h1.cases' with rfl | ⟨k, h2, h3⟩
      · exact Or.inr (Or.inl rfl)
      · exact Or.inr (Or.inr ⟨k, h2, h3⟩)
theorem whole_none (lp : List Lp) (i : Nat) : WholeFrom lp i (fun _ => false) := fun _ _ h => by cases h
end Go.Proofs.Ytbibndpkcilblaa
