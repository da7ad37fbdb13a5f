/- Layer 32, plain: the order holds just the moved loops, each once; sorted rows of numbers. -/
import Derived.Test.YtflpikickbellaaKG2
import Derived.Test.YtflpikickbellaaKSorted
namespace Go.Proofs.Ytflpikickbellaa
open Go.RowKit Go.Sort
set_option maxRecDepth 100000

/-- What holds of the loops that have come, and of their list. -/
structure OrdI (s : Sft) (come : Nat → Bool) (out : List Int) : Prop where
  ok : okL s out
  mem : ∀ i, i < s.n → ((i : Int) ∈ out ↔ come i = true)
  mv : ∀ i, i < s.n → come i = true → movedN s i = true
  nd : out.Nodup
theorem OrdI.new (s : Sft) : OrdI s (fun _ => false) [] := ⟨(fun x hx => by cases hx), (fun i _ => by simp), (fun i _ h => by cases h), List.Pairwise.nil⟩
theorem waitN_iff {s : Sft} {come : Nat → Bool} {i : Nat} : waitN s come i = true ↔ movedN s i = true ∧ come i = false := by
  unfold waitN
  cases movedN s i <;> cases come i <;> simp
theorem OrdI.put {s : Sft} {come : Nat → Bool} {out : List Int} (h : OrdI s come out) {i : Nat} (hi : i < s.n) (hw : waitN s come i = true) : OrdI s (putN come i) (out ++ [(i : Int)]) := by
  obtain ⟨hm, hc⟩ := waitN_iff.1 hw
  have hni : ¬ (i : Int) ∈ out := fun hx => by
    have := (h.mem i hi).1 hx
    rw [hc] at this; cases this
  refine ⟨okL_app h.ok hi, fun j hj => ?_, fun j hj hcj => ?_, ?_⟩
  · rw [List.mem_append, List.mem_singleton, h.mem j hj]
    unfold putN
    rw [Bool.or_eq_true, decide_eq_true_eq]
    constructor
    · rintro (h1 | h1)
      · exact Or.inl h1
      · exact Or.inr (by omega)
    · rintro (h1 | h1)
      · exact Or.inl h1
      · exact Or.inr (by omega)
  · unfold putN at hcj
    rw [Bool.or_eq_true, decide_eq_true_eq] at hcj
    rcases hcj with h1 | h1
    · exact h.mv j hj h1
    · rw [h1]; exact hm
  · rw [List.nodup_append]
    refine ⟨h.nd, by simp, fun a ha b hb e => ?_⟩
    rw [List.mem_singleton] at hb
    rw [e, hb] at ha
    exact hni ha
theorem inner_inv {s : Sft} {t : Int} : ∀ (f : Nat) (come : Nat → Bool) (out : List Int) (come' : Nat → Bool) (out' : List Int), OrdI s come out → leftN s come ≤ f → innerN s t f come out = some (come', out') → OrdI s come' out' ∧ hasN s come' t = false ∧ leftN s come' ≤ leftN s come ∧ (hasN s come t = true → leftN s come' < leftN s come)
  | 0, come, out, come', out', h, hf, he => by
    cases he
    have hh : hasN s come t = false := by
      cases e : hasN s come t with
      | false => rfl
      | true => have := left_pos e; omega
    exact ⟨h, hh, Nat.le_refl _, fun e => by rw [hh] at e; cases e⟩
  | f + 1, come, out, come', out', h, hf, he => by
    cases hh : hasN s come t with
    | false =>
      rw [inner_end hh] at he
      cases he
      exact ⟨h, hh, Nat.le_refl _, fun e => by cases e⟩
    | true =>
      cases hp : pickN s come t with
      | none => rw [inner_none hh hp] at he; cases he
      | some i =>
        rw [inner_go hh hp] at he
        obtain ⟨p1, -, p3, -⟩ := pickN_some hp
        have h1 := leftN_put p1 p3
        obtain ⟨h2, h3, h4, -⟩ := inner_inv f _ _ _ _ (h.put p1 p3) (by omega) he
        exact ⟨h2, h3, by omega, fun _ => by omega⟩
theorem outer_inv {s : Sft} (hs : SftOk s) : ∀ (f : Nat) (come : Nat → Bool) (out l : List Int), OrdI s come out → leftN s come ≤ f → outerN s f come out = some l → ∃ come', OrdI s come' l ∧ leftN s come' = 0
  | 0, come, out, l, h, hf, he => by
    cases he
    exact ⟨come, h, by omega⟩
  | f + 1, come, out, l, h, hf, he => by
    by_cases hst : stopsN s come = []
    · rw [outer_end hst] at he
      cases he
      exact ⟨come, h, (leftN_zero hs).2 hst⟩
    · cases hp : nextN s come with
      | none =>
        have e : outerN s (f + 1) come out = none := by
          show (if stopsN s come = [] then _ else _) = _
          rw [if_neg hst, hp]
        rw [e] at he; cases he
      | some t =>
        have e : outerN s (f + 1) come out = match innerN s t s.n come out with | .none => .none | some r => outerN s f r.1 r.2 := by
          show (if stopsN s come = [] then _ else _) = _
          rw [if_neg hst, hp]
          try rfl
        rw [e] at he
        cases hi : innerN s t s.n come out with
        | none => rw [hi] at he; cases he
        | some r =>
          rw [hi] at he
          obtain ⟨h1, -, -, h4⟩ := inner_inv s.n come out r.1 r.2 h (leftN_le s come) hi
          have := h4 (nextN_some hp).1
          exact outer_inv hs f r.1 r.2 l h1 (by omega) he
/-- What an order is: the moved loops, each once. -/
structure OrdF (s : Sft) (l : List Int) : Prop where
  ok : okL s l
  mem : ∀ i, i < s.n → ((i : Int) ∈ l ↔ movedN s i = true)
  nd : l.Nodup
theorem ordE_has {s : Sft} (h : (ordE s).2 = 0) : sftE s = 0 ∧ outerN s s.n (fun _ => false) [] = some (ordE s).1 := by
  unfold ordE at h ⊢
  by_cases e : sftE s = 0
  · rw [if_neg (by simpa using e)] at h ⊢
    cases ho : outerN s s.n (fun _ => false) [] with
    | none => rw [ho] at h; cases h
    | some l => exact ⟨e, rfl⟩
  · rw [if_pos e] at h
    exact absurd h e
theorem ordE_F {s : Sft} (h : (ordE s).2 = 0) : OrdF s (ordE s).1 := by
  obtain ⟨h0, h1⟩ := ordE_has h
  obtain ⟨come', h2, h3⟩ := outer_inv (sftE_ok h0) s.n _ [] _ (OrdI.new s) (leftN_le s _) h1
  refine ⟨h2.ok, fun i hi => ?_, h2.nd⟩
  rw [h2.mem i hi]
  refine ⟨h2.mv i hi, fun hm => ?_⟩
  unfold leftN at h3
  rw [List.countP_eq_zero] at h3
  have := h3 i (List.mem_range.2 hi)
  cases hc : come' i with
  | true => rfl
  | false => exact absurd (waitN_iff.2 ⟨hm, hc⟩) this
/-! Rows of numbers, sorted. -/
theorem sort_range {L : List Int} {N : Nat} {p : Nat → Bool} (hn : L.Nodup) (hm : ∀ x, x ∈ L ↔ ∃ k : Nat, k < N ∧ x = (k : Int) ∧ p k = true) : sortZ L = ((List.range N).filter p).map fun k : Nat => (k : Int) := by
  have tr : ∀ a b c : Int, decide (a ≤ b) = true → decide (b ≤ c) = true → decide (a ≤ c) = true := fun a b c h1 h2 => by simp only [decide_eq_true_eq] at *; omega
  have tt : ∀ a b : Int, (decide (a ≤ b) || decide (b ≤ a)) = true := fun a b => by simp only [Bool.or_eq_true, decide_eq_true_eq]; omega
  have hR : (((List.range N).filter p).map fun k : Nat => (k : Int)).Nodup := by
    rw [List.Nodup, List.pairwise_map]
    exact (List.nodup_range.filter p).imp fun h e => h (by omega)
  refine List.Perm.eq_of_pairwise (le := fun a b => decide (a ≤ b) = true) (fun a b _ _ h1 h2 => ?_) (List.pairwise_mergeSort tr tt L) ?_ ?_
  · simp only [decide_eq_true_eq] at h1 h2; omega
  · rw [List.pairwise_map]
    exact (List.pairwise_lt_range.filter p).imp fun h => by simp only [decide_eq_true_eq]; omega
  · refine (List.mergeSort_perm L _).trans ((List.perm_ext_iff_of_nodup hn hR).2 fun x => ?_)
    rw [hm, List.mem_map]
    constructor
    · rintro ⟨k, h1, rfl, h2⟩
      exact ⟨k, List.mem_filter.2 ⟨List.mem_range.2 h1, h2⟩, rfl⟩
    · rintro ⟨k, h1, rfl⟩
      obtain ⟨h2, h3⟩ := List.mem_filter.1 h1
      exact ⟨k, List.mem_range.1 h2, rfl, h3⟩
theorem ordF_sorted {s : Sft} {l : List Int} (h : OrdF s l) : sortZ l = (movedL s).map fun k : Nat => (k : Int) := by
  unfold movedL
  refine sort_range h.nd fun x => ⟨fun hx => ?_, ?_⟩
  · obtain ⟨i, rfl, hi⟩ := h.ok x hx
    exact ⟨i, hi, rfl, (h.mem i hi).1 hx⟩
  · rintro ⟨k, hk, rfl, hp⟩
    exact (h.mem k hk).2 hp
/-! What the needles hold. -/
def heldC (s : Sft) (l : List Int) (t : Nat) : List Int :=
  (if t < s.n ∧ s.to_.getD t 0 = (t : Int) ∧ movedN s t = false then [(t : Int)] else []) ++ l.filter fun x => decide (s.to_.getD x.toNat 0 = (t : Int))
def heldN (s : Sft) (l : List Int) (k : Nat) : List (Nat × List Int) := ((List.range k).filter fun t => decide (heldC s l t ≠ [])).map fun t => (t, heldC s l t)
def hldE (s : Sft) : List (Nat × List Int) × Int := if (plndE s).2 ≠ 0 then ([], (plndE s).2) else (heldN s (plndE s).1 101, 0)
theorem heldN_next (s : Sft) (l : List Int) (k : Nat) : heldN s l (k + 1) = heldN s l k ++ if heldC s l k ≠ [] then [(k, heldC s l k)] else [] := by
  unfold heldN
  rw [List.range_succ, List.filter_append, List.map_append]
  congr 1
  by_cases h : heldC s l k ≠ []
  · rw [List.filter_cons_of_pos (by rw [decide_eq_true h]), if_pos h]; rfl
  · rw [List.filter_cons_of_neg (by rw [decide_eq_false h]; simp), if_neg h]; rfl
theorem heldN_len (s : Sft) (l : List Int) (k : Nat) : (heldN s l k).length ≤ k := by
  unfold heldN
  rw [List.length_map]
  have := List.length_filter_le (fun t => decide (heldC s l t ≠ [])) (List.range k)
  rwa [List.length_range] at this
end Go.Proofs.Ytflpikickbellaa
