/- BedLoops, plain: no loop is lost but by OpDrop. -/
import Derived.Test.YtjoglkamhjcmhaaKRunP
import Derived.Test.YtjoglkamhjcmhaaKPn
namespace Go.Proofs.Ytjoglkamhjcmhaa
open Go.RowKit
set_option maxRecDepth 100000

/-- The loops that lie on a needle, or that a later one was drawn through. -/
def seenL (s : BedS) : List Int := heldL s ++ s.made.flatMap (·.parents)
theorem seen_held {s : BedS} {x : Int} (h : x ∈ heldL s) : x ∈ seenL s := List.mem_append_left _ h
theorem seen_par {s : BedS} {x : Int} (h : x ∈ s.made.flatMap (·.parents)) : x ∈ seenL s := List.mem_append_right _ h
/-- From s to t no loop is lost but those of L. -/
def keepQ (s t : BedS) (L : List Int) : Prop := ∀ x ∈ seenL s, x ∈ seenL t ∨ x ∈ L
theorem keepQ.same {s t : BedS} (h : t.hooks = s.hooks) (hm : t.made = s.made) : keepQ s t [] := fun x hx => Or.inl (by
  unfold seenL heldL at hx ⊢
  rw [h, hm]
  exact hx)
theorem keepQ.trans {s t u : BedS} {L : List Int} (h : keepQ s t []) (h2 : keepQ t u L) : keepQ s u L := fun x hx => by
  rcases h x hx with h | h
  · exact h2 x h
  · exact absurd h List.not_mem_nil
theorem knit_keep {u : BedS} {i : Ins} {old : List Int} (hr : risB ltH u.hooks = true) (h0 : ∀ x ∈ heldAt u.hooks i.bed i.at_, x ∈ old) (hz : (knitS u i old).2 = 0) :
    keepQ u (knitS u i old).1 [] ∧ (∀ x ∈ old, x ∈ seenL (knitS u i old).1) ∧ ((u.made.length : Nat) : Int) ∈ seenL (knitS u i old).1 := by
  unfold knitS at hz ⊢
  split at hz
  · simp at hz
  · rename_i hne
    rw [if_neg hne]
    have hold : ∀ x ∈ old, x ∈ seenL { loopS u i old with hooks := putAt u.hooks i.bed i.at_ [(u.made.length : Int)] } := fun x hx => seen_par (by
      show x ∈ (u.made ++ [_]).flatMap Mk.parents
      rw [List.flatMap_append]
      exact List.mem_append_right _ (by simpa using hx))
    refine ⟨fun x hx => Or.inl ?_, hold, seen_held ?_⟩
    · rcases List.mem_append.1 hx with hx | hx
      · rcases List.mem_append.1 ((held_perm hr i.bed i.at_).mem_iff.1 hx) with hx | hx
        · exact hold x (h0 x hx)
        · exact seen_held ((put_perm i.bed i.at_ _).mem_iff.2 (List.mem_append_right _ hx))
      · exact seen_par (by
          show x ∈ (u.made ++ [_]).flatMap Mk.parents
          rw [List.flatMap_append]
          exact List.mem_append_left _ hx)
    · exact (put_perm i.bed i.at_ _).mem_iff.2 (List.mem_append_left _ List.mem_cons_self)
theorem lay_keep {s t : BedS} (hr : risB ltH s.hooks = true) {b n : Int} {l : List Int} (h : layS s b n l = some t) : keepQ s t [] ∧ ∀ x ∈ l, x ∈ seenL t := by
  rw [lay_same h]
  refine ⟨fun x hx => Or.inl ?_, fun x hx => seen_held ((put_perm b n _).mem_iff.2 (List.mem_append_left _ (List.mem_append_right _ hx)))⟩
  rcases List.mem_append.1 hx with hx | hx
  · rcases List.mem_append.1 ((held_perm hr b n).mem_iff.1 hx) with hx | hx
    · exact seen_held ((put_perm b n _).mem_iff.2 (List.mem_append_left _ (List.mem_append_left _ hx)))
    · exact seen_held ((put_perm b n _).mem_iff.2 (List.mem_append_right _ hx))
  · exact seen_par hx
theorem across_keep {s t : BedS} (hr : risB ltH s.hooks = true) {i : Ins} {l : List Int} (h : acrossS s i l = some t) : keepQ s t [] ∧ ∀ x ∈ l, x ∈ seenL t := by
  unfold acrossS at h
  split at h
  · cases h
  · exact lay_keep hr h
theorem take_keep {s : BedS} (hr : risB ltH s.hooks = true) (b n : Int) : keepQ s (takeS s b n) (heldAt s.hooks b n) := fun x hx => by
  rcases List.mem_append.1 hx with hx | hx
  · rcases List.mem_append.1 ((held_perm hr b n).mem_iff.1 hx) with hx | hx
    · exact Or.inr hx
    · exact Or.inl (seen_held (by rw [take_held]; exact hx))
  · exact Or.inl (seen_par hx)
theorem doI_keep {s : BedS} (h : Good s) {i : Ins} (hwi : i.wf) (hi : i.good) (hz : (doI s i).2 = 0) :
    keepQ s (doI s i).1 (if i.op = 9 then heldAt s.hooks i.bed i.at_ else []) ∧ (madeN i = 1 → ((s.made.length : Nat) : Int) ∈ seenL (doI s i).1) := by
  have hwb := hwi.2.2.1
  rcases hi with ⟨ho, h1, h2, h3, h4, h5, hc⟩ | ⟨ho, h1, h2, hc, hb, hn⟩ | ⟨ho, h1, hc, hb, hn, ht⟩ | ⟨ho, h1, h2, h3, hb, hn, ht⟩ | ⟨ho, h1, h2, h3, h4, h5, hr⟩ | ⟨ho, h1, h2, h3, h4, hb, hn⟩
  · rw [if_neg (by omega)]
    have hm : ¬ madeN i = 1 := by unfold madeN; rw [if_neg (by omega)]; decide
    refine ⟨?_, fun e => absurd e hm⟩
    unfold doI at hz ⊢
    rcases ho with ho | ho
    · rw [if_pos ho] at hz ⊢
      split at hz
      · simp at hz
      · rename_i hf
        rw [if_neg hf]
        exact keepQ.same rfl rfl
    · rw [if_neg (by omega), if_pos ho] at hz ⊢
      split at hz
      · rename_i hf
        rw [if_pos hf]
        exact keepQ.same rfl rfl
      · simp at hz
  · rw [if_neg (by omega)]
    have hb' : 0 ≤ i.bed ∧ i.bed ≤ 1 := ⟨hwb, hb⟩
    unfold doI at hz ⊢
    rw [if_neg (by omega), if_neg (by omega), if_neg (by omega), if_neg (by omega), if_neg (by omega)] at hz ⊢
    unfold yarnS at hz ⊢
    cases hp : passS s i with
    | none => rw [hp] at hz; simp at hz
    | some t =>
      have hgt := h.pass hb' hn hc hp
      obtain ⟨e1, e2, e3⟩ := pass_same hp
      have k1 : keepQ s t [] := keepQ.same e1 e3
      rw [hp] at hz
      simp only at hz ⊢
      by_cases h5 : i.op = 5
      · rw [if_pos h5]
        exact ⟨k1, fun e => by unfold madeN at e; rw [if_neg (by omega)] at e; cases e⟩
      · rw [if_neg h5] at hz ⊢
        by_cases h4 : i.op = 4
        · rw [if_pos h4] at hz ⊢
          cases hl : layS t i.bed i.at_ [(t.made.length : Int)] with
          | none => rw [hl] at hz; simp at hz
          | some u =>
            rw [hl] at hz
            simp only at hz ⊢
            split at hz
            · simp at hz
            · rename_i hne
              rw [if_neg hne]
              obtain ⟨l1, l2⟩ := lay_keep hgt.rh hl
              have l3 : ∀ x ∈ seenL u, x ∈ seenL (loopS u i []) := fun x hx => by
                rcases List.mem_append.1 hx with hx | hx
                · exact seen_held hx
                · exact seen_par (by
                    show x ∈ (u.made ++ [_]).flatMap Mk.parents
                    rw [List.flatMap_append]
                    exact List.mem_append_left _ hx)
              refine ⟨(k1.trans l1).trans (fun x hx => Or.inl (l3 x hx)), fun _ => l3 _ (l2 _ (by rw [e3]; exact List.mem_cons_self))⟩
        · rw [if_neg h4, if_neg (by omega)] at hz ⊢
          have h0 : ∀ x ∈ heldAt (takeS t i.bed i.at_).hooks i.bed i.at_, x ∈ heldAt t.hooks i.bed i.at_ := fun x hx => by
            rw [held_take_self] at hx; exact absurd hx List.not_mem_nil
          obtain ⟨g1, g2, g3⟩ := knit_keep (hgt.take hb' hn).rh h0 hz
          refine ⟨k1.trans (fun x hx => ?_), fun _ => ?_⟩
          · rcases take_keep hgt.rh i.bed i.at_ x hx with hx | hx
            · exact g1 x hx
            · exact Or.inl (g2 x hx)
          · rw [← e3]; exact g3
  · rw [if_neg (by omega)]
    have hb' : 0 ≤ i.bed ∧ i.bed ≤ 1 := ⟨hwb, hb⟩
    unfold doI at hz ⊢
    rw [if_neg (by omega), if_neg (by omega), if_neg (by omega), if_neg (by omega), if_neg (by omega)] at hz ⊢
    unfold yarnS at hz ⊢
    cases hp : passS s i with
    | none => rw [hp] at hz; simp at hz
    | some t =>
      have hgt := h.pass hb' hn hc hp
      obtain ⟨e1, e2, e3⟩ := pass_same hp
      have k1 : keepQ s t [] := keepQ.same e1 e3
      rw [hp] at hz
      simp only at hz ⊢
      rw [if_neg (by omega), if_neg (by omega), if_pos ho] at hz ⊢
      cases hl : acrossS (takeS t i.bed i.at_) i (heldAt t.hooks i.bed i.at_) with
      | none => rw [hl] at hz; simp at hz
      | some u =>
        rw [hl] at hz
        simp only at hz ⊢
        have hgk := hgt.take hb' hn
        obtain ⟨a1, a2⟩ := across_keep hgk.rh hl
        have hgu := hgk.across hb' ht (by rw [take_held]; exact hgt.dist.perm (hgt.heldPerm _ _)) hl
        obtain ⟨c1, c2⟩ := across_held hgk.rh hl
        have h0 : ∀ x ∈ heldAt u.hooks i.bed i.at_, x ∈ heldAt t.hooks i.bed i.at_ := fun x hx => by
          rw [c1, held_take_self] at hx; exact absurd hx List.not_mem_nil
        obtain ⟨g1, g2, g3⟩ := knit_keep hgu.rh h0 hz
        refine ⟨k1.trans (fun x hx => ?_), fun _ => ?_⟩
        · rcases take_keep hgt.rh i.bed i.at_ x hx with hx | hx
          · exact (a1.trans g1) x hx
          · exact Or.inl (g2 x hx)
        · rw [c2] at g3
          rw [← e3]; exact g3
  · rw [if_neg (by omega)]
    have hb' : 0 ≤ i.bed ∧ i.bed ≤ 1 := ⟨hwb, hb⟩
    refine ⟨?_, fun e => by unfold madeN at e; rw [if_neg (by omega)] at e; cases e⟩
    unfold doI at hz ⊢
    rw [if_neg (by omega), if_neg (by omega), if_neg (by omega), if_neg (by omega), if_pos ho] at hz ⊢
    cases hl : acrossS (takeS s i.bed i.at_) i (heldAt s.hooks i.bed i.at_) with
    | none => rw [hl] at hz; simp at hz
    | some u =>
      simp only
      obtain ⟨a1, a2⟩ := across_keep (h.take hb' hn).rh hl
      intro x hx
      rcases take_keep h.rh i.bed i.at_ x hx with hx | hx
      · exact a1 x hx
      · exact Or.inl (a2 x hx)
  · rw [if_neg (by omega)]
    refine ⟨?_, fun e => by unfold madeN at e; rw [if_neg (by omega)] at e; cases e⟩
    unfold doI
    rw [if_neg (by omega), if_neg (by omega), if_pos ho]
    exact keepQ.same rfl rfl
  · rw [if_pos ho]
    refine ⟨?_, fun e => by unfold madeN at e; rw [if_neg (by omega)] at e; cases e⟩
    unfold doI
    rw [if_neg (by omega), if_neg (by omega), if_neg (by omega), if_pos ho]
    exact take_keep h.rh i.bed i.at_
/-- How many of the first n loops are lost. -/
def lostN (Q : List Int) (n : Nat) : Nat := ((List.range n).filter fun i => !decide (((i : Nat) : Int) ∈ Q)).length
theorem filter_le {α : Type} (p q : α → Bool) : ∀ (l : List α), (∀ x ∈ l, p x = true → q x = true) → (l.filter p).length ≤ (l.filter q).length
  | [], _ => Nat.le_refl _
  | a :: l, h => by
    have ih := filter_le p q l (fun x hx => h x (List.mem_cons_of_mem _ hx))
    rw [List.filter_cons, List.filter_cons]
    by_cases hp : p a = true
    · rw [if_pos hp, if_pos (h a List.mem_cons_self hp)]; simp only [List.length_cons]; omega
    · rw [if_neg hp]
      split
      · simp only [List.length_cons]; omega
      · exact ih
theorem filter_or {α : Type} (p q : α → Bool) : ∀ (l : List α), (l.filter fun x => p x || q x).length ≤ (l.filter p).length + (l.filter q).length
  | [] => by simp
  | a :: l => by
    have ih := filter_or p q l
    rw [List.filter_cons, List.filter_cons, List.filter_cons]
    cases p a <;> cases q a <;> simp <;> omega
theorem filter_one (n : Nat) (a : Int) : ((List.range n).filter fun i => decide (((i : Nat) : Int) = a)).length ≤ 1 := by
  induction n with
  | zero => simp
  | succ n ih =>
    rw [List.range_succ, List.filter_append, List.length_append]
    by_cases h : ((n : Nat) : Int) = a
    · have : ((List.range n).filter fun i => decide (((i : Nat) : Int) = a)) = [] := List.filter_eq_nil_iff.2 fun x hx => by
        have := List.mem_range.1 hx
        simp; omega
      rw [this]
      simp [List.filter_cons]
      split <;> simp
    · have : [n].filter (fun i => decide (((i : Nat) : Int) = a)) = [] := by simp [h]
      rw [this]
      simpa using ih
theorem filter_mem (n : Nat) : ∀ (L : List Int), ((List.range n).filter fun i => decide (((i : Nat) : Int) ∈ L)).length ≤ L.length
  | [] => by simp
  | a :: L => by
    have ih := filter_mem n L
    have h1 := filter_one n a
    have h2 := filter_or (fun i => decide (((i : Nat) : Int) = a)) (fun i => decide (((i : Nat) : Int) ∈ L)) (List.range n)
    have e : ((List.range n).filter fun i => decide (((i : Nat) : Int) ∈ a :: L)) = (List.range n).filter fun i => decide (((i : Nat) : Int) = a) || decide (((i : Nat) : Int) ∈ L) := by
      congr 1
      funext i
      rw [Bool.eq_iff_iff]
      simp
    rw [e]
    simp only [List.length_cons]
    omega
def dropN (l : List Ins) : Nat := (l.filter fun i => decide (i.op = 9)).length
theorem lost_step {s : BedS} (h : Good s) {i : Ins} (hwi : i.wf) (hi : i.good) (hz : (doI s i).2 = 0) :
    lostN (seenL (doI s i).1) (doI s i).1.made.length ≤ lostN (seenL s) s.made.length + (if i.op = 9 then 6 else 0) := by
  obtain ⟨-, l, em, el⟩ := doI_good h hwi hi hz
  obtain ⟨hk, hn⟩ := doI_keep h hwi hi hz
  have hlen : (doI s i).1.made.length = s.made.length + madeN i := by rw [em, List.length_append, el]
  have hfew : ((List.range s.made.length).filter fun j => !decide (((j : Nat) : Int) ∈ seenL (doI s i).1)).length ≤ lostN (seenL s) s.made.length + (if i.op = 9 then 6 else 0) := by
    have h1 := filter_le (fun j : Nat => !decide (((j : Nat) : Int) ∈ seenL (doI s i).1)) (fun j : Nat => !decide (((j : Nat) : Int) ∈ seenL s) || decide (((j : Nat) : Int) ∈ (if i.op = 9 then heldAt s.hooks i.bed i.at_ else []))) (List.range s.made.length) (fun j _ hj => by
      simp only [Bool.not_eq_true', decide_eq_false_iff_not, Bool.or_eq_true, decide_eq_true_eq] at hj ⊢
      by_cases hm : ((j : Nat) : Int) ∈ seenL s
      · rcases hk _ hm with h | h
        · exact absurd h hj
        · exact Or.inr h
      · exact Or.inl hm)
    have h2 := filter_or (fun j : Nat => !decide (((j : Nat) : Int) ∈ seenL s)) (fun j : Nat => decide (((j : Nat) : Int) ∈ (if i.op = 9 then heldAt s.hooks i.bed i.at_ else []))) (List.range s.made.length)
    have h3 := filter_mem s.made.length (if i.op = 9 then heldAt s.hooks i.bed i.at_ else [])
    have h4 : (if i.op = 9 then heldAt s.hooks i.bed i.at_ else []).length ≤ (if i.op = 9 then 6 else 0) := by
      split
      · exact h.heldLen _ _
      · simp
    unfold lostN
    omega
  have hm : madeN i = 0 ∨ madeN i = 1 := by unfold madeN; split <;> simp
  rcases hm with e | e
  · rw [hlen, e, Nat.add_zero]; exact hfew
  · rw [hlen, e]
    unfold lostN
    rw [List.range_succ, List.filter_append, List.length_append]
    have e2 : ([s.made.length].filter fun j => !decide (((j : Nat) : Int) ∈ seenL (doI s i).1)) = [] := by
      simp [hn e]
    rw [e2, List.length_nil, Nat.add_zero]
    exact hfew
theorem lost_run : ∀ (l : List Ins) (s : BedS) (k : Nat), Good s → (∀ i ∈ l, i.wf) → (runI s k l).2.2 = 0 → lostN (seenL (runI s k l).1) (runI s k l).1.made.length ≤ lostN (seenL s) s.made.length + 6 * dropN l
  | [], s, k, _, _, _ => by simp [runI]
  | i :: l, s, k, h, hw, hz => by
    by_cases h1 : i.err = 0
    · by_cases h2 : (doI s i).2 = 0
      · rw [runI_go k _ h1 h2] at hz ⊢
        have hg := doI_good h (hw i List.mem_cons_self) (Ins.good_err h1) h2
        have h3 := lost_run l _ (k + 1) hg.1 (fun x hx => hw x (List.mem_cons_of_mem _ hx)) hz
        have h4 := lost_step h (hw i List.mem_cons_self) (Ins.good_err h1) h2
        have h5 : dropN (i :: l) = (if i.op = 9 then 1 else 0) + dropN l := by
          unfold dropN
          rw [List.filter_cons]
          by_cases ho : i.op = 9
          · simp [ho]; omega
          · simp [ho]
        rw [h5]
        by_cases ho : i.op = 9
        · rw [if_pos ho] at h4 ⊢; omega
        · rw [if_neg ho] at h4 ⊢; omega
      · rw [runI_no2 k _ h1 h2] at hz; exact absurd hz h2
    · rw [runI_no1 s k _ h1] at hz; exact absurd hz h1
theorem good0 : Good bed0 := Good.of (by kernel_rfl) ⟨fun _ h => absurd h List.not_mem_nil, fun _ h => absurd h List.not_mem_nil⟩
theorem lost_all {l : List Ins} (hl : l.length ≤ 300) (hw : ∀ i ∈ l, i.wf) (hz : (runS bed0 l).2.2 = 0) :
    Good (runS bed0 l).1 ∧ (runS bed0 l).1.made.length ≤ 300 ∧ lostN (seenL (runS bed0 l).1) (runS bed0 l).1.made.length ≤ 6 * dropN l := by
  rw [runS_ok good0.err (by omega)] at hz ⊢
  obtain ⟨g1, g2⟩ := runI_good l bed0 0 good0 hw hz
  have h := lost_run l bed0 0 good0 hw hz
  have e : lostN (seenL bed0) bed0.made.length = 0 := rfl
  rw [e] at h
  exact ⟨g1, by have : bed0.made.length = 0 := rfl; omega, by omega⟩
end Go.Proofs.Ytjoglkamhjcmhaa
