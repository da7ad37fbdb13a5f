/- Layer 31, plain: the longest pass is the longest beginning that the reference calls a pass. -/
import Derived.Test.YtbnddpknejgmhaaRef3
namespace Go.Proofs.Ytbnddpknejgmhaa
open Go.RowKit
set_option maxRecDepth 100000

theorem getD_elem (l : List Ins) {k : Nat} (hk : k < l.length) : l.getD k ins0 = l[k] := by rw [List.getD, List.getElem?_eq_getElem hk]; rfl
theorem growU_eq (a : Ins) (U : List Hook) (i : Ins) : growU a U i = (hooks i).reverse ++ U := by
  unfold growU
  split
  · next h => rw [hooks_nil (Bool.and_eq_true_iff.1 h).2]; rfl
  · rfl
theorem groupI_1 {i : Ins} : groupI i = 1 ↔ yarnB i = true := by
  unfold groupI yarnB
  rw [decide_eq_true_iff]
  split
  · simp [*]
  · split
    · simp [*]
    · split <;> simp [*]
theorem groupI_2 {i : Ins} : groupI i = 2 ↔ i.op = 7 := by
  unfold groupI
  split
  · constructor <;> intro h <;> omega
  · split
    · simp [*]
    · split <;> simp [*]
theorem groupI_3 {i : Ins} : groupI i = 3 ↔ i.op = 9 := by
  unfold groupI
  split
  · constructor <;> intro h <;> omega
  · split
    · constructor <;> intro h <;> omega
    · split <;> simp [*]
theorem groupI_mem (i : Ins) : groupI i = 0 ∨ groupI i = 1 ∨ groupI i = 2 ∨ groupI i = 3 := by
  unfold groupI
  repeat' split
  all_goals simp
theorem groupI_0 {i : Ins} (h : groupI i = 0) : yarnB i = false ∧ i.op ≠ 7 ∧ i.op ≠ 9 := by
  refine ⟨?_, fun e => ?_, fun e => ?_⟩
  · cases hy : yarnB i with
    | false => rfl
    | true => rw [groupI_1.2 hy] at h; cases h
  · rw [groupI_2.2 e] at h; cases h
  · rw [groupI_3.2 e] at h; cases h

/-- Two instructions of one kind name the same needle exactly if they share a hook. -/
theorem names_hooks {a b : Ins} (ha : a.fit) (hb : b.fit) (h : (a.op = 7 ∧ b.op = 7) ∨ (a.op = 9 ∧ b.op = 9)) : namesB a b = (hooks b).any fun u => decide (u ∈ hooks a) := by
  obtain ⟨_, _, a1, a2, _⟩ := ha
  obtain ⟨_, _, b1, b2, _⟩ := hb
  unfold namesB
  rw [Bool.eq_iff_iff, decide_eq_true_iff]
  rcases h with ⟨h1, h2⟩ | ⟨h1, h2⟩
  · have e1 : hooks a = [(a.bed, a.at_), (1 - a.bed, a.to_)] := by unfold hooks; rw [if_pos h1]
    have e2 : hooks b = [(b.bed, b.at_), (1 - b.bed, b.to_)] := by unfold hooks; rw [if_pos h2]
    rw [e1, e2]
    simp only [List.any_cons, List.any_nil, List.mem_cons, List.not_mem_nil, or_false, Bool.or_false, Bool.or_eq_true, decide_eq_true_iff, Prod.mk.injEq]
    omega
  · have e1 : hooks a = [(a.bed, a.at_)] := by unfold hooks; rw [if_neg (by omega), if_pos h1]
    have e2 : hooks b = [(b.bed, b.at_)] := by unfold hooks; rw [if_neg (by omega), if_pos h2]
    rw [e1, e2]
    simp only [List.any_cons, List.any_nil, List.mem_cons, List.not_mem_nil, or_false, Bool.or_false, decide_eq_true_iff, Prod.mk.injEq]
    omega

/-- One step of the program's pass is one step of the reference's. -/
theorem grow_stepR {rack : Int} {l : List Ins} (hf : ∀ i ∈ l, i.fit) {k : Nat} (hk : k < l.length) {U : List Hook} (hg : groupI (l.getD 0 ins0) ≠ 0)
    (hU : ∀ u, u ∈ U ↔ ∃ j, j < k ∧ u ∈ hooks (l.getD j ins0)) (hp : ∀ j, j < k → groupI (l.getD j ins0) = groupI (l.getD 0 ins0)) :
    growB rack (l.getD 0 ins0) (l.getD (k - 1) ins0) U (l.getD k ins0) = stepR rack l k := by
  have hfit : ∀ j, j < l.length → (l.getD j ins0).fit := fun j hj => by
    rw [getD_elem l hj]; exact hf _ (List.getElem_mem hj)
  have hfx := hfit k hk
  unfold growB stepR
  generalize hx : l.getD k ins0 = x at *
  generalize ha : l.getD 0 ins0 = a at *
  generalize hpp : l.getD (k - 1) ins0 = p at *
  by_cases ga : groupI a = 1
  · have ya := groupI_1.1 ga
    rw [if_pos ga, ya, Bool.true_and]
    by_cases gx : groupI x = 1
    · rw [if_pos (groupI_1.1 gx), gx, ga, decide_eq_true rfl, Bool.true_and]
      unfold wayR wayB
      by_cases hr : x.right = a.right
      · rw [hr]
        cases a.right with
        | true => simp only [if_true]; congr 1; rw [decide_eq_decide]; omega
        | false => simp only [Bool.false_eq_true, if_false]; congr 1; rw [decide_eq_decide]; omega
      · rw [decide_eq_false hr]; simp
    · have hne : ¬ groupI x = groupI a := by rw [ga]; exact gx
      have yx : ¬ yarnB x = true := fun h => gx (groupI_1.2 h)
      rw [if_neg yx, decide_eq_false hne, Bool.false_and, if_neg ?_]
      rintro ⟨h, h2⟩
      have : yarnB x = true := by unfold yarnB at ya ⊢; rw [← h]; exact ya
      exact yx this
  · have ya : yarnB a = false := by
      cases hy : yarnB a with
      | false => rfl
      | true => exact absurd (groupI_1.2 hy) ga
    rw [ya, Bool.false_and, if_neg (by simp), if_neg ga]
    have hop : a.op = 7 ∨ a.op = 9 := by
      rcases groupI_mem a with h | h | h | h
      · exact absurd h hg
      · exact absurd h ga
      · exact Or.inl (groupI_2.1 h)
      · exact Or.inr (groupI_3.1 h)
    by_cases hax : a.op = x.op
    · have gx : groupI x = groupI a := by
        rcases hop with h | h
        · rw [groupI_2.2 h, groupI_2.2 (hax ▸ h)]
        · rw [groupI_3.2 h, groupI_3.2 (hax ▸ h)]
      rw [if_pos ⟨hax, hop⟩, decide_eq_true gx, Bool.true_and]
      have hj : ∀ j, j < k → namesB (l.getD j ins0) x = (hooks x).any fun u => decide (u ∈ hooks (l.getD j ins0)) := fun j hj => by
        refine names_hooks (hfit j (by omega)) hfx ?_
        have hgj := hp j hj
        rcases hop with h | h
        · rw [groupI_2.2 h] at hgj
          exact Or.inl ⟨groupI_2.1 hgj, by omega⟩
        · rw [groupI_3.2 h] at hgj
          exact Or.inr ⟨groupI_3.1 hgj, by omega⟩
      rw [Bool.eq_iff_iff, Bool.not_eq_true', List.any_eq_false, List.all_eq_true]
      constructor
      · intro h j hjm
        have hjk := List.mem_range.1 hjm
        rw [hj j hjk, Bool.not_eq_true', List.any_eq_false]
        intro u hu hd
        exact h u hu (decide_eq_true ((hU u).2 ⟨j, hjk, of_decide_eq_true hd⟩))
      · intro h u hu hd
        obtain ⟨j, hjk, hm⟩ := (hU u).1 (of_decide_eq_true hd)
        have := h j (List.mem_range.2 hjk)
        rw [hj j hjk, Bool.not_eq_true', List.any_eq_false] at this
        exact this u hu (decide_eq_true hm)
    · rw [if_neg (fun h => hax h.1), decide_eq_false, Bool.false_and]
      intro gx
      rcases hop with h | h
      · rw [groupI_2.2 h] at gx; exact hax (by rw [h, groupI_2.1 gx])
      · rw [groupI_3.2 h] at gx; exact hax (by rw [h, groupI_3.1 gx])
theorem step_group {rack : Int} {l : List Ins} {k : Nat} (h : stepR rack l k = true) : groupI (l.getD k ins0) = groupI (l.getD 0 ins0) := by
  unfold stepR at h
  exact of_decide_eq_true (Bool.and_eq_true_iff.1 h).1
theorem getD_drop {l : List Ins} {k : Nat} (hk : k < l.length) : l.drop k = l.getD k ins0 :: l.drop (k + 1) := by
  rw [getD_elem l hk]
  exact List.drop_eq_getElem_cons hk

/-- How far the program's pass goes. -/
theorem run_far {rack : Int} {l : List Ins} (hf : ∀ i ∈ l, i.fit) (hg : groupI (l.getD 0 ins0) ≠ 0) : ∀ (m k : Nat) (U : List Hook), l.length - k = m → 1 ≤ k → k ≤ l.length →
    (∀ u, u ∈ U ↔ ∃ j, j < k ∧ u ∈ hooks (l.getD j ins0)) → (∀ j, 1 ≤ j → j < k → stepR rack l j = true) →
    (∀ j, 1 ≤ j → j < k + growRun rack (l.getD 0 ins0) (l.getD (k - 1) ins0) U (l.drop k) → stepR rack l j = true) ∧
    (k + growRun rack (l.getD 0 ins0) (l.getD (k - 1) ins0) U (l.drop k) < l.length → stepR rack l (k + growRun rack (l.getD 0 ins0) (l.getD (k - 1) ins0) U (l.drop k)) = false)
  | 0, k, U, hm, h1, hk, hU, hs => by
    rw [List.drop_of_length_le (by omega)]
    simp only [growRun]
    exact ⟨fun j a b => hs j a (by omega), fun h => by omega⟩
  | m + 1, k, U, hm, h1, hk, hU, hs => by
    have hlt : k < l.length := by omega
    have hst := grow_stepR (rack := rack) hf hlt hg hU (fun j hj => by
      by_cases e : j = 0
      · rw [e]
      · exact step_group (hs j (by omega) hj))
    rw [getD_drop hlt]
    simp only [growRun]
    rw [hst]
    cases hb : stepR rack l k with
    | false =>
      rw [if_neg (by simp)]
      exact ⟨fun j a b => hs j a (by omega), fun _ => hb⟩
    | true =>
      rw [if_pos rfl]
      have ih := run_far hf hg m (k + 1) (growU (l.getD 0 ins0) U (l.getD k ins0)) (by omega) (by omega) (by omega) (fun u => by
        rw [growU_eq, List.mem_append, List.mem_reverse, hU u]
        constructor
        · rintro (h | ⟨j, hj, h⟩)
          · exact ⟨k, by omega, h⟩
          · exact ⟨j, by omega, h⟩
        · rintro ⟨j, hj, h⟩
          by_cases e : j = k
          · exact Or.inl (e ▸ h)
          · exact Or.inr ⟨j, by omega, h⟩) (fun j a b => by
        by_cases e : j = k
        · rw [e]; exact hb
        · exact hs j a (by omega))
      rw [show k + 1 - 1 = k by omega] at ih
      exact ⟨fun j a b => ih.1 j a (by omega), fun h => by
        have := ih.2 (by omega)
        rw [← this]; congr 1; omega⟩
theorem lonF_far {rack : Int} {l : List Ins} (hf : ∀ i ∈ l, i.fit) (hg : groupI (l.getD 0 ins0) ≠ 0) (hp : 0 < l.length) :
    (∀ j, 1 ≤ j → j < lonF rack l → stepR rack l j = true) ∧ (lonF rack l < l.length → stepR rack l (lonF rack l) = false) := by
  have h := run_far (rack := rack) hf hg _ 1 (hooks (l.getD 0 ins0)).reverse rfl (Nat.le_refl _) (by omega) (fun u => by
    rw [List.mem_reverse]
    constructor
    · intro h; exact ⟨0, by omega, h⟩
    · rintro ⟨j, hj, h⟩
      obtain rfl : j = 0 := by omega
      exact h) (fun j a b => by omega)
  cases l with
  | nil => simp at hp
  | cons i t =>
    rw [show lonF rack (i :: t) = 1 + growRun rack i i (hooks i).reverse t by simp only [lonF]; omega]
    exact h
theorem lonF_zero {rack : Int} {l : List Ins} (hg : groupI (l.getD 0 ins0) = 0) (hp : 0 < l.length) : lonF rack l = 1 := by
  cases l with
  | nil => simp at hp
  | cons i t =>
    have hg' : groupI i = 0 := hg
    obtain ⟨h1, h2, h3⟩ := groupI_0 hg'
    simp only [lonF]
    cases t with
    | nil => rfl
    | cons x t =>
      simp only [growRun]
      rw [if_neg]
      unfold growB
      rw [h1, Bool.false_and, if_neg (by simp), if_neg (by omega)]
      simp
theorem take_getD {l : List Ins} {m j : Nat} (h : j < m) : (l.take m).getD j ins0 = l.getD j ins0 := by
  rw [List.getD, List.getD, List.getElem?_take, if_pos h]
theorem step_take {rack : Int} {l : List Ins} {m j : Nat} (h : j < m) : stepR rack (l.take m) j = stepR rack l j := by
  unfold stepR
  rw [take_getD h, take_getD (j := 0) (by omega), take_getD (j := j - 1) (by omega)]
  congr 1
  split
  · rfl
  · rw [Bool.eq_iff_iff, List.all_eq_true, List.all_eq_true]
    constructor <;> intro g k hk <;> have := g k hk <;> rw [List.mem_range] at hk
    · rwa [take_getD (by omega)] at this
    · rwa [take_getD (by omega)]
/-- A beginning is a pass exactly if it is no longer than the longest one. -/
theorem pass_take {rack : Int} {l : List Ins} (hf : ∀ i ∈ l, i.fit) {m : Nat} (h1 : 1 ≤ m) (hm : m ≤ l.length) : passR rack (l.take m) = decide (m ≤ lonF rack l) := by
  have hl : (l.take m).length = m := by rw [List.length_take]; omega
  have h0 : (l.take m).getD 0 ins0 = l.getD 0 ins0 := take_getD (by omega)
  by_cases hg : groupI (l.getD 0 ins0) = 0
  · rw [lonF_zero hg (by omega)]
    by_cases e : m = 1
    · subst e
      rw [passR_true (by omega) (by omega) (fun k a b => by omega)]; rfl
    · rw [decide_eq_false (by omega)]
      unfold passR
      rw [h0, hg, hl, decide_eq_true rfl, decide_eq_true (p := 1 < m) (by omega)]
      simp
  · obtain ⟨f1, f2⟩ := lonF_far (rack := rack) hf hg (by omega)
    by_cases hle : m ≤ lonF rack l
    · rw [decide_eq_true hle]
      exact passR_true (by omega) (by rw [h0]; exact fun h => hg h.1) fun k a b => by rw [step_take (by omega)]; exact f1 k a (by omega)
    · rw [decide_eq_false hle]
      have := lonF_pos rack (l := l) (by omega)
      exact passR_false (k := lonF rack l) (by omega) this (by rw [step_take (by omega)]; exact f2 (by omega))
theorem pass_lon {rack : Int} {l : List Ins} (hf : ∀ i ∈ l, i.fit) : passR rack l = (decide (0 < l.length) && decide (lonF rack l = l.length)) := by
  by_cases h : 0 < l.length
  · have := pass_take (rack := rack) hf (m := l.length) (by omega) (Nat.le_refl _)
    rw [List.take_length] at this
    rw [this, decide_eq_true h, Bool.true_and, decide_eq_decide]
    have := lonF_le rack l
    omega
  · rw [decide_eq_false h, Bool.false_and]
    unfold passR
    rw [decide_eq_false h, Bool.false_and, Bool.false_and]
/-- The racking behind a pass. -/
theorem after_pass {rack : Int} {l : List Ins} (hf : ∀ i ∈ l, i.fit) {m : Nat} (h1 : 1 ≤ m) (hm : m ≤ lonF rack l) : afterI rack (l.take m) = rackedI rack (l.getD (m - 1) ins0) := by
  have hlen := lonF_le rack l
  by_cases e : m = 1
  · subst e
    cases l with
    | nil => simp [lonF] at hlen; simp [lonF] at hm
    | cons i t => rfl
  have hg : groupI (l.getD 0 ins0) ≠ 0 := fun h => by rw [lonF_zero h (by omega)] at hm; omega
  obtain ⟨f1, -⟩ := lonF_far (rack := rack) hf hg (by omega)
  have h8 : ∀ j, j < m → (l.getD j ins0).op ≠ 8 := fun j hj h => by
    have gj : groupI (l.getD j ins0) = groupI (l.getD 0 ins0) := by
      by_cases e0 : j = 0
      · rw [e0]
      · exact step_group (f1 j (by omega) (by omega))
    have : groupI (l.getD j ins0) = 0 := by unfold groupI; rw [h]; rfl
    exact hg (by rw [← gj, this])
  have hall : ∀ (t : List Ins) (r : Int), (∀ i ∈ t, i.op ≠ 8) → afterI r t = r := by
    intro t
    induction t with
    | nil => intro r _; rfl
    | cons i t ih =>
      intro r h
      have : rackedI r i = r := by unfold rackedI; rw [if_neg (h i (List.mem_cons_self))]
      show afterI (rackedI r i) t = r
      rw [this]
      exact ih r fun j hj => h j (List.mem_cons_of_mem _ hj)
  rw [hall _ _ ?_]
  · unfold rackedI; rw [if_neg (h8 (m - 1) (by omega))]
  · intro i hi
    obtain ⟨j, hj, e⟩ := List.mem_iff_getElem.1 hi
    rw [List.length_take] at hj
    have := h8 j (by omega)
    rw [List.getElem_take] at e
    rw [getD_elem l (by omega), e] at this
    exact this
end Go.Proofs.Ytbnddpknejgmhaa
