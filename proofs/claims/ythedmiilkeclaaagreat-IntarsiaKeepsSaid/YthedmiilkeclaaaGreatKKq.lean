/- Layer 34, plain: the loops that a run of a program makes are its knits and tucks, in order. -/
import Derived.Test.YthedmiilkeclaaaGreatKSq
namespace Go.Proofs.YthedmiilkeclaaaGreat
open Go.RowKit
open Go.Proofs.YthedmiilkeclaaaGreat.I34
set_option maxRecDepth 100000

def mkI (i : Ins) : Int × Int := (i.car, i.at_)
def mkM (m : Mk) : Int × Int := (m.car, m.at_)
def mkB (i : Ins) : Bool := decide (i.op = 3) || decide (i.op = 4)
theorem passS_made {s t : BedS} {i : Ins} (h : passS s i = some t) : t.made = s.made := by
  unfold passS at h
  split at h
  · cases h
  · split at h
    · cases h
    · cases h; rfl
theorem layS_made {s t : BedS} {b n : Int} {l : List Int} (h : layS s b n l = some t) : t.made = s.made := by
  unfold layS at h
  split at h
  · cases h
  · cases h; rfl
theorem knitS_made {s : BedS} {i : Ins} {old : List Int} (h : (knitS s i old).2 = 0) : (knitS s i old).1.made = s.made ++ [⟨old, i.bed, i.at_, i.car⟩] := by
  unfold knitS at h ⊢
  split
  · rename_i hc; rw [if_pos hc] at h; cases h
  · rfl
theorem doI_made {s : BedS} {i : Ins} (ho : i.op = 1 ∨ i.op = 3 ∨ i.op = 4 ∨ i.op = 5) (h : (doI s i).2 = 0) : (doI s i).1.made.map mkM = s.made.map mkM ++ if mkB i then [mkI i] else [] := by
  have hy : i.op = 3 ∨ i.op = 4 ∨ i.op = 5 → doI s i = yarnS s i := fun hy => by
    unfold doI
    rw [if_neg (by omega), if_neg (by omega), if_neg (by omega), if_neg (by omega), if_neg (by omega)]
  rcases ho with h1 | ho
  · have e : mkB i = false := by unfold mkB; rw [h1]; rfl
    rw [e]
    unfold doI at h ⊢
    rw [if_pos h1] at h ⊢
    split
    · rename_i hc; rw [if_pos hc] at h; cases h
    · simp
  · rw [hy ho] at h ⊢
    unfold yarnS at h ⊢
    cases hp : passS s i with
    | none => rw [hp] at h; cases h
    | some t =>
      rw [hp] at h
      simp only at h ⊢
      have hm := passS_made hp
      rcases ho with h3 | h4 | h5
      · have e : mkB i = true := by unfold mkB; rw [h3]; rfl
        rw [if_neg (by omega), if_neg (by omega), if_neg (by omega)] at h ⊢
        rw [knitS_made h, e, List.map_append]
        show (takeS t i.bed i.at_).made.map mkM ++ _ = _
        have : (takeS t i.bed i.at_).made = s.made := hm
        rw [this]
        rfl
      · have e : mkB i = true := by unfold mkB; rw [h4]; rfl
        rw [if_neg (by omega), if_pos h4] at h ⊢
        cases hl : layS t i.bed i.at_ [(t.made.length : Int)] with
        | none => rw [hl] at h; cases h
        | some u =>
          rw [hl] at h
          simp only at h ⊢
          have hu := layS_made hl
          split
          · rename_i hc; rw [if_pos hc] at h; cases h
          · show (u.made ++ [_]).map mkM = _
            rw [hu, hm, List.map_append]
            rfl
      · have e : mkB i = false := by unfold mkB; rw [h5]; rfl
        rw [if_pos h5, e, if_neg (by decide), List.append_nil]
        show t.made.map mkM = _
        rw [hm]
theorem runI_made : ∀ (l : List Ins) (s : BedS) (k : Nat), (∀ i ∈ l, i.op = 1 ∨ i.op = 3 ∨ i.op = 4 ∨ i.op = 5) → (runI s k l).2.2 = 0 → (∀ i ∈ l, i.err = 0) ∧ (runI s k l).2.1 = ((k + l.length : Nat) : Int) ∧ (runI s k l).1.made.map mkM = s.made.map mkM ++ (l.filter mkB).map mkI
  | [], s, k, _, _ => ⟨fun i hi => absurd hi List.not_mem_nil, rfl, by simp [runI]⟩
  | i :: l, s, k, ho, h => by
    have e : runI s k (i :: l) = if i.err ≠ 0 then (bed0, (k : Int), i.err) else if (doI s i).2 ≠ 0 then (bed0, (k : Int), (doI s i).2) else runI (doI s i).1 (k + 1) l := rfl
    by_cases h1 : i.err = 0
    · by_cases h2 : (doI s i).2 = 0
      · rw [e, if_neg (by simpa using h1), if_neg (by simpa using h2)] at h ⊢
        obtain ⟨a, b, c⟩ := runI_made l (doI s i).1 (k + 1) (fun x hx => ho x (List.mem_cons_of_mem _ hx)) h
        refine ⟨fun x hx => ?_, ?_, ?_⟩
        · rcases List.mem_cons.1 hx with rfl | hx
          · exact h1
          · exact a x hx
        · rw [b]; simp only [List.length_cons]; omega
        · rw [c, doI_made (ho i List.mem_cons_self) h2, List.append_assoc]
          congr 1
          cases hb : mkB i with
          | true => rw [List.filter_cons_of_pos hb]; rfl
          | false => rw [List.filter_cons_of_neg (by rw [hb]; decide)]; rfl
      · rw [e, if_neg (by simpa using h1), if_pos h2] at h; exact absurd h h2
    · rw [e, if_pos h1] at h; exact absurd h h1
theorem filt_at {α : Type} {P : α → Bool} {l : List α} {i : Nat} {x : α} (h : l[i]? = some x) (hp : P x = true) : (l.filter P)[((l.take i).filter P).length]? = some x := by
  obtain ⟨hl, e⟩ := List.getElem?_eq_some_iff.1 h
  have e2 : l.filter P = (l.take i).filter P ++ (l.drop i).filter P := by rw [← List.filter_append, List.take_append_drop]
  rw [e2, List.getElem?_append_right (Nat.le_refl _), Nat.sub_self, List.drop_eq_getElem_cons hl, e, List.filter_cons_of_pos hp]
  rfl
theorem progI_ops {p : List (List Int)} {lim : Nat} {i : Ins} (h : i ∈ progI p lim) : i.op = 1 ∨ i.op = 3 ∨ i.op = 4 ∨ i.op = 5 := by
  rcases progI_mem h with ⟨c, -, rfl⟩ | ⟨t, row, c, right, k, -, -, -, rfl⟩
  · exact Or.inl rfl
  · exact Or.inr (opQ_vals row c _ k)
theorem bed0_err : bedE bed0 = 0 := by decide +kernel
/-- What a run of the program makes. -/
theorem prog_made {p : List (List Int)} {lim : Nat} (hl : (progI p lim).length ≤ 2000) (h : (runS bed0 (progI p lim)).2.2 = 0) : (∀ i ∈ progI p lim, i.err = 0) ∧ (runS bed0 (progI p lim)).2.1 = ((progI p lim).length : Int) ∧ (runS bed0 (progI p lim)).1.made.map mkM = ((progI p lim).filter mkB).map mkI := by
  have e : runS bed0 (progI p lim) = runI bed0 0 (progI p lim) := by unfold runS; rw [if_neg (by rw [bed0_err]; decide), if_neg (by omega)]
  rw [e] at h ⊢
  obtain ⟨a, b, c⟩ := runI_made (progI p lim) bed0 0 (fun i hi => progI_ops hi) h
  rw [Nat.zero_add] at b
  exact ⟨a, b, c⟩
theorem made_at {S : List Mk} {L : List Ins} (h : S.map mkM = (L.filter mkB).map mkI) {i : Nat} {x : Ins} (hx : L[i]? = some x) (hb : mkB x = true) : ∃ m, S[((L.take i).filter mkB).length]? = some m ∧ m.car = x.car ∧ m.at_ = x.at_ := by
  have h1 := filt_at (P := mkB) hx hb
  have h2 : (S.map mkM)[((L.take i).filter mkB).length]? = some (mkI x) := by rw [h, List.getElem?_map, h1]; rfl
  rw [List.getElem?_map] at h2
  obtain ⟨m, hm, he⟩ := Option.map_eq_some_iff.1 h2
  exact ⟨m, hm, congrArg Prod.fst he, congrArg Prod.snd he⟩
theorem made_len {S : List Mk} {L : List Ins} (h : S.map mkM = (L.filter mkB).map mkI) : S.length = (L.filter mkB).length := by
  have := congrArg List.length h
  simpa using this
end Go.Proofs.YthedmiilkeclaaaGreat
