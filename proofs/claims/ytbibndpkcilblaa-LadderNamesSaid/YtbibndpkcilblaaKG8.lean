/- Layer 28, plain: the loops of a chart lie in rows, each one out of the row before. Layer 28, plain: what runs, what hangs, what ends. Layer 28, plain: the program's ways: run row by row; hangs; depths. Layer 28, plain: sorted and compact; the loops below; what a map of marks says. -/
import Derived.Test.YtbibndpkcilblaaKG7
import Derived.Test.YtbibndpkcilblaaKG1
import Derived.Lib.SlicesCompact
namespace Go.Proofs.Ytbibndpkcilblaa
open Go.RowKit
set_option maxRecDepth 100000

theorem usedN_mem' {a n : Nat} {x : Int} : x ∈ usedN a n ↔ (a : Int) ≤ x ∧ x < ((a + n : Nat) : Int) := by
  unfold usedN
  rw [List.mem_map]
  constructor
  · rintro ⟨i, hi, rfl⟩
    have := List.mem_range.1 hi
    omega
  · intro h
    exact ⟨(x - a).toNat, List.mem_range.2 (by omega), by omega⟩
theorem usedN_nodup (a n : Nat) : (usedN a n).Nodup := by
  unfold usedN
  rw [List.Nodup, List.pairwise_map]
  exact List.nodup_range.imp fun h e => h (by omega)
/-- What a cell's new loops are. -/
theorem newsL_fact (s : Stc) (row k : Int) (a : Nat) (lp : List Lp) : ∀ x ∈ newsL row k s (usedN a (usesS s).toNat) lp, x.row = row ∧ x.par.Nodup ∧ ∀ p ∈ x.par, (a : Int) ≤ p ∧ p < ((a + (usesS s).toNat : Nat) : Int) := fun x hx => by
  have hu : ∀ p ∈ usedN a (usesS s).toNat, (a : Int) ≤ p ∧ p < ((a + (usesS s).toNat : Nat) : Int) := fun p hp => usedN_mem'.1 hp
  unfold newsL at hx
  split at hx
  · rw [(List.mem_replicate.1 hx).2]; exact ⟨rfl, usedN_nodup _ _, hu⟩
  split at hx
  · rw [(List.mem_replicate.1 hx).2]; exact ⟨rfl, List.Pairwise.nil, fun p hp => by cases hp⟩
  split at hx
  · obtain ⟨y, hy, rfl⟩ := List.mem_map.1 hx
    refine ⟨rfl, List.pairwise_singleton _ _, fun p hp => ?_⟩
    rw [List.mem_singleton.1 hp]
    rcases List.mem_append.1 hy with h1 | h1
    · exact hu y (List.mem_of_mem_drop h1)
    · exact hu y (List.mem_of_mem_take h1)
  split at hx
  · cases hx
  split at hx
  · rw [List.mem_singleton.1 hx]
    exact ⟨rfl, (List.pairwise_reverse.2 ((usedN_nodup _ _).imp fun h => Ne.symm h)), fun p hp => hu p (List.mem_reverse.1 hp)⟩
  split at hx
  · rw [List.mem_singleton.1 hx]; exact ⟨rfl, usedN_nodup _ _, hu⟩
  · rw [List.mem_singleton.1 hx]; exact ⟨rfl, usedN_nodup _ _, hu⟩
theorem newsL_cov {s : Stc} (h : StcK s) (row k : Int) (a : Nat) (lp : List Lp) (hk : s.kind ≠ 10) : ∀ q : Nat, a ≤ q → q < a + (usesS s).toNat → ∃ x ∈ newsL row k s (usedN a (usesS s).toNat) lp, (q : Int) ∈ x.par := fun q h1 h2 => by
  have hq : (q : Int) ∈ usedN a (usesS s).toNat := usedN_mem'.2 (by omega)
  unfold newsL
  have hf := h.few
  split
  · have := hf (Or.inr (Or.inr (by assumption)))
    exact ⟨_, List.mem_replicate.2 ⟨by omega, rfl⟩, hq⟩
  split
  · have hu := h.uses
    rw [if_pos (by omega)] at hu
    omega
  split
  · refine ⟨⟨row, k, [(q : Int)], s.purl⟩, List.mem_map.2 ⟨(q : Int), ?_, rfl⟩, List.mem_cons_self⟩
    rw [List.mem_append]
    rw [← List.take_append_drop s.a.toNat (usedN a (usesS s).toNat)] at hq
    exact (List.mem_append.1 hq).symm
  split
  · exact ⟨_, List.mem_cons_self, List.mem_reverse.2 hq⟩
  split
  · exact ⟨_, List.mem_cons_self, hq⟩
  · exact ⟨_, List.mem_cons_self, hq⟩
/-- A row under way: what has been made since its start. -/
structure RowI (row : Int) (T t : Pw) (new : List Lp) (nb : List Int) : Prop where
  lp : t.lp = T.lp ++ new
  bd : t.bound = T.bound ++ nb
  nx : T.next ≤ t.next
  fact : ∀ x ∈ new, x.row = row ∧ x.par.Nodup ∧ ∀ p ∈ x.par, (T.next : Int) ≤ p ∧ p < (t.next : Int)
  bf : ∀ b ∈ nb, (T.next : Int) ≤ b ∧ b < (t.next : Int)
  cov : ∀ q : Nat, T.next ≤ q → q < t.next → (q : Int) ∈ nb ∨ ∃ x ∈ new, (q : Int) ∈ x.par
  ex : ∀ b ∈ nb, ∀ x ∈ new, ¬ b ∈ x.par
theorem rowI_run {row : Int} {l : List Stc} (hl : ∀ s ∈ l, StcK s) (T : Pw) : ∀ k, k ≤ l.length → ∃ new nb, RowI row T (rowRun row l T k) new nb
  | 0, _ => ⟨[], [], (List.append_nil _).symm, (List.append_nil _).symm, Nat.le_refl _, (fun x hx => by cases hx), (fun x hx => by cases hx), (fun q h1 h2 => absurd h2 (Nat.not_lt.2 h1)), (fun x hx => by cases hx)⟩
  | k + 1, hk => by
    obtain ⟨new, nb, h⟩ := rowI_run hl T k (by omega)
    have hy : l[k]? = some l[k] := List.getElem?_eq_getElem (by omega)
    have hc := hl _ (List.getElem_mem (show k < l.length by omega))
    rw [rowRun_next hy]
    obtain ⟨t, ht⟩ : ∃ t, t = rowRun row l T k := ⟨_, rfl⟩
    rw [← ht] at h ⊢
    have hu := hc.nat
    have hF := newsL_fact l[k] row (k : Int) t.next t.lp
    refine ⟨new ++ newsL row (k : Int) l[k] (usedN t.next (usesS l[k]).toNat) t.lp, nb ++ boundL l[k] (usedN t.next (usesS l[k]).toNat), ?_, ?_, ?_, ?_, ?_, ?_, ?_⟩
    · show t.lp ++ _ = _; rw [h.lp, List.append_assoc]
    · show t.bound ++ _ = _; rw [h.bd, List.append_assoc]
    · show T.next ≤ t.next + _; have := h.nx; omega
    · intro x hx
      have e : (stepC row (k : Int) l[k] t).next = t.next + (usesS l[k]).toNat := rfl
      rw [e]
      rcases List.mem_append.1 hx with h1 | h1
      · obtain ⟨f1, f2, f3⟩ := h.fact x h1
        exact ⟨f1, f2, fun p hp => by have := f3 p hp; omega⟩
      · obtain ⟨f1, f2, f3⟩ := hF x h1
        exact ⟨f1, f2, fun p hp => by have := f3 p hp; have := h.nx; omega⟩
    · intro b hb
      have e : (stepC row (k : Int) l[k] t).next = t.next + (usesS l[k]).toNat := rfl
      rw [e]
      rcases List.mem_append.1 hb with h1 | h1
      · have := h.bf b h1; omega
      · unfold boundL at h1
        split at h1
        · have := usedN_mem'.1 h1; have := h.nx; omega
        · cases h1
    · intro q h1 h2
      have e : (stepC row (k : Int) l[k] t).next = t.next + (usesS l[k]).toNat := rfl
      rw [e] at h2
      by_cases hq : q < t.next
      · rcases h.cov q h1 hq with h3 | ⟨x, hx, h3⟩
        · exact Or.inl (List.mem_append.2 (Or.inl h3))
        · exact Or.inr ⟨x, List.mem_append.2 (Or.inl hx), h3⟩
      · by_cases h10 : l[k].kind = 10
        · refine Or.inl (List.mem_append.2 (Or.inr ?_))
          unfold boundL
          rw [if_pos h10]
          exact usedN_mem'.2 (by omega)
        · obtain ⟨x, hx, h3⟩ := newsL_cov hc row (k : Int) t.next t.lp h10 q (by omega) h2
          exact Or.inr ⟨x, List.mem_append.2 (Or.inr hx), h3⟩
    · intro b hb x hx hp
      rcases List.mem_append.1 hb with h1 | h1
      · rcases List.mem_append.1 hx with h2 | h2
        · exact h.ex b h1 x h2 hp
        · have := h.bf b h1
          have := (hF x h2).2.2 b hp
          omega
      · unfold boundL at h1
        split at h1
        · rename_i h10
          rcases List.mem_append.1 hx with h2 | h2
          · have := usedN_mem'.1 h1
            have := (h.fact x h2).2.2 b hp
            omega
          · unfold newsL at h2
            rw [if_neg (by omega), if_neg (by omega), if_neg (by omega), if_pos h10] at h2
            cases h2
        · cases h1
/-- The loops of a chart of K rows, in rows. lv: the first live one. -/
structure Grd (t : Pw) (K lv : Nat) : Prop where
  lv_ : t.rows[K]? = some (lv : Int)
  lvn : t.next = lv
  le : lv ≤ t.lp.length
  row : ∀ (i : Nat) (x : Lp), t.lp[i]? = some x → 0 ≤ x.row ∧ x.row ≤ (K : Int) ∧ (lv ≤ i ↔ x.row = (K : Int))
  par : ∀ (i : Nat) (x : Lp), t.lp[i]? = some x → x.par.Nodup ∧ ∀ p ∈ x.par, ∃ q : Nat, p = (q : Int) ∧ q < i ∧ q < lv ∧ ∃ y : Lp, t.lp[q]? = some y ∧ y.row + 1 = x.row
  up : ∀ (i j : Nat) (x y : Lp), i ≤ j → t.lp[i]? = some x → t.lp[j]? = some y → x.row ≤ y.row
  bd : ∀ b ∈ t.bound, ∃ q : Nat, b = (q : Int) ∧ q < lv ∧ ∀ (j : Nat) (x : Lp), t.lp[j]? = some x → ¬ b ∈ x.par
  cov : ∀ q : Nat, q < lv → (q : Int) ∈ t.bound ∨ ∃ (j : Nat) (x : Lp), t.lp[j]? = some x ∧ (q : Int) ∈ x.par
  ne : K = 0 ∨ ∀ (i : Nat) (x : Lp), t.lp[i]? = some x → x.row = 0 → i < lv
theorem grd_start (n : Nat) : Grd (startP n) 0 0 := by
  have hx : ∀ (i : Nat) (x : Lp), (startP n).lp[i]? = some x → x.row = 0 ∧ x.par = [] := fun i x h => by
    unfold startP at h
    simp only at h
    rw [List.getElem?_map] at h
    cases e : (List.range n)[i]? with
    | none => rw [e] at h; cases h
    | some j => rw [e] at h; cases h; exact ⟨rfl, rfl⟩
  refine ⟨rfl, rfl, Nat.zero_le _, fun i x h => ?_, fun i x h => ?_, fun i j x y _ h1 h2 => ?_, (fun b hb => by cases hb), (fun q hq => absurd hq (Nat.not_lt_zero q)), Or.inl rfl⟩
  · have := (hx i x h).1; omega
  · rw [(hx i x h).2]; exact ⟨List.Pairwise.nil, fun p hp => by cases hp⟩
  · have := (hx i x h1).1; have := (hx j y h2).1; omega
theorem grd_next {T : Pw} {K lv : Nat} (h : Grd T K lv) {l : List Stc} (hl : ∀ s ∈ l, StcK s) (hu : (T.next : Int) + sumU l = T.lp.length) (hr1 : T.rows[K + 1]? = some (T.lp.length : Int)) (hrl : T.rows.length = K + 2) :
    Grd (endR (rowRun ((K : Int) + 1) l T l.length)) (K + 1) T.lp.length := by
  obtain ⟨new, nb, r⟩ := rowI_run (row := (K : Int) + 1) hl T l.length (Nat.le_refl _)
  obtain ⟨l1, -, l3⟩ := rowRun_len (row := (K : Int) + 1) hl T l.length (Nat.le_refl _)
  rw [List.take_length] at l1
  obtain ⟨t, ht⟩ : ∃ t, t = rowRun ((K : Int) + 1) l T l.length := ⟨_, rfl⟩
  rw [← ht] at r l1 l3 ⊢
  have hnx : t.next = T.lp.length := by omega
  have hlv := h.lvn
  have hle := h.le
  have hlp : (endR t).lp = T.lp ++ new := r.lp
  have hbd : (endR t).bound = T.bound ++ nb := r.bd
  have hold : ∀ (i : Nat) (x : Lp), T.lp[i]? = some x → (endR t).lp[i]? = some x := fun i x hx => by
    rw [hlp, List.getElem?_append_left (List.getElem?_eq_some_iff.1 hx).1]; exact hx
  have hcase : ∀ (i : Nat) (x : Lp), (endR t).lp[i]? = some x → (i < T.lp.length ∧ T.lp[i]? = some x) ∨ (T.lp.length ≤ i ∧ x ∈ new) := fun i x hx => by
    rw [hlp] at hx
    by_cases hi : i < T.lp.length
    · rw [List.getElem?_append_left hi] at hx
      exact Or.inl ⟨hi, hx⟩
    · rw [List.getElem?_append_right (by omega)] at hx
      exact Or.inr ⟨by omega, List.mem_of_getElem? hx⟩
  refine ⟨?_, hnx, ?_, fun i x hx => ?_, fun i x hx => ?_, fun i j x y hij hx hy => ?_, fun b hb => ?_, fun q hq => ?_, Or.inr fun i x hx h0 => ?_⟩
  · show (t.rows ++ _)[K + 1]? = _
    rw [l3, List.getElem?_append_left (by omega)]
    exact hr1
  · rw [hlp, List.length_append]; omega
  · rcases hcase i x hx with ⟨hi, h1⟩ | ⟨hi, h1⟩
    · obtain ⟨a, b, -⟩ := h.row i x h1
      exact ⟨a, by omega, by constructor <;> intro <;> omega⟩
    · have := (r.fact x h1).1
      exact ⟨by omega, by omega, by constructor <;> intro <;> omega⟩
  · rcases hcase i x hx with ⟨hi, h1⟩ | ⟨hi, h1⟩
    · obtain ⟨a, b⟩ := h.par i x h1
      refine ⟨a, fun p hp => ?_⟩
      obtain ⟨q, e, h2, h3, y, hy, h4⟩ := b p hp
      exact ⟨q, e, h2, by omega, y, hold q y hy, h4⟩
    · obtain ⟨a, b, c⟩ := r.fact x h1
      refine ⟨b, fun p hp => ?_⟩
      have h2 := c p hp
      have hq : p.toNat < T.lp.length := by omega
      have hy : T.lp[p.toNat]? = some T.lp[p.toNat] := List.getElem?_eq_getElem hq
      refine ⟨p.toNat, by omega, by omega, hq, _, hold _ _ hy, ?_⟩
      have := ((h.row _ _ hy).2.2).1 (by omega)
      omega
  · rcases hcase i x hx with ⟨hi, h1⟩ | ⟨hi, h1⟩
    · rcases hcase j y hy with ⟨hj, h2⟩ | ⟨hj, h2⟩
      · exact h.up i j x y hij h1 h2
      · have := (r.fact y h2).1
        have := (h.row i x h1).2.1
        omega
    · rcases hcase j y hy with ⟨hj, h2⟩ | ⟨hj, h2⟩
      · omega
      · have := (r.fact y h2).1
        have := (r.fact x h1).1
        omega
  · rw [hbd] at hb
    rcases List.mem_append.1 hb with h1 | h1
    · obtain ⟨q, e, h2, h3⟩ := h.bd b h1
      refine ⟨q, e, by omega, fun j x hx hp => ?_⟩
      rcases hcase j x hx with ⟨-, h4⟩ | ⟨-, h4⟩
      · exact h3 j x h4 hp
      · have := (r.fact x h4).2.2 b hp
        omega
    · have h2 := r.bf b h1
      refine ⟨b.toNat, by omega, by omega, fun j x hx hp => ?_⟩
      rcases hcase j x hx with ⟨-, h4⟩ | ⟨-, h4⟩
      · obtain ⟨q, e, -, h5, -⟩ := (h.par j x h4).2 b hp
        omega
      · exact r.ex b h1 x h4 hp
  · by_cases h1 : q < lv
    · rcases h.cov q h1 with h2 | ⟨j, x, h2, h3⟩
      · exact Or.inl (by rw [hbd]; exact List.mem_append.2 (Or.inl h2))
      · exact Or.inr ⟨j, x, hold j x h2, h3⟩
    · rcases r.cov q (by omega) (by omega) with h2 | ⟨x, h2, h3⟩
      · exact Or.inl (by rw [hbd]; exact List.mem_append.2 (Or.inr h2))
      · obtain ⟨j, hj⟩ := List.mem_iff_getElem?.1 h2
        refine Or.inr ⟨T.lp.length + j, x, ?_, h3⟩
        rw [hlp, List.getElem?_append_right (by omega), Nat.add_sub_cancel_left]
        exact hj
  · rcases hcase i x hx with ⟨hi, h1⟩ | ⟨hi, h1⟩
    · exact hi
    · have := (r.fact x h1).1
      omega
/-- A chart's loops lie in rows. -/
theorem grd_work {n : Nat} {fs : List (List Stc)} (h : WkOk n fs) : ∀ k, k ≤ fs.length → ∃ lv, Grd (workP n fs k) k lv
  | 0, _ => ⟨0, grd_start n⟩
  | k + 1, hk => by
    obtain ⟨lv, hg⟩ := grd_work h k (by omega)
    have hx : fs[k]? = some fs[k] := List.getElem?_eq_getElem (by omega)
    obtain ⟨o1, o2, o3, o4, o5⟩ := h.row k _ hx
    have hi := h.inv k (by omega)
    rw [workP_next hx]
    exact ⟨_, grd_next hg (fun s hs => stc_k (o1 s hs)) o5 hi.r1 hi.rl⟩
end Go.Proofs.Ytbibndpkcilblaa
namespace Go.Proofs.Ytbibndpkcilblaa
open Go.RowKit
set_option maxRecDepth 100000

def parN (lp : List Lp) (i : Nat) : List Int := (lp.getD i lp0).par
def rowN (lp : List Lp) (i : Nat) : Int := (lp.getD i lp0).row
def kidsN (lp : List Lp) (i : Nat) : List Nat := (List.range lp.length).filter fun k => decide ((i : Int) ∈ parN lp k)
theorem mem_kids {lp : List Lp} {i k : Nat} : k ∈ kidsN lp i ↔ k < lp.length ∧ (i : Int) ∈ parN lp k := by
  unfold kidsN
  rw [List.mem_filter, List.mem_range, decide_eq_true_eq]
/-- Whether a loop runs, once its kids are known. -/
def runI (lp : List Lp) (drop : List Int) (F : Nat → Bool) (i : Nat) : Bool := (decide (kidsN lp i ≠ []) && decide (0 < rowN lp i) && (kidsN lp i).all F) || decide ((i : Int) ∈ drop)
/-- The reference's way: from the last loop downwards, m loops done. -/
def runD (lp : List Lp) (drop : List Int) : Nat → Nat → Bool
  | 0 => fun _ => false
  | m + 1 => fun j => if j = lp.length - 1 - m then runI lp drop (runD lp drop m) j else runD lp drop m j
def runF (lp : List Lp) (drop : List Int) : Nat → Bool := runD lp drop lp.length
/-- The order of the loops: kids come behind. -/
def Fwd (lp : List Lp) : Prop := ∀ i k : Nat, i < lp.length → (k : Int) ∈ parN lp i → k < i
theorem grd_fwd {t : Pw} {K lv : Nat} (h : Grd t K lv) : Fwd t.lp := fun i k hi hk => by
  have hx : t.lp[i]? = some t.lp[i] := List.getElem?_eq_getElem hi
  unfold parN at hk
  rw [List.getD_eq_getElem?_getD, hx] at hk
  obtain ⟨q, e, hq, -⟩ := (h.par i _ hx).2 _ hk
  omega
theorem kids_gt {lp : List Lp} (hf : Fwd lp) {i k : Nat} (hk : k ∈ kidsN lp i) : i < k := by
  obtain ⟨h1, h2⟩ := mem_kids.1 hk
  exact hf k i h1 h2
theorem runD_same {lp : List Lp} {drop : List Int} : ∀ {m m' : Nat}, m ≤ m' → m' ≤ lp.length → ∀ j, lp.length - m ≤ j → runD lp drop m' j = runD lp drop m j := by
  intro m m' h
  induction h with
  | refl => intro _ j _; rfl
  | step h ih =>
    rename_i m'
    intro hm j hj
    show (if j = lp.length - 1 - m' then _ else runD lp drop m' j) = _
    rw [if_neg (by have : m ≤ m' := h; omega)]
    exact ih (by omega) j hj
theorem runF_eq {lp : List Lp} (hf : Fwd lp) (drop : List Int) {i : Nat} (hi : i < lp.length) : runF lp drop i = runI lp drop (runF lp drop) i := by
  have h1 : runF lp drop i = runD lp drop (lp.length - i) i := by
    unfold runF
    exact runD_same (by omega) (Nat.le_refl _) i (by omega)
  rw [h1]
  obtain ⟨m, hm⟩ : ∃ m, lp.length - i = m + 1 := ⟨lp.length - i - 1, by omega⟩
  rw [hm]
  show (if i = lp.length - 1 - m then runI lp drop (runD lp drop m) i else _) = _
  rw [if_pos (by omega)]
  unfold runI
  congr 2
  have : ∀ k ∈ kidsN lp i, runD lp drop m k = runF lp drop k := fun k hk => by
    have := kids_gt hf hk
    unfold runF
    exact (runD_same (by omega) (Nat.le_refl _) k (by omega)).symm
  rw [Bool.eq_iff_iff, List.all_eq_true, List.all_eq_true]
  constructor
  · intro h k hk; rw [← this k hk]; exact h k hk
  · intro h k hk; rw [this k hk]; exact h k hk
theorem runF_iff {lp : List Lp} (hf : Fwd lp) (drop : List Int) {i : Nat} (hi : i < lp.length) : runF lp drop i = true ↔ (kidsN lp i ≠ [] ∧ 0 < rowN lp i ∧ ∀ k ∈ kidsN lp i, runF lp drop k = true) ∨ (i : Int) ∈ drop := by
  rw [runF_eq hf drop hi]
  unfold runI
  rw [Bool.or_eq_true, Bool.and_eq_true, Bool.and_eq_true, decide_eq_true_eq, decide_eq_true_eq, decide_eq_true_eq, List.all_eq_true, and_assoc]
/-- Facts on a chart's loops, by index. -/
structure GrN (lp : List Lp) (bound : List Int) (K lv : Nat) : Prop where
  fwd : Fwd lp
  le : lv ≤ lp.length
  row : ∀ i, i < lp.length → 0 ≤ rowN lp i ∧ rowN lp i ≤ (K : Int) ∧ (lv ≤ i ↔ rowN lp i = (K : Int))
  par : ∀ i, i < lp.length → (parN lp i).Nodup ∧ ∀ p ∈ parN lp i, ∃ q : Nat, p = (q : Int) ∧ q < i ∧ q < lv ∧ rowN lp q + 1 = rowN lp i
  up : ∀ i j, i ≤ j → j < lp.length → rowN lp i ≤ rowN lp j
  bd : ∀ q : Nat, (q : Int) ∈ bound → q < lv ∧ kidsN lp q = []
  bn : ∀ b ∈ bound, 0 ≤ b
  cov : ∀ q : Nat, q < lv → (q : Int) ∈ bound ∨ kidsN lp q ≠ []
theorem grd_n {t : Pw} {K lv : Nat} (h : Grd t K lv) : GrN t.lp t.bound K lv := by
  have hx : ∀ i, i < t.lp.length → ∃ x, t.lp[i]? = some x ∧ parN t.lp i = x.par ∧ rowN t.lp i = x.row := fun i hi => by
    refine ⟨_, List.getElem?_eq_getElem hi, ?_, ?_⟩
    · unfold parN; rw [List.getD_eq_getElem?_getD, List.getElem?_eq_getElem hi]; rfl
    · unfold rowN; rw [List.getD_eq_getElem?_getD, List.getElem?_eq_getElem hi]; rfl
  refine ⟨grd_fwd h, h.le, fun i hi => ?_, fun i hi => ?_, fun i j hij hj => ?_, fun q hq => ?_, fun b hb => ?_, fun q hq => ?_⟩
  · obtain ⟨x, e, -, e2⟩ := hx i hi
    rw [e2]; exact h.row i x e
  · obtain ⟨x, e, e1, e2⟩ := hx i hi
    rw [e1, e2]
    obtain ⟨a, b⟩ := h.par i x e
    refine ⟨a, fun p hp => ?_⟩
    obtain ⟨q, f1, f2, f3, y, f4, f5⟩ := b p hp
    refine ⟨q, f1, f2, f3, ?_⟩
    have hq := (List.getElem?_eq_some_iff.1 f4).1
    obtain ⟨y', e', -, e2'⟩ := hx q hq
    rw [f4] at e'
    cases e'
    rw [e2']; exact f5
  · obtain ⟨x, e, -, e2⟩ := hx i (by omega)
    obtain ⟨y, e', -, e2'⟩ := hx j hj
    rw [e2, e2']
    exact h.up i j x y hij e e'
  · obtain ⟨q', e, h1, h2⟩ := h.bd _ hq
    have : q' = q := by omega
    subst this
    refine ⟨h1, List.eq_nil_iff_forall_not_mem.2 fun k hk => ?_⟩
    obtain ⟨k1, k2⟩ := mem_kids.1 hk
    obtain ⟨x, e3, e4, -⟩ := hx k k1
    rw [e4] at k2
    exact h2 k x e3 k2
  · obtain ⟨q', e, -⟩ := h.bd b hb
    omega
  · rcases h.cov q hq with h1 | ⟨j, x, h1, h2⟩
    · exact Or.inl h1
    · refine Or.inr fun e => ?_
      have hj := (List.getElem?_eq_some_iff.1 h1).1
      obtain ⟨x', e3, e4, -⟩ := hx j hj
      rw [h1] at e3
      cases e3
      have : j ∈ kidsN t.lp q := mem_kids.2 ⟨hj, by rw [e4]; exact h2⟩
      rw [e] at this
      cases this
section
variable {lp : List Lp} {bound : List Int} {K lv : Nat}
theorem GrN.kid (h : GrN lp bound K lv) {i k : Nat} (hk : k ∈ kidsN lp i) : k < lp.length ∧ i < k ∧ i < lv ∧ rowN lp i + 1 = rowN lp k := by
  obtain ⟨h1, h2⟩ := mem_kids.1 hk
  obtain ⟨q, e, h3, h4, h5⟩ := (h.par k h1).2 _ h2
  have : q = i := by omega
  subst this
  exact ⟨h1, h3, h4, h5⟩
theorem GrN.live (h : GrN lp bound K lv) {i : Nat} (hi : lv ≤ i) : kidsN lp i = [] := by
  apply List.eq_nil_iff_forall_not_mem.2
  intro k hk
  have := (h.kid hk).2.2.1
  omega
/-- A list that is a drop. -/
structure DropOk (lp : List Lp) (lv : Nat) (drop : List Int) : Prop where
  rng : ∀ d ∈ drop, (lv : Int) ≤ d ∧ d < (lp.length : Int)
  up : drop.Pairwise (· < ·)
/-- What hangs on a loop. -/
inductive Reach (lp : List Lp) (i : Nat) : Nat → Prop
  | refl : i < lp.length → Reach lp i i
  | step {j k : Nat} : Reach lp i j → k ∈ kidsN lp j → Reach lp i k
theorem Reach.lt {i k : Nat} (h : Reach lp i k) : k < lp.length := by
  cases h with
  | refl h => exact h
  | step _ hk => exact (mem_kids.1 hk).1
theorem Reach.start {i k : Nat} (h : Reach lp i k) : i < lp.length := by
  induction h with
  | refl h => exact h
  | step _ _ ih => exact ih
theorem Reach.head {i k q : Nat} (hi : i < lp.length) (hk : k ∈ kidsN lp i) (h : Reach lp k q) : Reach lp i q := by
  induction h with
  | refl _ => exact .step (.refl hi) hk
  | step _ hk2 ih => exact .step ih hk2
theorem Reach.cases' {i q : Nat} (h : Reach lp i q) : q = i ∨ ∃ k ∈ kidsN lp i, Reach lp k q := by
  induction h with
  | refl _ => exact Or.inl rfl
  | step h hk ih =>
    rcases ih with rfl | ⟨k, h1, h2⟩
    · exact Or.inr ⟨_, hk, .refl (mem_kids.1 hk).1⟩
    · exact Or.inr ⟨k, h1, .step h2 hk⟩
theorem Reach.le (hf : Fwd lp) {i k : Nat} (h : Reach lp i k) : i ≤ k := by
  induction h with
  | refl _ => exact Nat.le_refl _
  | step _ hk ih => have := kids_gt hf hk; omega
/-- An end: a loop that is live, or bound off. -/
def EndN (lv : Nat) (bound : List Int) (q : Nat) : Prop := lv ≤ q ∨ (q : Int) ∈ bound
/-- LadderExact, plain. -/
theorem GrN.exact_ (h : GrN lp bound K lv) {drop : List Int} (hd : DropOk lp lv drop) : ∀ (m i : Nat), i < lp.length → lp.length - i ≤ m →
    (runF lp drop i = true ↔ (∀ q, Reach lp i q → EndN lv bound q → (q : Int) ∈ drop) ∧ (0 < rowN lp i ∨ (i : Int) ∈ drop)) ∧ ∃ q, Reach lp i q ∧ EndN lv bound q
  | 0, i, hi, hm => by omega
  | m + 1, i, hi, hm => by
    rw [runF_iff h.fwd drop hi]
    by_cases hlv : lv ≤ i
    · have hk := h.live hlv
      refine ⟨?_, i, .refl hi, Or.inl hlv⟩
      constructor
      · rintro (⟨h1, -⟩ | h1)
        · exact absurd hk h1
        · refine ⟨fun q hq _ => ?_, Or.inr h1⟩
          rcases hq.cases' with rfl | ⟨k, h2, -⟩
          · exact h1
          · rw [hk] at h2; cases h2
      · rintro ⟨h1, -⟩
        exact Or.inr (h1 i (.refl hi) (Or.inl hlv))
    · have hnd : ¬ (i : Int) ∈ drop := fun hc => by have := (hd.rng _ hc).1; omega
      by_cases hk : kidsN lp i = []
      · have hb : (i : Int) ∈ bound := by
          rcases h.cov i (by omega) with h1 | h1
          · exact h1
          · exact absurd hk h1
        refine ⟨?_, i, .refl hi, Or.inr hb⟩
        constructor
        · rintro (⟨h1, -⟩ | h1)
          · exact absurd hk h1
          · exact absurd h1 hnd
        · rintro ⟨h1, -⟩
          exact absurd (h1 i (.refl hi) (Or.inr hb)) hnd
      · have hnb : ¬ (i : Int) ∈ bound := fun hc => hk (h.bd i hc).2
        have ih : ∀ k ∈ kidsN lp i, (runF lp drop k = true ↔ (∀ q, Reach lp k q → EndN lv bound q → (q : Int) ∈ drop)) ∧ ∃ q, Reach lp k q ∧ EndN lv bound q := fun k hkk => by
          obtain ⟨k1, k2, -, k4⟩ := h.kid hkk
          obtain ⟨e1, e2⟩ := h.exact_ hd m k k1 (by omega)
          have h0 := (h.row i hi).1
          refine ⟨?_, e2⟩
          rw [e1]
          exact ⟨fun hc => hc.1, fun hc => ⟨hc, Or.inl (by omega)⟩⟩
        obtain ⟨k0, hk0⟩ := List.exists_mem_of_ne_nil _ hk
        obtain ⟨q0, r0, e0⟩ := (ih k0 hk0).2
        refine ⟨?_, q0, Reach.head hi hk0 r0, e0⟩
        constructor
        · rintro (⟨-, h2, h3⟩ | h1)
          · refine ⟨fun q hq he => ?_, Or.inl h2⟩
            rcases hq.cases' with rfl | ⟨k, h4, h5⟩
            · rcases he with he | he
              · omega
              · exact absurd he hnb
            · exact (ih k h4).1.1 (h3 k h4) q h5 he
          · exact absurd h1 hnd
        · rintro ⟨h1, h2⟩
          refine Or.inl ⟨hk, ?_, fun k hkk => (ih k hkk).1.2 fun q hq he => h1 q (Reach.head hi hkk hq) he⟩
          rcases h2 with h2 | h2
          · exact h2
          · exact absurd h2 hnd
/-- More that is dropped makes more run. -/
theorem GrN.more (h : GrN lp bound K lv) {drop drop' : List Int} (hs : ∀ d ∈ drop', d ∈ drop) : ∀ (m i : Nat), i < lp.length → lp.length - i ≤ m → runF lp drop' i = true → runF lp drop i = true
  | 0, i, hi, hm, _ => by omega
  | m + 1, i, hi, hm, hr => by
    rw [runF_iff h.fwd _ hi] at hr ⊢
    rcases hr with ⟨h1, h2, h3⟩ | h1
    · refine Or.inl ⟨h1, h2, fun k hk => h.more hs m k (h.kid hk).1 (by have := (h.kid hk).2.1; omega) (h3 k hk)⟩
    · exact Or.inr (hs _ h1)
theorem GrN.none (h : GrN lp bound K lv) : ∀ (m i : Nat), i < lp.length → lp.length - i ≤ m → runF lp [] i = false
  | 0, i, hi, hm => by omega
  | m + 1, i, hi, hm => by
    cases hr : runF lp [] i with
    | false => rfl
    | true =>
      rw [runF_iff h.fwd _ hi] at hr
      rcases hr with ⟨h1, h2, h3⟩ | h1
      · obtain ⟨k0, hk0⟩ := List.exists_mem_of_ne_nil _ h1
        have := h3 k0 hk0
        rw [h.none m k0 (h.kid hk0).1 (by have := (h.kid hk0).2.1; omega)] at this
        cases this
      · cases h1
/-- What hangs on a loop that runs, runs. -/
theorem GrN.hangs (h : GrN lp bound K lv) {drop : List Int} (hd : DropOk lp lv drop) {i q : Nat} (hr : Reach lp i q) (hi : runF lp drop i = true) : runF lp drop q = true := by
  induction hr with
  | refl _ => exact hi
  | step h1 hk ih =>
    rename_i j k
    rw [runF_iff h.fwd _ h1.lt] at ih
    rcases ih with ⟨-, -, h3⟩ | h3
    · exact h3 k hk
    · have := (hd.rng _ h3).1
      rw [h.live (by omega)] at hk
      cases hk
/-- What stops a drop. -/
theorem GrN.stops (h : GrN lp bound K lv) {drop : List Int} {s k : Nat} (hs : s < lp.length) (hn : runF lp drop s = false) (hk : k ∈ kidsN lp s) : rowN lp s = 0 ∨ ∃ k' ∈ kidsN lp s, runF lp drop k' = false := by
  by_cases h0 : rowN lp s = 0
  · exact Or.inl h0
  · refine Or.inr (Classical.byContradiction fun hc => ?_)
    have hall : ∀ k' ∈ kidsN lp s, runF lp drop k' = true := fun k' hk' => by
      cases e : runF lp drop k' with
      | true => rfl
      | false => exact absurd ⟨k', hk', e⟩ hc
    have hne : kidsN lp s ≠ [] := fun e => by rw [e] at hk; cases hk
    have : runF lp drop s = true := (runF_iff h.fwd _ hs).2 (Or.inl ⟨hne, by have := (h.row s hs).1; omega, hall⟩)
    rw [hn] at this
    cases this
end
end Go.Proofs.Ytbibndpkcilblaa
namespace Go.Proofs.Ytbibndpkcilblaa
open Go.RowKit
set_option maxRecDepth 100000

section
variable {lp : List Lp} {bound : List Int} {K lv : Nat}
theorem GrN.kid_runs (h : GrN lp bound K lv) {drop : List Int} (hd : DropOk lp lv drop) {i : Nat} (hi : i < lp.length) (hr : runF lp drop i = true) : rowN lp i = (K : Int) ∨ (0 < rowN lp i ∧ ∃ k ∈ kidsN lp i, runF lp drop k = true) := by
  rcases (runF_iff h.fwd _ hi).1 hr with ⟨h1, h2, h3⟩ | h1
  · obtain ⟨k, hk⟩ := List.exists_mem_of_ne_nil _ h1
    exact Or.inr ⟨h2, k, hk, h3 k hk⟩
  · exact Or.inl (((h.row i hi).2.2).1 (by have := (hd.rng _ h1).1; omega))
/-- Where a row has nothing that runs, nothing below it does. -/
theorem GrN.low_none (h : GrN lp bound K lv) {drop : List Int} (hd : DropOk lp lv drop) {r : Int} (hr : r ≤ (K : Int)) (hn : ∀ i, i < lp.length → rowN lp i = r → runF lp drop i = false) : ∀ (m : Nat) (i : Nat), i < lp.length → r - rowN lp i = (m : Int) → runF lp drop i = false
  | 0, i, hi, hm => hn i hi (by omega)
  | m + 1, i, hi, hm => by
    cases e : runF lp drop i with
    | false => rfl
    | true =>
      rcases h.kid_runs hd hi e with h1 | ⟨-, k, hk, h2⟩
      · omega
      · obtain ⟨k1, -, -, k4⟩ := h.kid hk
        have := h.low_none hd hr hn m k k1 (by omega)
        rw [this] at h2; cases h2
/-- The program's run under way: row r comes next. -/
structure RunS (lp : List Lp) (drop : List Int) (K : Nat) (out : Nat → Bool) (next : List Int) (r : Int) : Prop where
  lo : 0 ≤ r
  hi : r ≤ (K : Int)
  up : ∀ i, i < lp.length → r < rowN lp i → out i = runF lp drop i
  dn : ∀ i, i < lp.length → rowN lp i ≤ r → out i = false
  nx : ∀ x ∈ next, ∃ i : Nat, x = (i : Int) ∧ i < lp.length ∧ rowN lp i = r ∧ runF lp drop i = true
  all : ∀ i : Nat, i < lp.length → rowN lp i = r → runF lp drop i = true → (i : Int) ∈ next
theorem RunS.start (h : GrN lp bound K lv) {drop : List Int} (hd : DropOk lp lv drop) : RunS lp drop K (fun _ => false) drop (K : Int) := by
  refine ⟨by omega, Int.le_refl _, fun i hi hr => ?_, fun _ _ _ => rfl, fun x hx => ?_, fun i hi hr hf => ?_⟩
  · have := (h.row i hi).2.1; omega
  · have h1 := hd.rng x hx
    refine ⟨x.toNat, by omega, by omega, ((h.row _ (by omega)).2.2).1 (by omega), (runF_iff h.fwd _ (by omega)).2 (Or.inr ?_)⟩
    rw [show ((x.toNat : Nat) : Int) = x by omega]; exact hx
  · rcases (runF_iff h.fwd _ hi).1 hf with ⟨h1, -, -⟩ | h1
    · exact absurd (h.live (((h.row i hi).2.2).2 hr)) h1
    · exact h1
def putAll (out : Nat → Bool) (next : List Int) : Nat → Bool := fun j => out j || decide ((j : Int) ∈ next)
/-- Nothing more to come. -/
theorem RunS.done (h : GrN lp bound K lv) {drop : List Int} (hd : DropOk lp lv drop) {out : Nat → Bool} {r : Int} (hs : RunS lp drop K out [] r) : ∀ i, i < lp.length → out i = runF lp drop i := fun i hi => by
  by_cases hr : r < rowN lp i
  · exact hs.up i hi hr
  · rw [hs.dn i hi (by omega)]
    refine (h.low_none hd hs.hi (fun j hj hjr => ?_) (r - rowN lp i).toNat i hi (by omega)).symm
    cases e : runF lp drop j with
    | false => rfl
    | true => have := hs.all j hj hjr e; cases this
theorem RunS.put {drop : List Int} {out : Nat → Bool} {next : List Int} {r : Int} (hs : RunS lp drop K out next r) : ∀ i, i < lp.length → r ≤ rowN lp i → putAll out next i = runF lp drop i := fun i hi hr => by
  unfold putAll
  by_cases he : rowN lp i = r
  · rw [hs.dn i hi (by omega), Bool.false_or]
    cases e : runF lp drop i with
    | true => exact decide_eq_true (hs.all i hi he e)
    | false =>
      refine decide_eq_false fun hc => ?_
      obtain ⟨j, h1, -, -, h4⟩ := hs.nx _ hc
      have : j = i := by omega
      subst this
      rw [e] at h4; cases h4
  · rw [hs.up i hi (by omega)]
    have : ¬ (i : Int) ∈ next := fun hc => by
      obtain ⟨j, h1, -, h3, -⟩ := hs.nx _ hc
      have : j = i := by omega
      subst this
      exact he h3
    rw [decide_eq_false this, Bool.or_false]
theorem RunS.put_low {drop : List Int} {out : Nat → Bool} {next : List Int} {r : Int} (hs : RunS lp drop K out next r) : ∀ i, i < lp.length → rowN lp i < r → putAll out next i = false := fun i hi hr => by
  unfold putAll
  rw [hs.dn i hi (by omega)]
  have : ¬ (i : Int) ∈ next := fun hc => by
    obtain ⟨j, h1, -, h3, -⟩ := hs.nx _ hc
    have : j = i := by omega
    subst this
    omega
  rw [decide_eq_false this]; rfl
/-- What lies below: the parents. -/
structure BelowL (lp : List Lp) (next C : List Int) : Prop where
  iff : ∀ x, x ∈ C ↔ ∃ i : Nat, (i : Int) ∈ next ∧ x ∈ parN lp i
theorem RunS.below (h : GrN lp bound K lv) {drop : List Int} {out : Nat → Bool} {next C : List Int} {r : Int} (hs : RunS lp drop K out next r) (hC : BelowL lp next C) : ∀ x ∈ C, ∃ q : Nat, x = (q : Int) ∧ q < lp.length ∧ rowN lp q + 1 = r := fun x hx => by
  obtain ⟨i, h1, h2⟩ := (hC.iff x).1 hx
  obtain ⟨j, e, h3, h4, -⟩ := hs.nx _ h1
  have : j = i := by omega
  subst this
  obtain ⟨q, e2, h5, -, h6⟩ := (h.par j h3).2 x h2
  exact ⟨q, e2, by omega, by omega⟩
/-- The first row stops it. -/
theorem RunS.break_ (h : GrN lp bound K lv) {drop : List Int} (hd : DropOk lp lv drop) {out : Nat → Bool} {next : List Int} (hs : RunS lp drop K out next 1) : ∀ i, i < lp.length → putAll out next i = runF lp drop i := fun i hi => by
  by_cases hr : 1 ≤ rowN lp i
  · exact hs.put i hi hr
  · rw [hs.put_low i hi (by omega)]
    cases e : runF lp drop i with
    | false => rfl
    | true =>
      rcases h.kid_runs hd hi e with h1 | ⟨h1, -⟩
      · have := hs.hi; omega
      · omega
/-- One row further. -/
theorem RunS.next_ (h : GrN lp bound K lv) {drop : List Int} (hd : DropOk lp lv drop) {out : Nat → Bool} {next C : List Int} {r : Int} (hs : RunS lp drop K out next r) (hC : BelowL lp next C) (h1 : 1 < r) :
    RunS lp drop K (putAll out next) (C.filter fun x => (kidsN lp x.toNat).all (putAll out next)) (r - 1) := by
  have hk : ∀ q : Nat, q < lp.length → rowN lp q + 1 = r → ((kidsN lp q).all (putAll out next) = true ↔ ∀ k ∈ kidsN lp q, runF lp drop k = true) := fun q hq hqr => by
    rw [List.all_eq_true]
    constructor
    · intro hc k hkk
      obtain ⟨k1, -, -, k4⟩ := h.kid hkk
      rw [← hs.put k k1 (by omega)]; exact hc k hkk
    · intro hc k hkk
      obtain ⟨k1, -, -, k4⟩ := h.kid hkk
      rw [hs.put k k1 (by omega)]; exact hc k hkk
  refine ⟨by omega, by have := hs.hi; omega, fun i hi hr => hs.put i hi (by omega), fun i hi hr => hs.put_low i hi (by omega), fun x hx => ?_, fun i hi hr hf => ?_⟩
  · obtain ⟨hx1, hx2⟩ := List.mem_filter.1 hx
    obtain ⟨q, e, h2, h3⟩ := hs.below h hC x hx1
    subst e
    rw [Int.toNat_natCast, hk q h2 h3] at hx2
    refine ⟨q, rfl, h2, by omega, (runF_iff h.fwd _ h2).2 (Or.inl ⟨fun e => ?_, by omega, hx2⟩)⟩
    obtain ⟨i, h4, h5⟩ := (hC.iff _).1 hx1
    obtain ⟨j, e2, h6, -⟩ := hs.nx _ h4
    have : j = i := by omega
    subst this
    have : j ∈ kidsN lp q := mem_kids.2 ⟨h6, h5⟩
    rw [e] at this; cases this
  · rcases (runF_iff h.fwd _ hi).1 hf with ⟨h2, -, h3⟩ | h2
    · obtain ⟨k, hkk⟩ := List.exists_mem_of_ne_nil _ h2
      obtain ⟨k1, -, -, k4⟩ := h.kid hkk
      refine List.mem_filter.2 ⟨(hC.iff _).2 ⟨k, hs.all k k1 (by omega) (h3 k hkk), (mem_kids.1 hkk).2⟩, ?_⟩
      rw [Int.toNat_natCast]
      exact (hk i hi (by omega)).2 h3
    · have := ((h.row i hi).2.2).1 (by have := (hd.rng _ h2).1; omega)
      have := hs.hi
      omega
/-! What hangs: the reference's way. -/
def hangI (lp : List Lp) (i m : Nat) : Nat → Bool
  | k => match m with
    | 0 => decide (k = i)
    | m + 1 => if k = i + 1 + m then (parN lp k).any (fun p => hangI lp i m p.toNat) else hangI lp i m k
theorem hang_reach (h : GrN lp bound K lv) {i : Nat} (hi : i < lp.length) : ∀ (m k : Nat), k ≤ i + m → k < lp.length → (hangI lp i m k = true ↔ Reach lp i k)
  | 0, k, hk, hkl => by
    unfold hangI
    rw [decide_eq_true_eq]
    constructor
    · rintro rfl; exact .refl hi
    · intro hr
      have := hr.le h.fwd
      omega
  | m + 1, k, hk, hkl => by
    unfold hangI
    simp only
    by_cases e : k = i + 1 + m
    · rw [if_pos e, List.any_eq_true]
      constructor
      · rintro ⟨p, hp, h1⟩
        obtain ⟨q, e2, h2, -⟩ := (h.par k hkl).2 p hp
        subst e2
        rw [Int.toNat_natCast, hang_reach h hi m q (by omega) (by omega)] at h1
        exact .step h1 (mem_kids.2 ⟨hkl, hp⟩)
      · intro hr
        cases hr with
        | refl _ => omega
        | step h1 hkk =>
          rename_i j
          have h2 := kids_gt h.fwd hkk
          refine ⟨(j : Int), (mem_kids.1 hkk).2, ?_⟩
          rw [Int.toNat_natCast, hang_reach h hi m j (by omega) (by omega)]
          exact h1
    · rw [if_neg e]
      exact hang_reach h hi m k (by omega) hkl
/-! Depths. -/
/-- The lowest row that runs. -/
structure LowR (lp : List Lp) (F : Nat → Bool) (K : Nat) (low : Int) : Prop where
  le : ∀ i, i < lp.length → F i = true → low ≤ rowN lp i
  ex : ∃ i, i < lp.length ∧ F i = true ∧ rowN lp i = low
/-- The reference's count of rows. -/
def deepI (lp : List Lp) (F : Nat → Bool) : Nat → Int × Int
  | 0 => (0, -1)
  | k + 1 => if F k = true ∧ rowN lp k ≠ (deepI lp F k).2 then ((deepI lp F k).1 + 1, rowN lp k) else deepI lp F k
theorem deep_run (h : GrN lp bound K lv) {drop : List Int} (hd : DropOk lp lv drop) {low : Int} (hl : LowR lp (runF lp drop) K low) : ∀ k, k ≤ lp.length →
    (deepI lp (runF lp drop) k = (0, -1) ∧ ∀ i, i < k → runF lp drop i = false) ∨ (∃ j, j < k ∧ runF lp drop j = true ∧ (deepI lp (runF lp drop) k).2 = rowN lp j ∧ (deepI lp (runF lp drop) k).1 = rowN lp j - low + 1 ∧ ∀ i, j < i → i < k → runF lp drop i = false)
  | 0, _ => Or.inl ⟨rfl, fun i hi => absurd hi (Nat.not_lt_zero i)⟩
  | k + 1, hk => by
    have hu : deepI lp (runF lp drop) (k + 1) = if runF lp drop k = true ∧ rowN lp k ≠ (deepI lp (runF lp drop) k).2 then ((deepI lp (runF lp drop) k).1 + 1, rowN lp k) else deepI lp (runF lp drop) k := rfl
    have ih := deep_run h hd hl k (by omega)
    cases hf : runF lp drop k with
    | false =>
      rw [hu, if_neg (by rw [hf]; simp)]
      rcases ih with ⟨h1, h2⟩ | ⟨j, h1, h2, h3, h4, h5⟩
      · refine Or.inl ⟨h1, fun i hi => ?_⟩
        by_cases e : i = k
        · subst e; exact hf
        · exact h2 i (by omega)
      · refine Or.inr ⟨j, by omega, h2, h3, h4, fun i hi hik => ?_⟩
        by_cases e : i = k
        · subst e; exact hf
        · exact h5 i hi (by omega)
    | true =>
      have hkl : k < lp.length := by omega
      have h0 := (h.row k hkl).1
      refine Or.inr ⟨k, by omega, hf, ?_⟩
      -- the row below the one of k has something that runs, unless it is the lowest one
      have hrow : ∀ j, j < k → (∀ i, j < i → i < k → runF lp drop i = false) → runF lp drop j = true → rowN lp k ≤ rowN lp j + 1 := fun j hj h5 hfj => by
        rcases h.kid_runs hd (show j < lp.length by omega) hfj with h6 | ⟨-, q, hq, h7⟩
        · have := (h.row k hkl).2.1; omega
        · obtain ⟨q1, q2, -, q4⟩ := h.kid hq
          by_cases hqk : q < k
          · rw [h5 q q2 hqk] at h7; cases h7
          · have := h.up k q (by omega) q1
            omega
      rcases ih with ⟨h1, h2⟩ | ⟨j, h1, h2, h3, h4, h5⟩
      · rw [hu, if_pos ⟨hf, by rw [h1]; simp only; omega⟩]
        refine ⟨rfl, ?_, fun i hi hik => by omega⟩
        rw [h1]
        simp only
        obtain ⟨i, i1, i2, i3⟩ := hl.ex
        have h6 := hl.le k hkl hf
        have : ¬ i < k := fun hc => by rw [h2 i hc] at i2; cases i2
        have := h.up k i (by omega) i1
        omega
      · have hup := h.up j k (by omega) hkl
        have hle := hrow j h1 h5 h2
        rw [hu]
        by_cases e : rowN lp k = (deepI lp (runF lp drop) k).2
        · rw [if_neg (by rw [hf]; simp [e])]
          exact ⟨e.symm, by rw [e, ← h3] at *; omega, fun i hi hik => by omega⟩
        · rw [if_pos ⟨hf, e⟩]
          exact ⟨rfl, by simp only; omega, fun i hi hik => by omega⟩
/-- The depth of a live loop: the rows that run. -/
theorem deep_is (h : GrN lp bound K lv) {i : Nat} (hi : i < lp.length) (hlv : lv ≤ i) {low : Int} (hl : LowR lp (runF lp [(i : Int)]) K low) : (deepI lp (runF lp [(i : Int)]) lp.length).1 = (K : Int) - low + 1 := by
  have hd : DropOk lp lv [(i : Int)] := ⟨fun d hd => by rw [List.mem_singleton.1 hd]; omega, List.pairwise_singleton _ _⟩
  have hfi : runF lp [(i : Int)] i = true := (runF_iff h.fwd _ hi).2 (Or.inr List.mem_cons_self)
  rcases deep_run h hd hl lp.length (Nat.le_refl _) with ⟨-, h2⟩ | ⟨j, h1, h2, h3, h4, h5⟩
  · rw [h2 i hi] at hfi; cases hfi
  · rw [h4]
    have hri := ((h.row i hi).2.2).1 hlv
    have hij : i ≤ j := by
      rcases Nat.lt_or_ge j i with hc | hc
      · rw [h5 i hc hi] at hfi; cases hfi
      · exact hc
    have := h.up i j hij h1
    have := (h.row j h1).2.1
    omega
end
end Go.Proofs.Ytbibndpkcilblaa
namespace Go.Proofs.Ytbibndpkcilblaa
open Go.RowKit
set_option maxRecDepth 100000

theorem sort_le (l : List Int) : (sortZ l).Pairwise (· ≤ ·) := by
  have h := List.pairwise_mergeSort (le := fun x y : Int => decide (x ≤ y)) (fun a b c h1 h2 => by simp only [decide_eq_true_eq] at *; omega) (fun a b => by simp only [Bool.or_eq_true, decide_eq_true_eq]; omega) l
  exact h.imp fun h => of_decide_eq_true h
theorem keeps_iff {s : List Int} {j : Nat} (hj : j < s.length) : Lib.keeps s.toArray j = true ↔ j = 0 ∨ ∃ h : 0 < j, s[j] ≠ s[j - 1]'(by omega) := by
  unfold Lib.keeps
  rw [decide_eq_true_iff]
  cases j with
  | zero => simp
  | succ j =>
    simp only [Nat.add_sub_cancel]
    rw [getElem!_pos s.toArray (j + 1) (by simpa using hj), getElem!_pos s.toArray j (by simp; omega)]
    simp
theorem compact_mem_iff {s : List Int} {x : Int} : x ∈ Lib.compact s ↔ ∃ j, ∃ h : j < s.length, Lib.keeps s.toArray j = true ∧ s[j] = x := by
  unfold Lib.compact Lib.compactUpTo
  rw [List.mem_map]
  constructor
  · rintro ⟨j, hj, e⟩
    obtain ⟨h1, h2⟩ := List.mem_filter.1 hj
    have hl := List.mem_range.1 h1
    refine ⟨j, hl, h2, ?_⟩
    rw [getElem!_pos s.toArray j (by simpa using hl)] at e
    simpa using e
  · rintro ⟨j, hl, h2, e⟩
    refine ⟨j, List.mem_filter.2 ⟨List.mem_range.2 hl, h2⟩, ?_⟩
    rw [getElem!_pos s.toArray j (by simpa using hl)]
    simpa using e
theorem compact_mem {s : List Int} {x : Int} : x ∈ Lib.compact s ↔ x ∈ s := by
  rw [compact_mem_iff]
  constructor
  · rintro ⟨j, h, -, rfl⟩
    exact List.getElem_mem h
  · intro hx
    obtain ⟨j, hj, rfl⟩ := List.mem_iff_getElem.1 hx
    have h : ∀ j (hj : j < s.length), ∃ i, ∃ h : i < s.length, Lib.keeps s.toArray i = true ∧ s[i] = s[j] := by
      intro j
      induction j with
      | zero => exact fun hj => ⟨0, hj, (keeps_iff hj).2 (Or.inl rfl), rfl⟩
      | succ j ih =>
        intro hj
        by_cases e : s[j + 1] = s[j]'(by omega)
        · obtain ⟨i, h1, h2, h3⟩ := ih (by omega)
          exact ⟨i, h1, h2, h3.trans e.symm⟩
        · exact ⟨j + 1, hj, (keeps_iff hj).2 (Or.inr ⟨by omega, e⟩), rfl⟩
    exact h j hj
theorem get_le' {s : List Int} (h : s.Pairwise (· ≤ ·)) {i j : Nat} (hij : i ≤ j) (hj : j < s.length) : s[i]'(by omega) ≤ s[j] := by
  rcases Nat.lt_or_eq_of_le hij with e | e
  · exact List.pairwise_iff_getElem.1 h i j (by omega) hj e
  · subst e; exact Int.le_refl _
theorem compact_up {s : List Int} (h : s.Pairwise (· ≤ ·)) : (Lib.compact s).Pairwise (· < ·) := by
  unfold Lib.compact Lib.compactUpTo
  rw [List.pairwise_map]
  have hr : ((List.range s.length).filter (Lib.keeps s.toArray)).Pairwise (· < ·) := List.pairwise_lt_range.filter _
  refine List.Pairwise.imp_of_mem ?_ hr
  intro i j hi hj hij
  have hi' := List.mem_range.1 (List.mem_filter.1 hi).1
  obtain ⟨hj1, hj2⟩ := List.mem_filter.1 hj
  have hj' := List.mem_range.1 hj1
  rw [getElem!_pos s.toArray i (by simpa using hi'), getElem!_pos s.toArray j (by simpa using hj')]
  rcases (keeps_iff hj').1 hj2 with e | ⟨h0, e⟩
  · omega
  · have h1 := get_le' h (i := i) (j := j - 1) (by omega) (by omega)
    have h2 := get_le' h (i := j - 1) (j := j) (by omega) hj'
    simp only [List.getElem_toArray]
    omega
/-- A rising list of numbers between two bounds is no longer than they are apart. -/
theorem up_len : ∀ {l : List Int} {a b : Int}, l.Pairwise (· < ·) → (∀ x ∈ l, a ≤ x ∧ x < b) → l.length ≤ (b - a).toNat
  | [], _, _, _, _ => Nat.zero_le _
  | x :: t, a, b, hp, hx => by
    obtain ⟨h1, h2⟩ := List.pairwise_cons.1 hp
    have h0 := hx x List.mem_cons_self
    have := up_len (l := t) (a := x + 1) (b := b) h2 fun y hy => by
      have := h1 y hy
      have := (hx y (List.mem_cons_of_mem _ hy)).2
      omega
    rw [List.length_cons]
    omega
/-- The parents of some loops, one after the other. -/
def belowK (lp : List Lp) (next : List Int) (k : Nat) : List Int := (next.take k).flatMap fun x => parN lp x.toNat
theorem belowK_next {lp : List Lp} {next : List Int} {k : Nat} {x : Int} (h : next[k]? = some x) : belowK lp next (k + 1) = belowK lp next k ++ parN lp x.toNat := by
  unfold belowK
  rw [List.take_add_one, h, List.flatMap_append]
  simp
/-- The loops below, each once, rising. -/
def belowC (lp : List Lp) (next : List Int) : List Int := Lib.compact (sortZ (belowK lp next next.length))
theorem belowC_L {lp : List Lp} {next : List Int} (hn : ∀ x ∈ next, 0 ≤ x) : BelowL lp next (belowC lp next) := by
  refine ⟨fun x => ?_⟩
  unfold belowC belowK
  rw [compact_mem, sortZ_mem, List.take_length, List.mem_flatMap]
  constructor
  · rintro ⟨y, hy, hx⟩
    have := hn y hy
    exact ⟨y.toNat, by rw [Int.toNat_of_nonneg this]; exact hy, hx⟩
  · rintro ⟨i, hi, hx⟩
    exact ⟨(i : Int), hi, by simpa using hx⟩
theorem belowC_up (lp : List Lp) (next : List Int) : (belowC lp next).Pairwise (· < ·) := compact_up (sort_le _)
section
variable {lp : List Lp} {bound : List Int} {K lv : Nat}
theorem belowK_len (h : GrN lp bound K lv) {next : List Int} (hn : ∀ x ∈ next, ∃ i : Nat, x = (i : Int) ∧ i < lp.length) : ∀ k, k ≤ next.length → (belowK lp next k).length ≤ k * lp.length
  | 0, _ => by simp [belowK]
  | k + 1, hk => by
    have hx : next[k]? = some next[k] := List.getElem?_eq_getElem (by omega)
    rw [belowK_next hx, List.length_append]
    have h1 := belowK_len h hn k (by omega)
    obtain ⟨i, e, hi⟩ := hn _ (List.getElem_mem (show k < next.length by omega))
    have h2 : (parN lp (next[k]).toNat).length ≤ lp.length := by
      rw [e, Int.toNat_natCast]
      obtain ⟨hnd, hp⟩ := h.par i hi
      have hs := (List.mergeSort_perm (parN lp i) fun x y => decide (x ≤ y))
      have hup : (sortZ (parN lp i)).Pairwise (· < ·) := by
        have h1 : (sortZ (parN lp i)).Pairwise (· ≠ ·) := hs.nodup_iff.2 hnd
        exact (sort_le _).imp₂ (fun a b h1 h2 => by omega) h1
      have h3 := up_len (l := sortZ (parN lp i)) (a := 0) (b := (lp.length : Int)) hup fun x hx => by
        obtain ⟨q, e2, h4, -, -⟩ := hp x (sortZ_mem.1 hx)
        omega
      rw [sortZ_len] at h3
      omega
    rw [Nat.add_mul, Nat.one_mul]
    omega
end
/-- A map that marks some numbers. -/
def gO (out : Nat → Bool) : Int → Option Value := fun k => if 0 ≤ k ∧ out k.toNat = true then some (.bool true) else none
theorem gO_at (out : Nat → Bool) (i : Nat) : ((gO out) (i : Int)).getD (.bool false) = .bool (out i) := by
  unfold gO
  rw [Int.toNat_natCast]
  cases h : out i with
  | true => rw [if_pos ⟨by omega, rfl⟩]; rfl
  | false => rw [if_neg (by simp)]; rfl
theorem gO_put (out : Nat → Bool) (i : Nat) : ∀ k, (fun j => if j = (i : Int) then some (Value.bool true) else gO out j) k = gO (fun j => out j || decide (j = i)) k := fun k => by
  unfold gO
  by_cases hk : k = (i : Int)
  · subst hk
    simp
  · simp only [if_neg hk]
    by_cases h0 : 0 ≤ k
    · have : ¬ k.toNat = i := by omega
      simp [h0, this]
    · simp [h0]
theorem gO_none : gO (fun _ => false) = fun _ => none := by
  funext k
  unfold gO
  simp
theorem putAll_next {out : Nat → Bool} {next : List Int} {k i : Nat} (h : next[k]? = some (i : Int)) : (fun j => putAll out (next.take k) j || decide (j = i)) = putAll out (next.take (k + 1)) := by
  funext j
  unfold putAll
  rw [List.take_add_one, h, Bool.or_assoc]
  congr 1
  rw [Bool.eq_iff_iff]
  simp only [Bool.or_eq_true, decide_eq_true_eq, List.mem_append, Option.toList_some, List.mem_singleton]
  have : (j : Int) = (i : Int) ↔ j = i := by omega
  rw [this]
theorem putAll_zero {out : Nat → Bool} {next : List Int} : putAll out (next.take 0) = out := by
  funext j
  unfold putAll
  simp
/-- What runs, within the loops. -/
def runL (lp : List Lp) (drop : List Int) : Nat → Bool := fun i => decide (i < lp.length) && runF lp drop i
theorem runL_eq {lp : List Lp} {drop : List Int} {out : Nat → Bool} (h1 : ∀ i, i < lp.length → out i = runF lp drop i) (h2 : ∀ i, lp.length ≤ i → out i = false) : out = runL lp drop := by
  funext i
  unfold runL
  by_cases hi : i < lp.length
  · rw [h1 i hi, decide_eq_true hi]; rfl
  · rw [h2 i (by omega), decide_eq_false hi]; rfl
end Go.Proofs.Ytbibndpkcilblaa
