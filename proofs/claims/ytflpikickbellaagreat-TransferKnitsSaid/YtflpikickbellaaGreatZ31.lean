/- Layer 27, plain. -/
import Derived.Test.YtflpikickbellaaGreatZ4
namespace Go.Proofs.YtflpikickbellaaGreat
open Go.RowKit
set_option maxRecDepth 100000
structure Lp where
 row : Int
 cell : Int
 par : List Int
 purl : Bool
def lp0 : Lp := ⟨0, 0, [], false⟩
def usedN (at_ n : Nat) : List Int := (List.range n).map fun i : Nat => ((at_ + i : Nat) : Int)
def newsL (row k : Int) (s : Stc) (used : List Int) (lp : List Lp) : List Lp :=
 if s.kind = 5 then List.replicate s.a.toNat ⟨row, k, used, s.purl⟩
 else if s.kind = 9 then List.replicate s.a.toNat ⟨row, k, [], s.purl⟩
 else if s.kind = 6 ∨ s.kind = 7 then (used.drop s.a.toNat ++ used.take s.a.toNat).map fun x => ⟨row, k, [x], s.purl⟩
 else if s.kind = 10 then []
 else if s.kind = 4 then [⟨row, k, used.reverse, s.purl⟩]
 else if s.kind = 8 then [⟨row, k, used, (lp.getD (used.getD 0 0).toNat lp0).purl⟩]
 else [⟨row, k, used, s.purl⟩]
def crossP (s : Stc) (first i n : Nat) : Int × Int := if s.kind = 7 then ((first + n : Nat), ((first + s.b.toNat + i : Nat) : Int)) else (((first + s.b.toNat + i : Nat) : Int), ((first + n : Nat) : Int))
def crossI (s : Stc) (first i k : Nat) : List (Int × Int) := (List.range k).map (crossP s first i)
def crossN (s : Stc) (first k : Nat) : List (Int × Int) := (List.range k).flatMap fun i => crossI s first i s.b.toNat
def crossL (s : Stc) (first : Nat) : List (Int × Int) := if s.kind = 6 ∨ s.kind = 7 then crossN s first s.a.toNat else []
def boundL (s : Stc) (used : List Int) : List Int := if s.kind = 10 then used else []
structure Pw where
 lp : List Lp
 bound : List Int
 cross : List (Int × Int)
 rows : List Int
 next : Nat
def stepC (row k : Int) (s : Stc) (t : Pw) : Pw :=
 ⟨t.lp ++ newsL row k s (usedN t.next (usesS s).toNat) t.lp, t.bound ++ boundL s (usedN t.next (usesS s).toNat), t.cross ++ crossL s t.lp.length, t.rows, t.next + (usesS s).toNat⟩
def rowRun (row : Int) (l : List Stc) (t : Pw) : Nat → Pw
 | 0 => t
 | k + 1 => stepC row (k : Int) (l.getD k ⟨0, false, 0, 0⟩) (rowRun row l t k)
def endR (t : Pw) : Pw := ⟨t.lp, t.bound, t.cross, t.rows ++ [(t.lp.length : Int)], t.next⟩
def startP (n : Nat) : Pw := ⟨(List.range n).map fun i : Nat => ⟨0, (i : Int), [], false⟩, [], [], [0, (n : Int)], 0⟩
theorem startP_len (n : Nat) : (startP n).lp.length = n := by simp [startP]
theorem crossI_next (s : Stc) (f i k : Nat) : crossI s f i (k + 1) = crossI s f i k ++ [crossP s f i k] := by unfold crossI; rw [List.range_succ, List.map_append]; rfl
theorem crossN_next (s : Stc) (f k : Nat) : crossN s f (k + 1) = crossN s f k ++ crossI s f k s.b.toNat := by unfold crossN; rw [List.range_succ, List.flatMap_append]; simp
theorem crossI_len (s : Stc) (f i k : Nat) : (crossI s f i k).length = k := by unfold crossI; rw [List.length_map, List.length_range]
theorem crossN_len (s : Stc) (f : Nat) : ∀ k, (crossN s f k).length = k * s.b.toNat
 | 0 => by simp [crossN]
 | k + 1 => by rw [crossN_next, List.length_append, crossI_len, crossN_len s f k, Nat.add_mul, Nat.one_mul]
theorem usedN_len (a n : Nat) : (usedN a n).length = n := by unfold usedN; rw [List.length_map, List.length_range]
theorem usedN_next (a n : Nat) : usedN a (n + 1) = usedN a n ++ [((a + n : Nat) : Int)] := by unfold usedN; rw [List.range_succ, List.map_append]; rfl
theorem usedN_at {a n i : Nat} (h : i < n) : (usedN a n)[i]? = some ((a + i : Nat) : Int) := by unfold usedN; rw [List.getElem?_map, List.getElem?_range h]; rfl
structure StcK (s : Stc) : Prop where
 lo : 1 ≤ s.kind
 hi : s.kind ≤ 10
 plain : s.kind = 1 ∨ s.kind = 2 ∨ s.kind = 8 → s.a = 0 ∧ s.b = 0
 over : s.kind = 2 ∨ s.kind = 9 → s.purl = false
 few : s.kind = 3 ∨ s.kind = 4 ∨ s.kind = 5 → 2 ≤ s.a ∧ s.a ≤ 4 ∧ s.b = 0
 cable : s.kind = 6 ∨ s.kind = 7 → 1 ≤ s.a ∧ s.a ≤ 6 ∧ 1 ≤ s.b ∧ s.b ≤ 6
 many : s.kind = 9 ∨ s.kind = 10 → 1 ≤ s.a ∧ s.a ≤ 200 ∧ s.b = 0
 uses : usesS s = if s.kind = 2 ∨ s.kind = 9 then 0 else if s.kind = 3 ∨ s.kind = 4 ∨ s.kind = 10 then s.a else if s.kind = 6 ∨ s.kind = 7 then s.a + s.b else 1
 makes : makesS s = if s.kind = 10 then 0 else if s.kind = 5 ∨ s.kind = 9 then s.a else if s.kind = 6 ∨ s.kind = 7 then s.a + s.b else 1
theorem stc_k {s : Stc} (h : s.ok = true) : StcK s := by
 unfold Stc.ok at h
 simp only [Bool.and_eq_true, decide_eq_true_eq] at h
 obtain ⟨⟨k1, k2⟩, ⟨a1, a2⟩, ⟨b1, b2⟩, hp⟩ := h
 obtain ⟨kind, purl, a, b⟩ := s
 simp only at k1 k2 a1 a2 b1 b2 hp
 have hu : usesS ⟨kind, purl, a, b⟩ = loopsI ⟨kind, purl, a, b⟩ (formI kind).uses := rfl
 have hm : makesS ⟨kind, purl, a, b⟩ = loopsI ⟨kind, purl, a, b⟩ (formI kind).made := rfl
 rcases (by omega : kind = 1 ∨ kind = 2 ∨ kind = 3 ∨ kind = 4 ∨ kind = 5 ∨ kind = 6 ∨ kind = 7 ∨ kind = 8 ∨ kind = 9 ∨ kind = 10) with rfl | rfl | rfl | rfl | rfl | rfl | rfl | rfl | rfl | rfl
 all_goals
  refine ⟨k1, k2, fun h => ?_, fun h => ?_, fun h => ?_, fun h => ?_, fun h => ?_, ?_, ?_⟩
 all_goals first
  | (simp at h; done)
  | (rw [hu]; rfl)
  | (rw [hm]; rfl)
  | (cases purl; rfl; exact absurd hp (by decide))
  | (simp [formI, formT] at a1 a2 b1 b2 ⊢; omega)
  | (rw [hu]; simp [formI, formT, loopsI])
  | (rw [hm]; simp [formI, formT, loopsI])
theorem StcK.nat {s : Stc} (h : StcK s) : 0 ≤ s.a ∧ s.a ≤ 200 ∧ 0 ≤ s.b ∧ s.b ≤ 6 ∧ 0 ≤ usesS s ∧ usesS s ≤ 200 ∧ 0 ≤ makesS s ∧ makesS s ≤ 200 := by
 obtain ⟨h1, h2, h3, -, h5, h6, h7, h8, h9⟩ := h
 rw [h8, h9]
 rcases (by omega : s.kind = 1 ∨ s.kind = 2 ∨ s.kind = 3 ∨ s.kind = 4 ∨ s.kind = 5 ∨ s.kind = 6 ∨ s.kind = 7 ∨ s.kind = 8 ∨ s.kind = 9 ∨ s.kind = 10) with e | e | e | e | e | e | e | e | e | e <;> rw [e] at h3 h5 h6 h7 ⊢ <;> simp at h3 h5 h6 h7 ⊢ <;> omega
theorem newsL_len {s : Stc} (h : StcK s) (row k : Int) (at_ : Nat) (lp : List Lp) : ((newsL row k s (usedN at_ (usesS s).toNat) lp).length : Int) = makesS s := by
 have hn := h.nat
 obtain ⟨h1, h2, h3, -, h5, h6, h7, h8, h9⟩ := h
 unfold newsL
 rw [h9]
 rcases (by omega : s.kind = 1 ∨ s.kind = 2 ∨ s.kind = 3 ∨ s.kind = 4 ∨ s.kind = 5 ∨ s.kind = 6 ∨ s.kind = 7 ∨ s.kind = 8 ∨ s.kind = 9 ∨ s.kind = 10) with e | e | e | e | e | e | e | e | e | e <;> rw [e] at h8 ⊢ <;> simp at h8 ⊢
 · omega
 · rw [h8, usedN_len]; omega
 · rw [h8, usedN_len]; omega
 · omega
theorem rowRun_next {row : Int} {l : List Stc} {t : Pw} {k : Nat} {s : Stc} (h : l[k]? = some s) : rowRun row l t (k + 1) = stepC row (k : Int) s (rowRun row l t k) := by
 show stepC row (k : Int) (l.getD k _) _ = _
 rw [List.getD_eq_getElem?_getD, h]; rfl
theorem rowRun_len {row : Int} {l : List Stc} (hl : ∀ s ∈ l, StcK s) (t : Pw) : ∀ k, k ≤ l.length →
 ((rowRun row l t k).next : Int) = t.next + sumU (l.take k) ∧ ((rowRun row l t k).lp.length : Int) = t.lp.length + sumM (l.take k) ∧ (rowRun row l t k).rows = t.rows
 | 0, _ => by
   refine ⟨?_, ?_, rfl⟩ <;> simp [rowRun, sumU, sumM]
 | k + 1, hk => by
   obtain ⟨h1, h2, h3⟩ := rowRun_len hl t k (by omega)
   have hx : l[k]? = some l[k] := List.getElem?_eq_getElem (by omega)
   have hc := hl _ (List.getElem_mem (show k < l.length by omega))
   have hn := hc.nat
   rw [rowRun_next hx]
   unfold stepC sumU sumM
   rw [sum_take hx, sum_take hx]
   unfold sumU at h1
   unfold sumM at h2
   refine ⟨by simp only; omega, ?_, h3⟩
   simp only
   rw [List.length_append]
   have := newsL_len hc row (k : Int) (rowRun row l t k).next (rowRun row l t k).lp
   omega
theorem sumU_le {l : List Stc} (hl : ∀ s ∈ l, StcK s) {k : Nat} {s : Stc} (h : l[k]? = some s) : sumU (l.take k) + usesS s ≤ sumU l ∧ 0 ≤ sumU (l.take k) := by
 have hk := (List.getElem?_eq_some_iff.1 h).1
 have h0 : ∀ (m : List Stc), (∀ s ∈ m, StcK s) → 0 ≤ sumU m := fun m hm => by
  unfold sumU
  induction m with
  | nil => simp
  | cons x m ih =>
    rw [List.map_cons, List.sum_cons]
    have := (hm x List.mem_cons_self).nat
    have := ih fun y hy => hm y (List.mem_cons_of_mem _ hy)
    omega
 have e : sumU l = sumU (l.take (k + 1)) + sumU (l.drop (k + 1)) := by
  unfold sumU
  rw [← List.sum_append, ← List.map_append, List.take_append_drop]
 have e2 : sumU (l.take (k + 1)) = sumU (l.take k) + usesS s := by unfold sumU; rw [sum_take h]
 have h1 := h0 (l.drop (k + 1)) fun x hx => hl x (List.mem_of_mem_drop hx)
 have h2 := h0 (l.take k) fun x hx => hl x (List.mem_of_mem_take hx)
 omega
end Go.Proofs.YtflpikickbellaaGreat
