/- Layer 29, plain: what Replay does. -/
import Derived.Test.YtodjkifcbgmckaaBase
namespace Go.Proofs.Ytodjkifcbgmckaa
open Go.RowKit
set_option maxRecDepth 100000

structure Mv where
  slip : Bool
  nd : Int
/-- A move names a needle that is there; a slip names a cable needle. -/
def mvOk (k : Nat) (m : Mv) : Bool := decide (-1 ≤ m.nd ∧ m.nd < (k : Int)) && !(m.slip && decide (m.nd < 0))
/-- The loops on the cable needles, the next loop on the left needle, the loops that are worked; what each loop becomes, how deep it lay. -/
structure RpS where
  on : List (List Nat)
  left : Nat
  done : Nat
  to_ : List Int
  deep : List Int
def rp0 (n k : Nat) : RpS := ⟨List.replicate k [], 0, 0, List.replicate n 0, List.replicate n 0⟩
def rpStep (n : Nat) (ns : List Int) (s : RpS) (m : Mv) : Option RpS :=
  if m.slip = true ∨ m.nd < 0 then
    if s.left = n then none
    else if m.slip = true then some { s with on := s.on.set m.nd.toNat (s.on.getD m.nd.toNat [] ++ [s.left]), left := s.left + 1 }
    else some { s with to_ := s.to_.set s.left (s.done : Int), left := s.left + 1, done := s.done + 1 }
  else
    match s.on.getD m.nd.toNat [] with
    | [] => none
    | x :: r => some { s with on := s.on.set m.nd.toNat r, to_ := s.to_.set x (s.done : Int), deep := s.deep.set x (ns.getD m.nd.toNat 0), done := s.done + 1 }
def rpRun (n : Nat) (ns : List Int) (s : RpS) : List Mv → Option RpS
  | [] => some s
  | m :: l => match rpStep n ns s m with
    | none => none
    | some t => rpRun n ns t l
theorem rpRun_step {n : Nat} {ns : List Int} {s : RpS} {l : List Mv} {k : Nat} {m : Mv} (h : l[k]? = some m) : rpRun n ns s (l.drop k) = match rpStep n ns s m with | none => none | some t => rpRun n ns t (l.drop (k + 1)) := by
  obtain ⟨hk, e⟩ := List.getElem?_eq_some_iff.1 h
  rw [List.drop_eq_getElem_cons hk, e]
  rfl
/-- What a state keeps to: every loop below left is worked, or lies on one needle. -/
structure RpOk (n : Nat) (k : Nat) (s : RpS) : Prop where
  ons : s.on.length = k
  lto : s.to_.length = n
  ldp : s.deep.length = n
  left : s.left ≤ n
  low : ∀ q ∈ s.on, ∀ x ∈ q, x < s.left
  cnt : s.done + (s.on.map List.length).sum = s.left
theorem RpOk.new (n k : Nat) : RpOk n k (rp0 n k) := by
  refine ⟨List.length_replicate .., List.length_replicate .., List.length_replicate .., Nat.zero_le _, fun q hq x hx => ?_, ?_⟩
  · rw [List.eq_of_mem_replicate hq] at hx; cases hx
  · simp [rp0]
theorem sum_set : ∀ (l : List Nat) (i x : Nat), i < l.length → (l.set i x).sum + l.getD i 0 = l.sum + x
  | [], _, _, h => absurd h (Nat.not_lt_zero _)
  | a :: l, 0, x, _ => by simp; omega
  | a :: l, i + 1, x, h => by
    have := sum_set l i x (by simpa using h)
    simp only [List.set_cons_succ, List.sum_cons, List.getD_cons_succ] at this ⊢
    omega
theorem map_set_len (l : List (List Nat)) (i : Nat) (q : List Nat) : ((l.set i q).map List.length) = (l.map List.length).set i q.length := List.map_set
theorem getD_map_len (l : List (List Nat)) (i : Nat) : (l.map List.length).getD i 0 = (l.getD i []).length := by
  simp only [List.getD_eq_getElem?_getD, List.getElem?_map]
  cases l[i]? <;> rfl
theorem mem_getD {l : List (List Nat)} {i : Nat} {x : Nat} (h : x ∈ l.getD i []) : ∃ q ∈ l, x ∈ q := by
  rw [List.getD_eq_getElem?_getD] at h
  cases e : l[i]? with
  | none => rw [e] at h; cases h
  | some q => rw [e] at h; exact ⟨q, List.mem_of_getElem? e, h⟩
theorem RpOk.step {n k : Nat} {ns : List Int} {s t : RpS} {m : Mv} (h : RpOk n k s) (hm : mvOk k m = true) (e : rpStep n ns s m = some t) : RpOk n k t := by
  have hmk : -1 ≤ m.nd ∧ m.nd < (k : Int) ∧ (m.slip = true → 0 ≤ m.nd) := by
    unfold mvOk at hm
    rw [Bool.and_eq_true, decide_eq_true_iff] at hm
    refine ⟨hm.1.1, hm.1.2, fun hs => ?_⟩
    have h2 := hm.2
    rw [hs] at h2
    simp at h2
    omega
  unfold rpStep at e
  split at e
  · rename_i hc
    split at e
    · cases e
    · rename_i hl
      have hll := h.left
      split at e
      · rename_i hs
        cases e
        have hi : m.nd.toNat < s.on.length := by rw [h.ons]; have := hmk.2.2 hs; omega
        refine ⟨by rw [List.length_set]; exact h.ons, h.lto, h.ldp, by show s.left + 1 ≤ n; omega, fun q hq x hx => ?_, ?_⟩
        · show x < s.left + 1
          rcases List.mem_or_eq_of_mem_set hq with hq | hq
          · have := h.low q hq x hx; omega
          · rw [hq] at hx
            rcases List.mem_append.1 hx with hx | hx
            · obtain ⟨q', hq', hx'⟩ := mem_getD hx
              have := h.low q' hq' x hx'; omega
            · rw [List.mem_singleton.1 hx]; omega
        · show s.done + ((s.on.set m.nd.toNat _).map List.length).sum = s.left + 1
          rw [map_set_len]
          have h1 := sum_set (s.on.map List.length) m.nd.toNat (s.on.getD m.nd.toNat [] ++ [s.left]).length (by simpa using hi)
          rw [getD_map_len, List.length_append, List.length_singleton] at h1
          have := h.cnt
          rw [List.length_append, List.length_singleton]
          omega
      · cases e
        refine ⟨h.ons, by show (s.to_.set _ _).length = n; rw [List.length_set]; exact h.lto, h.ldp, by show s.left + 1 ≤ n; omega, fun q hq x hx => ?_, ?_⟩
        · have := h.low q hq x hx; show x < s.left + 1; omega
        · have := h.cnt; show s.done + 1 + (s.on.map List.length).sum = s.left + 1; omega
  · rename_i hc
    have hs : m.slip ≠ true ∧ 0 ≤ m.nd := ⟨fun h => hc (Or.inl h), by have : ¬ m.nd < 0 := fun h => hc (Or.inr h); omega⟩
    have hi : m.nd.toNat < s.on.length := by rw [h.ons]; omega
    cases hg : s.on.getD m.nd.toNat [] with
    | nil => rw [hg] at e; cases e
    | cons x r =>
      rw [hg] at e
      cases e
      have hq : ∃ q ∈ s.on, q = x :: r := by
        rw [List.getD_eq_getElem?_getD, List.getElem?_eq_getElem hi] at hg
        exact ⟨_, List.getElem_mem hi, hg⟩
      refine ⟨by rw [List.length_set]; exact h.ons, by show (s.to_.set _ _).length = n; rw [List.length_set]; exact h.lto, by show (s.deep.set _ _).length = n; rw [List.length_set]; exact h.ldp, h.left, fun q hq' y hy => ?_, ?_⟩
      · rcases List.mem_or_eq_of_mem_set hq' with hq' | hq'
        · exact h.low q hq' y hy
        · obtain ⟨q0, h0, e0⟩ := hq
          exact h.low q0 h0 y (by rw [e0]; exact List.mem_cons_of_mem _ (hq' ▸ hy))
      · show s.done + 1 + ((s.on.set m.nd.toNat r).map List.length).sum = s.left
        rw [map_set_len]
        have h1 := sum_set (s.on.map List.length) m.nd.toNat r.length (by simpa using hi)
        rw [getD_map_len, hg, List.length_cons] at h1
        have := h.cnt
        omega
/-- A braid: what each loop becomes; the pairs that cross in front. -/
structure Brd where
  to_ : List Int
  fronts : List (Int × Int)
def chg (to_ : List Int) (a b : Nat) : Bool := decide (a < b ∧ to_.getD b 0 < to_.getD a 0)
def rpFronts (n : Nat) (to_ deep : List Int) : List (Int × Int) :=
  (List.range n).flatMap fun (a : Nat) => ((List.range n).filter (fun b => chg to_ a b && decide (deep.getD b 0 < deep.getD a 0))).map (fun (b : Nat) => ((a : Int), (b : Int)))
def cabB (l : List Int) : Bool := decide (l.length ≤ 4) && decide (∀ x ∈ l, x ≠ 0 ∧ -4 ≤ x ∧ x ≤ 4) && decide l.Nodup
def rpE (n : Int) (ns : List Int) (l : List Mv) : Brd × Int :=
  if n < 0 ∨ 8 < n ∨ cabB ns = false then (⟨[], []⟩, 2)
  else if l.any (fun m => !mvOk ns.length m) then (⟨[], []⟩, 8)
  else match rpRun n.toNat ns (rp0 n.toNat ns.length) l with
    | none => (⟨[], []⟩, 36)
    | some s => if s.done = n.toNat then ((⟨s.to_, rpFronts n.toNat s.to_ s.deep⟩ : Brd), 0) else (⟨[], []⟩, 36)
end Go.Proofs.Ytodjkifcbgmckaa
