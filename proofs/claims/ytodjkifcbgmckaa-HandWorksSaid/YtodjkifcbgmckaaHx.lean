/- Layer 29, plain: what moves make has a right plan: what a replay keeps to. -/
import Derived.Test.YtodjkifcbgmckaaHw
import Derived.Test.YtodjkifcbgmckaaHp2
import Derived.Test.YtodjkifcbgmckaaHs2
namespace Go.Proofs.Ytodjkifcbgmckaa
open Go.RowKit
set_option maxRecDepth 100000

theorem set_get {α : Type} {l : List α} {i j : Nat} {d x : α} (hi : i < l.length) : (l.set i x).getD j d = if j = i then x else l.getD j d := by
  rw [List.getD_eq_getElem?_getD, List.getD_eq_getElem?_getD]
  by_cases e : j = i
  · subst e
    rw [if_pos rfl, List.getElem?_set_self hi]
    rfl
  · rw [if_neg e, List.getElem?_set_ne (fun h => e h.symm)]
/-- What is known of the plan that a replay has followed: pl x is the needle that loop x was slipped onto, or -1. -/
structure RpPl (n : Nat) (ns : List Int) (s : RpS) (pl : Nat → Int) (wk : Nat → Bool) : Prop where
  -- a loop that is worked has a number below done; two have not the same
  num : ∀ x, wk x = true → x < s.left ∧ 0 ≤ s.to_.getD x 0 ∧ s.to_.getD x 0 < (s.done : Int)
  inj : ∀ x y, wk x = true → wk y = true → s.to_.getD x 0 = s.to_.getD y 0 → x = y
  -- what is slipped and not worked lies on its needle, in order
  onq : ∀ x, x < s.left → wk x = false → 0 ≤ pl x ∧ x ∈ s.on.getD (pl x).toNat []
  que : ∀ i x, x ∈ s.on.getD i [] → x < s.left ∧ wk x = false ∧ pl x = (i : Int)
  ord : ∀ i, (s.on.getD i []).Pairwise (· < ·)
  -- from the left needle: worked at once
  low : ∀ x, x < s.left → pl x < 0 → wk x = true
  dep : ∀ x, wk x = true → s.deep.getD x 0 = deepI ns (pl x)
  dep0 : ∀ x, wk x = false → s.deep.getD x 0 = 0
  rng : ∀ x, x < s.left → -1 ≤ pl x ∧ pl x < (ns.length : Int)
  -- the order in which loops are worked
  fst : ∀ x y, x < y → wk x = true → pl x < 0 → wk y = true → s.to_.getD x 0 < s.to_.getD y 0
  same : ∀ x y, x < y → wk y = true → pl x = pl y → wk x = true ∧ s.to_.getD x 0 < s.to_.getD y 0
  pos : (n : Int) ≥ (s.left : Int)
theorem RpPl.new (n : Nat) (ns : List Int) : RpPl n ns (rp0 n ns.length) (fun _ => -1) (fun _ => false) where
  num := fun x h => by cases h
  inj := fun x y h => by cases h
  onq := fun x h => absurd h (Nat.not_lt_zero _)
  que := fun i x h => by
    obtain ⟨q, hq, hx⟩ := mem_getD h
    rw [List.eq_of_mem_replicate hq] at hx
    cases hx
  ord := fun i => by
    show (List.Pairwise _ ((List.replicate ns.length []).getD i []))
    rw [List.getD_eq_getElem?_getD, List.getElem?_replicate]
    split <;> exact List.Pairwise.nil
  low := fun x h => absurd h (Nat.not_lt_zero _)
  dep := fun x h => by cases h
  dep0 := fun x _ => by
    show (List.replicate n (0 : Int)).getD x 0 = 0
    rw [List.getD_eq_getElem?_getD, List.getElem?_replicate]
    split <;> rfl
  rng := fun x h => absurd h (Nat.not_lt_zero _)
  fst := fun x y _ h => by cases h
  same := fun x y _ h => by cases h
  pos := by show (n : Int) ≥ 0; omega
/-- A loop is slipped onto a needle. -/
theorem RpPl.slip {n : Nat} {ns : List Int} {s : RpS} {pl : Nat → Int} {wk : Nat → Bool} (h : RpPl n ns s pl wk) (ho : RpOk n ns.length s) (hl : s.left ≠ n) {i : Nat} (hi : i < ns.length) :
    RpPl n ns { s with on := s.on.set i (s.on.getD i [] ++ [s.left]), left := s.left + 1 } (fun x => if x = s.left then (i : Int) else pl x) wk := by
  have hil : i < s.on.length := by rw [ho.ons]; exact hi
  have hwl : wk s.left = false := by
    cases e : wk s.left with
    | false => rfl
    | true => have := (h.num _ e).1; omega
  have hlt : ∀ {x}, wk x = true → x ≠ s.left := fun hx e => by rw [e, hwl] at hx; cases hx
  have hle := ho.left
  refine ⟨fun x hx => ?_, h.inj, fun x hx hw => ?_, fun j x hx => ?_, fun j => ?_, fun x hx hp => ?_, fun x hx => ?_, h.dep0, fun x hx => ?_, fun x y hxy hx hp hy => ?_, fun x y hxy hy hp => ?_, ?_⟩
  · have := h.num x hx
    exact ⟨by show x < s.left + 1; omega, this.2⟩
  · show 0 ≤ (if x = s.left then (i : Int) else pl x) ∧ x ∈ (s.on.set i _).getD (if x = s.left then (i : Int) else pl x).toNat []
    by_cases e : x = s.left
    · rw [if_pos e]
      refine ⟨by omega, ?_⟩
      rw [set_get hil, if_pos (by omega)]
      exact List.mem_append_right _ (by rw [e]; exact List.mem_singleton.2 rfl)
    · rw [if_neg e]
      have hx' : x < s.left := by
        have : x < s.left + 1 := hx
        omega
      obtain ⟨h1, h2⟩ := h.onq x hx' hw
      refine ⟨h1, ?_⟩
      rw [set_get hil]
      split
      · rename_i e2; rw [e2] at h2; exact List.mem_append_left _ h2
      · exact h2
  · show x < s.left + 1 ∧ wk x = false ∧ (if x = s.left then (i : Int) else pl x) = (j : Int)
    have hx2 : x ∈ (s.on.set i (s.on.getD i [] ++ [s.left])).getD j [] := hx
    rw [set_get hil] at hx2
    split at hx2
    · rename_i e
      rcases List.mem_append.1 hx2 with hx3 | hx3
      · obtain ⟨a, b, c⟩ := h.que i x hx3
        exact ⟨by omega, b, by rw [if_neg (by omega), c, e]⟩
      · have hx4 := List.mem_singleton.1 hx3
        exact ⟨by omega, by rw [hx4]; exact hwl, by rw [if_pos hx4, e]⟩
    · obtain ⟨a, b, c⟩ := h.que j x hx2
      exact ⟨by omega, b, by rw [if_neg (by omega), c]⟩
  · show ((s.on.set i (s.on.getD i [] ++ [s.left])).getD j []).Pairwise (· < ·)
    rw [set_get hil]
    split
    · refine List.pairwise_append.2 ⟨h.ord i, List.pairwise_singleton .., fun a ha b hb => ?_⟩
      rw [List.mem_singleton.1 hb]
      exact (h.que i a ha).1
    · exact h.ord j
  · have hx' : x < s.left + 1 := hx
    have hp' : (if x = s.left then (i : Int) else pl x) < 0 := hp
    split at hp'
    · omega
    · exact h.low x (by omega) hp'
  · show s.deep.getD x 0 = deepI ns (if x = s.left then (i : Int) else pl x)
    rw [if_neg (hlt hx)]
    exact h.dep x hx
  · show -1 ≤ (if x = s.left then (i : Int) else pl x) ∧ (if x = s.left then (i : Int) else pl x) < (ns.length : Int)
    have hx' : x < s.left + 1 := hx
    split
    · omega
    · exact h.rng x (by omega)
  · have hp' : (if x = s.left then (i : Int) else pl x) < 0 := hp
    rw [if_neg (hlt hx)] at hp'
    exact h.fst x y hxy hx hp' hy
  · have hp' : (if x = s.left then (i : Int) else pl x) = (if y = s.left then (i : Int) else pl y) := hp
    have hyl := (h.num y hy).1
    rw [if_neg (hlt hy), if_neg (by omega)] at hp'
    exact h.same x y hxy hy hp'
  · show (n : Int) ≥ ((s.left + 1 : Nat) : Int)
    omega
/-- A loop is worked from the left needle. -/
theorem RpPl.work {n : Nat} {ns : List Int} {s : RpS} {pl : Nat → Int} {wk : Nat → Bool} (h : RpPl n ns s pl wk) (ho : RpOk n ns.length s) (hl : s.left ≠ n) :
    RpPl n ns { s with to_ := s.to_.set s.left (s.done : Int), left := s.left + 1, done := s.done + 1 } (fun x => if x = s.left then -1 else pl x) (fun x => if x = s.left then true else wk x) := by
  have hle := ho.left
  have htl : s.left < s.to_.length := by rw [ho.lto]; omega
  have hwl : wk s.left = false := by
    cases e : wk s.left with
    | false => rfl
    | true => have := (h.num _ e).1; omega
  have hlt : ∀ {x}, wk x = true → x ≠ s.left := fun hx e => by rw [e, hwl] at hx; cases hx
  have tg : ∀ x, (s.to_.set s.left (s.done : Int)).getD x 0 = if x = s.left then (s.done : Int) else s.to_.getD x 0 := fun x => set_get htl
  have wk' : ∀ {x}, (if x = s.left then true else wk x) = true → x = s.left ∨ (x ≠ s.left ∧ wk x = true) := fun {x} hx => by
    split at hx
    · exact Or.inl (by assumption)
    · exact Or.inr ⟨by assumption, hx⟩
  refine ⟨fun x hx => ?_, fun x y hx hy e => ?_, fun x hx hw => ?_, fun j x hx => ?_, h.ord, fun x hx hp => ?_, fun x hx => ?_, fun x hx => ?_, fun x hx => ?_, fun x y hxy hx hp hy => ?_, fun x y hxy hy hp => ?_, ?_⟩
  · show x < s.left + 1 ∧ 0 ≤ (s.to_.set s.left (s.done : Int)).getD x 0 ∧ (s.to_.set s.left (s.done : Int)).getD x 0 < ((s.done + 1 : Nat) : Int)
    rw [tg]
    rcases wk' hx with e | ⟨e, hx⟩
    · rw [if_pos e]; omega
    · rw [if_neg e]; have := h.num x hx; omega
  · have e' : (s.to_.set s.left (s.done : Int)).getD x 0 = (s.to_.set s.left (s.done : Int)).getD y 0 := e
    rw [tg, tg] at e'
    rcases wk' hx with e1 | ⟨e1, hx⟩
    · rcases wk' hy with e2 | ⟨e2, hy⟩
      · omega
      · rw [if_pos e1, if_neg e2] at e'; have := h.num y hy; omega
    · rcases wk' hy with e2 | ⟨e2, hy⟩
      · rw [if_neg e1, if_pos e2] at e'; have := h.num x hx; omega
      · rw [if_neg e1, if_neg e2] at e'; exact h.inj x y hx hy e'
  · have hw' : (if x = s.left then true else wk x) = false := hw
    have hx' : x < s.left + 1 := hx
    split at hw'
    · cases hw'
    · rename_i e
      show 0 ≤ (if x = s.left then (-1 : Int) else pl x) ∧ x ∈ s.on.getD (if x = s.left then (-1 : Int) else pl x).toNat []
      rw [if_neg e]
      exact h.onq x (by omega) hw'
  · obtain ⟨a, b, c⟩ := h.que j x hx
    exact ⟨by show x < s.left + 1; omega, by show (if x = s.left then true else wk x) = false; rw [if_neg (by omega)]; exact b, by show (if x = s.left then (-1 : Int) else pl x) = _; rw [if_neg (by omega)]; exact c⟩
  · show (if x = s.left then true else wk x) = true
    have hx' : x < s.left + 1 := hx
    have hp' : (if x = s.left then (-1 : Int) else pl x) < 0 := hp
    split
    · rfl
    · rename_i e
      rw [if_neg e] at hp'
      exact h.low x (by omega) hp'
  · show s.deep.getD x 0 = deepI ns (if x = s.left then (-1 : Int) else pl x)
    rcases wk' hx with e | ⟨e, hx⟩
    · rw [if_pos e, e, h.dep0 _ hwl]; rfl
    · rw [if_neg e]; exact h.dep x hx
  · have hw' : (if x = s.left then true else wk x) = false := hx
    split at hw'
    · cases hw'
    · exact h.dep0 x hw'
  · show -1 ≤ (if x = s.left then (-1 : Int) else pl x) ∧ (if x = s.left then (-1 : Int) else pl x) < (ns.length : Int)
    have hx' : x < s.left + 1 := hx
    split
    · omega
    · exact h.rng x (by omega)
  · show (s.to_.set s.left (s.done : Int)).getD x 0 < (s.to_.set s.left (s.done : Int)).getD y 0
    have hp' : (if x = s.left then (-1 : Int) else pl x) < 0 := hp
    rw [tg, tg]
    rcases wk' hy with e2 | ⟨e2, hy⟩
    · rcases wk' hx with e1 | ⟨e1, hx⟩
      · omega
      · rw [if_neg e1, if_pos e2]; have := h.num x hx; omega
    · have hyl := (h.num y hy).1
      rcases wk' hx with e1 | ⟨e1, hx⟩
      · omega
      · rw [if_neg e1] at hp'; rw [if_neg e1, if_neg e2]; exact h.fst x y hxy hx hp' hy
  · show (if x = s.left then true else wk x) = true ∧ (s.to_.set s.left (s.done : Int)).getD x 0 < (s.to_.set s.left (s.done : Int)).getD y 0
    have hp' : (if x = s.left then (-1 : Int) else pl x) = (if y = s.left then (-1 : Int) else pl y) := hp
    rw [tg, tg]
    rcases wk' hy with e2 | ⟨e2, hy⟩
    · have e1 : x ≠ s.left := by omega
      rw [if_neg e1, if_pos e2] at hp'
      have hx := h.low x (by omega) (by omega)
      rw [if_neg e1, if_neg e1, if_pos e2]
      have := h.num x hx
      exact ⟨hx, by omega⟩
    · have hyl := (h.num y hy).1
      have e1 : x ≠ s.left := by omega
      rw [if_neg e1, if_neg e2] at hp'
      rw [if_neg e1, if_neg e1, if_neg e2]
      exact h.same x y hxy hy hp'
  · show (n : Int) ≥ ((s.left + 1 : Nat) : Int)
    omega
/-- A loop is worked from a cable needle. -/
theorem RpPl.take {n : Nat} {ns : List Int} {s : RpS} {pl : Nat → Int} {wk : Nat → Bool} (h : RpPl n ns s pl wk) (ho : RpOk n ns.length s) {i x0 : Nat} {r : List Nat} (hi : i < ns.length) (hg : s.on.getD i [] = x0 :: r) :
    RpPl n ns { s with on := s.on.set i r, to_ := s.to_.set x0 (s.done : Int), deep := s.deep.set x0 (ns.getD i 0), done := s.done + 1 } pl (fun x => if x = x0 then true else wk x) := by
  have hil : i < s.on.length := by rw [ho.ons]; exact hi
  obtain ⟨q1, q2, q3⟩ := h.que i x0 (by rw [hg]; exact List.mem_cons_self)
  have hle := ho.left
  have htl : x0 < s.to_.length := by rw [ho.lto]; omega
  have hdl : x0 < s.deep.length := by rw [ho.ldp]; omega
  have tg : ∀ x, (s.to_.set x0 (s.done : Int)).getD x 0 = if x = x0 then (s.done : Int) else s.to_.getD x 0 := fun x => set_get htl
  have dg : ∀ x, (s.deep.set x0 (ns.getD i 0)).getD x 0 = if x = x0 then ns.getD i 0 else s.deep.getD x 0 := fun x => set_get hdl
  have og := h.ord i
  rw [hg] at og
  obtain ⟨og1, og2⟩ := List.pairwise_cons.1 og
  have hlt : ∀ {x}, wk x = true → x ≠ x0 := fun hx e => by rw [e, q2] at hx; cases hx
  have wk' : ∀ {x}, (if x = x0 then true else wk x) = true → x = x0 ∨ (x ≠ x0 ∧ wk x = true) := fun {x} hx => by
    split at hx
    · exact Or.inl (by assumption)
    · exact Or.inr ⟨by assumption, hx⟩
  refine ⟨fun x hx => ?_, fun x y hx hy e => ?_, fun x hx hw => ?_, fun j x hx => ?_, fun j => ?_, fun x hx hp => ?_, fun x hx => ?_, fun x hx => ?_, h.rng, fun x y hxy hx hp hy => ?_, fun x y hxy hy hp => ?_, h.pos⟩
  · show x < s.left ∧ 0 ≤ (s.to_.set x0 (s.done : Int)).getD x 0 ∧ (s.to_.set x0 (s.done : Int)).getD x 0 < ((s.done + 1 : Nat) : Int)
    rw [tg]
    rcases wk' hx with e | ⟨e, hx⟩
    · rw [if_pos e]; omega
    · rw [if_neg e]; have := h.num x hx; omega
  · have e' : (s.to_.set x0 (s.done : Int)).getD x 0 = (s.to_.set x0 (s.done : Int)).getD y 0 := e
    rw [tg, tg] at e'
    rcases wk' hx with e1 | ⟨e1, hx⟩
    · rcases wk' hy with e2 | ⟨e2, hy⟩
      · omega
      · rw [if_pos e1, if_neg e2] at e'; have := h.num y hy; omega
    · rcases wk' hy with e2 | ⟨e2, hy⟩
      · rw [if_neg e1, if_pos e2] at e'; have := h.num x hx; omega
      · rw [if_neg e1, if_neg e2] at e'; exact h.inj x y hx hy e'
  · have hw' : (if x = x0 then true else wk x) = false := hw
    split at hw'
    · cases hw'
    · rename_i e
      obtain ⟨h1, h2⟩ := h.onq x hx hw'
      refine ⟨h1, ?_⟩
      show x ∈ (s.on.set i r).getD (pl x).toNat []
      rw [set_get hil]
      split
      · rename_i e2
        rw [e2, hg] at h2
        rcases List.mem_cons.1 h2 with h3 | h3
        · exact absurd h3 e
        · exact h3
      · exact h2
  · have hx2 : x ∈ (s.on.set i r).getD j [] := hx
    show x < s.left ∧ (if x = x0 then true else wk x) = false ∧ pl x = (j : Int)
    rw [set_get hil] at hx2
    split at hx2
    · rename_i e
      obtain ⟨a, b, c⟩ := h.que i x (by rw [hg]; exact List.mem_cons_of_mem _ hx2)
      have := og1 x hx2
      exact ⟨a, by rw [if_neg (by omega)]; exact b, by rw [c, e]⟩
    · rename_i e
      obtain ⟨a, b, c⟩ := h.que j x hx2
      refine ⟨a, ?_, c⟩
      rw [if_neg (fun e2 => by rw [e2, q3] at c; omega)]
      exact b
  · show ((s.on.set i r).getD j []).Pairwise (· < ·)
    rw [set_get hil]
    split
    · exact og2
    · exact h.ord j
  · show (if x = x0 then true else wk x) = true
    split
    · rfl
    · exact h.low x hx hp
  · show (s.deep.set x0 (ns.getD i 0)).getD x 0 = deepI ns (pl x)
    rw [dg]
    rcases wk' hx with e | ⟨e, hx⟩
    · rw [if_pos e, e, q3]
      unfold deepI
      rw [if_neg (by omega)]
      rfl
    · rw [if_neg e]; exact h.dep x hx
  · have hw' : (if x = x0 then true else wk x) = false := hx
    show (s.deep.set x0 (ns.getD i 0)).getD x 0 = 0
    split at hw'
    · cases hw'
    · rename_i e
      rw [dg, if_neg e]
      exact h.dep0 x hw'
  · show (s.to_.set x0 (s.done : Int)).getD x 0 < (s.to_.set x0 (s.done : Int)).getD y 0
    rw [tg, tg]
    rcases wk' hx with e1 | ⟨e1, hx⟩
    · rw [e1, q3] at hp; omega
    · rcases wk' hy with e2 | ⟨e2, hy⟩
      · rw [if_neg e1, if_pos e2]; have := h.num x hx; omega
      · rw [if_neg e1, if_neg e2]; exact h.fst x y hxy hx hp hy
  · show (if x = x0 then true else wk x) = true ∧ (s.to_.set x0 (s.done : Int)).getD x 0 < (s.to_.set x0 (s.done : Int)).getD y 0
    rw [tg, tg]
    rcases wk' hy with e2 | ⟨e2, hy⟩
    · have e1 : x ≠ x0 := by omega
      have hwx : wk x = true := by
        cases hw : wk x with
        | true => rfl
        | false =>
          obtain ⟨h1, h2⟩ := h.onq x (by omega) hw
          rw [hp, e2, q3, Int.toNat_natCast, hg] at h2
          rcases List.mem_cons.1 h2 with h3 | h3
          · exact absurd h3 e1
          · have := og1 x h3; omega
      rw [if_neg e1, if_neg e1, if_pos e2]
      have := h.num x hwx
      exact ⟨hwx, by omega⟩
    · by_cases e1 : x = x0
      · have := (h.same x y hxy hy hp).1
        rw [e1, q2] at this
        cases this
      · rw [if_neg e1, if_neg e1, if_neg e2]
        exact h.same x y hxy hy hp
/-- Every step keeps to it. -/
theorem RpPl.step {n : Nat} {ns : List Int} {s t : RpS} {pl : Nat → Int} {wk : Nat → Bool} {m : Mv} (h : RpPl n ns s pl wk) (ho : RpOk n ns.length s) (hm : mvOk ns.length m = true) (e : rpStep n ns s m = some t) : ∃ pl' wk', RpPl n ns t pl' wk' := by
  have hmk : -1 ≤ m.nd ∧ m.nd < (ns.length : Int) ∧ (m.slip = true → 0 ≤ m.nd) := by
    unfold mvOk at hm
    rw [Bool.and_eq_true, decide_eq_true_iff] at hm
    refine ⟨hm.1.1, hm.1.2, fun hs => ?_⟩
    have h2 := hm.2
    rw [hs] at h2
    simp at h2
    omega
  unfold rpStep at e
  split at e
  · split at e
    · cases e
    · rename_i hl
      split at e
      · rename_i hs
        cases e
        have := hmk.2.2 hs
        exact ⟨_, _, h.slip ho hl (by omega)⟩
      · cases e
        exact ⟨_, _, h.work ho hl⟩
  · rename_i hc
    have h0 : ¬ m.nd < 0 := fun h => hc (Or.inr h)
    cases hg : s.on.getD m.nd.toNat [] with
    | nil => rw [hg] at e; cases e
    | cons x r =>
      rw [hg] at e
      cases e
      exact ⟨_, _, h.take ho (by omega) hg⟩
theorem RpPl.run {n : Nat} {ns : List Int} : ∀ {l : List Mv} {s t : RpS} {pl : Nat → Int} {wk : Nat → Bool}, RpPl n ns s pl wk → RpOk n ns.length s → (∀ m ∈ l, mvOk ns.length m = true) → rpRun n ns s l = some t → RpOk n ns.length t ∧ ∃ pl' wk', RpPl n ns t pl' wk'
  | [], s, t, pl, wk, h, ho, _, e => by cases e; exact ⟨ho, pl, wk, h⟩
  | m :: l, s, t, pl, wk, h, ho, hm, e => by
    unfold rpRun at e
    cases hs : rpStep n ns s m with
    | none => rw [hs] at e; cases e
    | some u =>
      rw [hs] at e
      have hmm := hm m List.mem_cons_self
      obtain ⟨pl', wk', h'⟩ := h.step ho hmm hs
      exact RpPl.run h' (ho.step hmm hs) (fun x hx => hm x (List.mem_cons_of_mem _ hx)) e
end Go.Proofs.Ytodjkifcbgmckaa
