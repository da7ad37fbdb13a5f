/- Layer 29, plain: what moves make is a braid, and has a right plan with the same needles. -/
import Derived.Test.YtodjkifcbgmckaaHx
namespace Go.Proofs.Ytodjkifcbgmckaa
open Go.RowKit
set_option maxRecDepth 100000

theorem sum_zero : ∀ {l : List Nat}, l.sum = 0 → ∀ x ∈ l, x = 0
  | [], _, x, hx => by cases hx
  | a :: l, h, x, hx => by
    rw [List.sum_cons] at h
    rcases List.mem_cons.1 hx with e | hx
    · omega
    · exact sum_zero (by omega) x hx
theorem all_done {n : Nat} {ns : List Int} {s : RpS} {pl : Nat → Int} {wk : Nat → Bool} (h : RpPl n ns s pl wk) (ho : RpOk n ns.length s) (hd : s.done = n) : s.left = n ∧ ∀ x, x < n → wk x = true := by
  have h1 := ho.cnt
  have h2 := ho.left
  have hz : (s.on.map List.length).sum = 0 := by omega
  refine ⟨by omega, fun x hx => ?_⟩
  cases hw : wk x with
  | true => rfl
  | false =>
    obtain ⟨-, h4⟩ := h.onq x (by omega) hw
    obtain ⟨q, hq, hxq⟩ := mem_getD h4
    have := sum_zero hz q.length (List.mem_map.2 ⟨q, hq, rfl⟩)
    rw [List.eq_nil_of_length_eq_zero this] at hxq
    cases hxq
/-- The pairs that a replay finds. -/
theorem mem_fr {n : Nat} {to_ deep : List Int} {p : Int × Int} : p ∈ rpFronts n to_ deep ↔ ∃ a b : Nat, p = ((a : Int), (b : Int)) ∧ a < n ∧ b < n ∧ frP to_ deep a b = true := by
  unfold rpFronts
  simp only [List.mem_flatMap, List.mem_range, List.mem_map, List.mem_filter]
  constructor
  · rintro ⟨a, ha, b, ⟨hb, hp⟩, rfl⟩
    exact ⟨a, b, rfl, ha, hb, hp⟩
  · rintro ⟨a, b, rfl, ha, hb, hp⟩
    exact ⟨a, ha, b, ⟨hb, hp⟩, rfl⟩
theorem fr_sorted (n : Nat) (to_ deep : List Int) : (rpFronts n to_ deep).Pairwise fun p q => ltP p q = true := by
  unfold rpFronts
  rw [List.pairwise_flatMap]
  refine ⟨fun a _ => ?_, ?_⟩
  · rw [List.pairwise_map]
    refine List.Pairwise.imp (R := fun b c : Nat => b < c) (fun {b c} h => ?_) (List.Pairwise.filter _ List.pairwise_lt_range)
    unfold ltP
    exact decide_eq_true (Or.inr ⟨rfl, by omega⟩)
  · refine List.Pairwise.imp (R := fun b c : Nat => b < c) (fun {a c} h p hp q hq => ?_) List.pairwise_lt_range
    obtain ⟨x, -, rfl⟩ := List.mem_map.1 hp
    obtain ⟨y, -, rfl⟩ := List.mem_map.1 hq
    unfold ltP
    exact decide_eq_true (Or.inl (by show (a : Int) < (c : Int); omega))
section
variable {n : Nat} {ns : List Int} {s : RpS} {pl : Nat → Int} {wk : Nat → Bool}
theorem made_perm (h : RpPl n ns s pl wk) (ho : RpOk n ns.length s) (hd : s.done = n) : permB s.to_ = true := by
  obtain ⟨-, hw⟩ := all_done h ho hd
  have hl := ho.lto
  unfold permB
  rw [Bool.and_eq_true, decide_eq_true_iff, decide_eq_true_iff]
  have gd : ∀ j (hj : j < s.to_.length), s.to_.getD j 0 = s.to_[j] := fun j hj => by rw [List.getD_eq_getElem?_getD, List.getElem?_eq_getElem hj]; rfl
  refine ⟨fun x hx => ?_, ?_⟩
  · obtain ⟨j, hj, rfl⟩ := List.mem_iff_getElem.1 hx
    have := h.num j (hw j (by omega))
    rw [gd j hj] at this
    omega
  · unfold List.Nodup
    rw [List.pairwise_iff_getElem]
    intro a b ha hb hab e
    have := h.inj a b (hw a (by omega)) (hw b (by omega)) (by rw [gd a ha, gd b hb, e])
    omega
theorem made_fronts (ho : RpOk n ns.length s) : frontsB s.to_ (rpFronts n s.to_ s.deep) = true := by
  rw [fr_iff]
  intro j p hj hp
  refine ⟨?_, fun q h0 hq => ?_⟩
  · obtain ⟨a, b, rfl, ha, hb, hf⟩ := mem_fr.1 (List.mem_of_getElem? hp)
    unfold frP chg at hf
    rw [Bool.and_eq_true, decide_eq_true_iff] at hf
    have hl := ho.lto
    unfold frontOk
    refine decide_eq_true ⟨by omega, by show (a : Int) < (b : Int); omega, by show (b : Int) < _; omega, ?_⟩
    show s.to_.getD (b : Int).toNat 0 < s.to_.getD (a : Int).toNat 0
    rw [Int.toNat_natCast, Int.toNat_natCast]
    exact hf.1.2
  · obtain ⟨h1, rfl⟩ := List.getElem?_eq_some_iff.1 hp
    obtain ⟨h2, rfl⟩ := List.getElem?_eq_some_iff.1 hq
    exact List.pairwise_iff_getElem.1 (fr_sorted n s.to_ s.deep) (j - 1) j h2 h1 (by omega)
/-- The plan that the moves have followed. -/
def planL (n : Nat) (pl : Nat → Int) : List Int := (List.range n).map pl
theorem plan_at {x y : Nat} (hx : x < n) (hy : y ≤ x) : ((planL n pl).take (x + 1)).getD y 0 = pl y := by
  unfold planL
  rw [List.getD_eq_getElem?_getD, List.getElem?_take, if_pos (by omega), List.getElem?_map, List.getElem?_range (by omega)]
  rfl
theorem made_ok (h : RpPl n ns s pl wk) (ho : RpOk n ns.length s) (hd : s.done = n) {x : Nat} (hx : x < n) : okP ⟨s.to_, rpFronts n s.to_ s.deep⟩ ns ((planL n pl).take (x + 1)) x = true := by
  obtain ⟨hl, hw⟩ := all_done h ho hd
  have hln := ho.lto
  unfold okP
  rw [Bool.and_eq_true, decide_eq_true_iff, decide_eq_true_iff, plan_at hx (Nat.le_refl x)]
  refine ⟨fun hp y hy => ?_, fun y hy hc => ?_⟩
  · have hy' : y < n := by rw [← hln]; exact hy
    unfold chg
    refine decide_eq_false fun h1 => ?_
    have h1' : x < y ∧ s.to_.getD y 0 < s.to_.getD x 0 := h1
    have := h.fst x y h1'.1 (hw x hx) hp (hw y hy')
    omega
  · rw [plan_at hx (Nat.le_of_lt hy)]
    have hc' : y < x ∧ s.to_.getD x 0 < s.to_.getD y 0 := by
      unfold chg at hc
      exact of_decide_eq_true hc
    refine ⟨fun e => ?_, ?_⟩
    · have := (h.same y x hy (hw x hx) e).2
      omega
    · unfold isFr
      rw [Bool.eq_iff_iff, decide_eq_true_iff, decide_eq_true_iff, ← h.dep x (hw x hx), ← h.dep y (hw y (by omega))]
      show ((y : Int), (x : Int)) ∈ rpFronts n s.to_ s.deep ↔ _
      rw [mem_fr]
      constructor
      · rintro ⟨a, b, e, -, -, hf⟩
        have e1 : y = a := by have := (Prod.mk.inj e).1; omega
        have e2 : x = b := by have := (Prod.mk.inj e).2; omega
        subst e1 e2
        unfold frP at hf
        rw [Bool.and_eq_true, decide_eq_true_iff] at hf
        exact hf.2
      · intro hf
        refine ⟨y, x, rfl, by omega, hx, ?_⟩
        unfold frP
        rw [Bool.and_eq_true, decide_eq_true_iff]
        exact ⟨hc, hf⟩
theorem fits_of {k : Nat} {P : List Int → Bool} : ∀ {r pre : List Int}, (∀ a ∈ r, -1 ≤ a ∧ a < (k : Int)) → (∀ i, i < r.length → P (pre ++ r.take (i + 1)) = true) → fitsL k P pre r
  | [], _, _, _ => trivial
  | a :: r, pre, h1, h2 => by
    have ha := h1 a List.mem_cons_self
    refine ⟨ha.1, ha.2, by simpa using h2 0 (by simp), fits_of (fun x hx => h1 x (List.mem_cons_of_mem _ hx)) fun i hi => ?_⟩
    have := h2 (i + 1) (by simpa using hi)
    rw [List.take_succ_cons] at this
    rw [List.append_assoc]
    exact this
/-- THE STAGE's THEOREM, plain: the search finds a plan. -/
theorem made_plan (h : RpPl n ns s pl wk) (ho : RpOk n ns.length s) (hd : s.done = n) : ∃ p, sea ns.length (okL ⟨s.to_, rpFronts n s.to_ s.deep⟩ ns) n [] = some p ∧ p.length = n := by
  obtain ⟨hl, -⟩ := all_done h ho hd
  have hlen : (planL n pl).length = n := by unfold planL; rw [List.length_map, List.length_range]
  have hf : fitsL ns.length (okL ⟨s.to_, rpFronts n s.to_ s.deep⟩ ns) [] (planL n pl) := by
    refine fits_of (fun a ha => ?_) fun i hi => ?_
    · obtain ⟨x, hx, rfl⟩ := List.mem_map.1 ha
      exact h.rng x (by rw [hl]; exact List.mem_range.1 hx)
    · rw [hlen] at hi
      rw [List.nil_append]
      unfold okL
      rw [show ((planL n pl).take (i + 1)).length - 1 = i by rw [List.length_take, hlen]; omega]
      exact made_ok h ho hd hi
  obtain ⟨p, e, hp, -⟩ := sea_first hlen hf
  exact ⟨p, e, hp⟩
end
end Go.Proofs.Ytodjkifcbgmckaa
