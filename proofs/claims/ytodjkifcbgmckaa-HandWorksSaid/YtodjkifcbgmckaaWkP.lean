/- Layer 29, plain: working a right plan, and replaying its moves, gives the braid. Layer 29, plain: working a right plan, and replaying its moves, gives the braid. -/
import Derived.Test.YtodjkifcbgmckaaHy
import Derived.Test.YtodjkifcbgmckaaExact
namespace Go.Proofs.Ytodjkifcbgmckaa
open Go.RowKit
set_option maxRecDepth 100000

theorem map_set_range {α : Type} {k i : Nat} {f g : Nat → α} {v : α} (hi : i < k) (h1 : g i = v) (h2 : ∀ j, j < k → j ≠ i → g j = f j) : ((List.range k).map f).set i v = (List.range k).map g := by
  refine List.ext_getElem? fun j => ?_
  by_cases e : j = i
  · subst e
    rw [List.getElem?_set_self (by simpa using hi), List.getElem?_map, List.getElem?_range hi, Option.map_some, h1]
  · rw [List.getElem?_set_ne (fun h => e h.symm), List.getElem?_map, List.getElem?_map]
    by_cases hj : j < k
    · rw [List.getElem?_range hj, Option.map_some, Option.map_some, h2 j hj e]
    · rw [List.getElem?_eq_none (by rw [List.length_range]; omega)]
      rfl
theorem map_getD {α : Type} {k i : Nat} {f : Nat → α} {d : α} (hi : i < k) : ((List.range k).map f).getD i d = f i := by
  rw [List.getD_eq_getElem?_getD, List.getElem?_map, List.getElem?_range hi]
  rfl
theorem map_congr_range {α : Type} {k : Nat} {f g : Nat → α} (h : ∀ j, j < k → g j = f j) : (List.range k).map f = (List.range k).map g :=
  List.map_congr_left fun j hj => (h j (List.mem_range.1 hj)).symm
theorem filter_yes {p : Nat → Bool} {x : Nat} (h : p x = true) : [x].filter p = [x] := by rw [List.filter_cons_of_pos h, List.filter_nil]
theorem filter_no {p : Nat → Bool} {x : Nat} (h : p x = false) : [x].filter p = [] := by rw [List.filter_cons_of_neg (by rw [h]; simp), List.filter_nil]
theorem filter_head {p q : Nat → Bool} {x : Nat} (hp : p x = true) (hq : q x = false) (hlo : ∀ y, y < x → p y = false ∧ q y = false) (hhi : ∀ y, x < y → p y = q y) : ∀ {L : Nat}, x < L → (List.range L).filter p = x :: (List.range L).filter q
  | 0, h => absurd h (Nat.not_lt_zero _)
  | L + 1, h => by
    rw [List.range_succ, List.filter_append, List.filter_append]
    by_cases e : x = L
    · subst e
      have e1 : (List.range x).filter p = [] := List.filter_eq_nil_iff.2 (fun y hy => by rw [(hlo y (List.mem_range.1 hy)).1]; simp)
      have e2 : (List.range x).filter q = [] := List.filter_eq_nil_iff.2 (fun y hy => by rw [(hlo y (List.mem_range.1 hy)).2]; simp)
      rw [e1, e2, filter_yes hp, filter_no hq]
      rfl
    · rw [filter_head hp hq hlo hhi (show x < L by omega)]
      have : p L = q L := hhi L (by omega)
      cases hL : q L with
      | true => rw [filter_yes (this.trans hL), filter_yes hL]; rfl
      | false => rw [filter_no (this.trans hL), filter_no hL]; rfl
section
variable (n : Nat) (T : Nat → Nat) (pl : Nat → Int) (ns : List Int)
/-- The loops below L that lie on needle i when t loops are worked. -/
def wq (t L i : Nat) : List Nat := (List.range L).filter fun x => decide (t ≤ T x ∧ pl x = (i : Int))
def wS (t L : Nat) : RpS := ⟨(List.range ns.length).map (wq T pl t L), L, t, (List.range n).map fun x => if T x < t then (T x : Int) else 0, (List.range n).map fun x => if T x < t then deepI ns (pl x) else 0⟩
end
section
variable {n : Nat} {T : Nat → Nat} {pl : Nat → Int} {ns : List Int}
theorem wS_zero : wS n T pl ns 0 0 = rp0 n ns.length := by
  unfold wS rp0
  congr 1
  · refine List.ext_getElem? fun j => ?_
    rw [List.getElem?_map, List.getElem?_replicate]
    by_cases hj : j < ns.length
    · rw [List.getElem?_range hj, if_pos hj]; rfl
    · rw [List.getElem?_eq_none (by rw [List.length_range]; omega), if_neg hj]; rfl
  · refine List.ext_getElem? fun j => ?_
    rw [List.getElem?_map, List.getElem?_replicate]
    by_cases hj : j < n
    · rw [List.getElem?_range hj, if_pos hj]; rfl
    · rw [List.getElem?_eq_none (by rw [List.length_range]; omega), if_neg hj]; rfl
  · refine List.ext_getElem? fun j => ?_
    rw [List.getElem?_map, List.getElem?_replicate]
    by_cases hj : j < n
    · rw [List.getElem?_range hj, if_pos hj]; rfl
    · rw [List.getElem?_eq_none (by rw [List.length_range]; omega), if_neg hj]; rfl
theorem w_slip {t L : Nat} (hL : L < n) (hp : 0 ≤ pl L) (hk : pl L < (ns.length : Int)) (ht : t ≤ T L) : rpStep n ns (wS n T pl ns t L) ⟨true, pl L⟩ = some (wS n T pl ns t (L + 1)) := by
  unfold rpStep
  rw [if_pos (Or.inl rfl), if_neg (by show ¬ L = n; omega), if_pos rfl]
  have hi : (pl L).toNat < ns.length := by omega
  have e : ((List.range ns.length).map (wq T pl t L)).set (pl L).toNat (((List.range ns.length).map (wq T pl t L)).getD (pl L).toNat [] ++ [L]) = (List.range ns.length).map (wq T pl t (L + 1)) := by
    rw [map_getD hi]
    refine map_set_range hi ?_ fun j _ hj => ?_
    · unfold wq
      rw [List.range_succ, List.filter_append, filter_yes (p := fun y => decide (t ≤ T y ∧ pl y = ((pl L).toNat : Int))) (decide_eq_true ⟨ht, by omega⟩)]
    · unfold wq
      rw [List.range_succ, List.filter_append, filter_no (p := fun y => decide (t ≤ T y ∧ pl y = (j : Int))) (decide_eq_false (by omega)), List.append_nil]
  show some { (wS n T pl ns t L) with on := ((List.range ns.length).map (wq T pl t L)).set (pl L).toNat (((List.range ns.length).map (wq T pl t L)).getD (pl L).toNat [] ++ [L]), left := L + 1 } = _
  rw [e]
  rfl
theorem w_work {t L : Nat} (hL : L < n) (hp : pl L < 0) (hT : T L = t) (hu : ∀ x, x < n → T x = t → x = L) : rpStep n ns (wS n T pl ns t L) ⟨false, pl L⟩ = some (wS n T pl ns (t + 1) (L + 1)) := by
  unfold rpStep
  rw [if_pos (Or.inr hp), if_neg (by show ¬ L = n; omega), if_neg (by simp)]
  have e1 : (List.range ns.length).map (wq T pl t L) = (List.range ns.length).map (wq T pl (t + 1) (L + 1)) := by
    refine map_congr_range fun i _ => ?_
    unfold wq
    rw [List.range_succ, List.filter_append, filter_no (p := fun y => decide (t + 1 ≤ T y ∧ pl y = (i : Int))) (decide_eq_false (by omega)), List.append_nil]
    refine List.filter_congr fun x hx => ?_
    have hx' := List.mem_range.1 hx
    have : T x ≠ t := fun e => by have := hu x (by omega) e; omega
    rw [decide_eq_decide]
    omega
  have e2 : ((List.range n).map fun x => if T x < t then (T x : Int) else 0).set L (t : Int) = (List.range n).map fun x => if T x < t + 1 then (T x : Int) else 0 := by
    refine map_set_range hL (by rw [if_pos (by omega), hT]) fun j hj hne => ?_
    have : T j ≠ t := fun e => hne (hu j hj e)
    by_cases h : T j < t
    · rw [if_pos h, if_pos (by omega)]
    · rw [if_neg h, if_neg (by omega)]
  have e3 : ((List.range n).map fun x => if T x < t then deepI ns (pl x) else 0) = (List.range n).map fun x => if T x < t + 1 then deepI ns (pl x) else 0 := by
    refine map_congr_range fun j hj => ?_
    by_cases e : T j = t
    · rw [hu j hj e, if_pos (by omega), if_neg (by omega)]
      unfold deepI
      rw [if_pos hp]
    · by_cases h : T j < t
      · rw [if_pos h, if_pos (by omega)]
      · rw [if_neg h, if_neg (by omega)]
  show some (⟨(List.range ns.length).map (wq T pl t L), L + 1, t + 1, ((List.range n).map fun x => if T x < t then (T x : Int) else 0).set L (t : Int), (List.range n).map fun x => if T x < t then deepI ns (pl x) else 0⟩ : RpS) = _
  rw [e1, e2, e3]
  rfl
theorem w_take {t L x : Nat} (hx : x < L) (hn : L ≤ n) (hp : 0 ≤ pl x) (hk : pl x < (ns.length : Int)) (hT : T x = t) (hu : ∀ y, y < n → T y = t → y = x) (hm : ∀ y, y < x → t ≤ T y → pl y ≠ pl x) : rpStep n ns (wS n T pl ns t L) ⟨false, pl x⟩ = some (wS n T pl ns (t + 1) L) := by
  have hi : (pl x).toNat < ns.length := by omega
  have hu' : ∀ y, y < L → T y = t → y = x := fun y hy => hu y (by omega)
  have hq : wq T pl t L (pl x).toNat = x :: wq T pl (t + 1) L (pl x).toNat := by
    have h1 : (List.range L).filter (fun y => decide (t ≤ T y ∧ pl y = ((pl x).toNat : Int))) = (List.range L).filter (fun y => decide (y < L) && decide (t ≤ T y ∧ pl y = ((pl x).toNat : Int))) := List.filter_congr fun y hy => by rw [decide_eq_true (List.mem_range.1 hy)]; rfl
    have h2 : (List.range L).filter (fun y => decide (t + 1 ≤ T y ∧ pl y = ((pl x).toNat : Int))) = (List.range L).filter (fun y => decide (y < L) && decide (t + 1 ≤ T y ∧ pl y = ((pl x).toNat : Int))) := List.filter_congr fun y hy => by rw [decide_eq_true (List.mem_range.1 hy)]; rfl
    unfold wq
    rw [h1, h2]
    refine filter_head ?_ ?_ (fun y hy => ?_) (fun y hy => ?_) hx
    · rw [decide_eq_true hx, decide_eq_true (by omega)]; rfl
    · rw [decide_eq_true hx, decide_eq_false (by omega)]; rfl
    · have hne : ∀ h : t ≤ T y, pl y ≠ ((pl x).toNat : Int) := fun h e => hm y hy h (by omega)
      constructor
      · rw [decide_eq_false (p := t ≤ T y ∧ _) (fun h => hne h.1 h.2), Bool.and_false]
      · rw [decide_eq_false (p := t + 1 ≤ T y ∧ _) (fun h => hne (by omega) h.2), Bool.and_false]
    · by_cases hyL : y < L
      · have : T y ≠ t := fun e => by have := hu' y hyL e; omega
        congr 1
        rw [decide_eq_decide]
        omega
      · rw [decide_eq_false hyL]; rfl
  have hg : (wS n T pl ns t L).on.getD (pl x).toNat [] = x :: wq T pl (t + 1) L (pl x).toNat := by
    show ((List.range ns.length).map (wq T pl t L)).getD (pl x).toNat [] = _
    rw [map_getD hi, hq]
  unfold rpStep
  rw [if_neg (by simp; omega)]
  simp only [hg]
  have e1 : ((List.range ns.length).map (wq T pl t L)).set (pl x).toNat (wq T pl (t + 1) L (pl x).toNat) = (List.range ns.length).map (wq T pl (t + 1) L) := by
    refine map_set_range hi rfl fun j _ hj => ?_
    unfold wq
    refine List.filter_congr fun y hy => ?_
    have hy' := List.mem_range.1 hy
    rw [decide_eq_decide]
    by_cases e : T y = t
    · have := hu' y hy' e
      subst this
      omega
    · omega
  have e2 : ((List.range n).map fun x => if T x < t then (T x : Int) else 0).set x (t : Int) = (List.range n).map fun x => if T x < t + 1 then (T x : Int) else 0 := by
    refine map_set_range (by omega) (by rw [if_pos (by omega), hT]) fun j hj hne => ?_
    have : T j ≠ t := fun e => hne (hu j hj e)
    by_cases h : T j < t
    · rw [if_pos h, if_pos (by omega)]
    · rw [if_neg h, if_neg (by omega)]
  have e3 : ((List.range n).map fun x => if T x < t then deepI ns (pl x) else 0).set x (ns.getD (pl x).toNat 0) = (List.range n).map fun x => if T x < t + 1 then deepI ns (pl x) else 0 := by
    refine map_set_range (by omega) (by rw [if_pos (by omega)]; unfold deepI; rw [if_neg (by omega)]) fun j hj hne => ?_
    have : T j ≠ t := fun e => hne (hu j hj e)
    by_cases h : T j < t
    · rw [if_pos h, if_pos (by omega)]
    · rw [if_neg h, if_neg (by omega)]
  show some (⟨((List.range ns.length).map (wq T pl t L)).set (pl x).toNat (wq T pl (t + 1) L (pl x).toNat), L, t + 1, ((List.range n).map fun x => if T x < t then (T x : Int) else 0).set x (t : Int), ((List.range n).map fun x => if T x < t then deepI ns (pl x) else 0).set x (ns.getD (pl x).toNat 0)⟩ : RpS) = _
  rw [e1, e2, e3]
  rfl
end
theorem rpRun_app {n : Nat} {ns : List Int} : ∀ {l1 l2 : List Mv} {s t : RpS}, rpRun n ns s l1 = some t → rpRun n ns s (l1 ++ l2) = rpRun n ns t l2
  | [], l2, s, t, h => by cases h; rfl
  | m :: l1, l2, s, t, h => by
    rw [List.cons_append]
    have e : ∀ l, rpRun n ns s (m :: l) = match rpStep n ns s m with | none => none | some t => rpRun n ns t l := fun _ => rfl
    rw [e] at h ⊢
    cases hs : rpStep n ns s m with
    | none => rw [hs] at h; cases h
    | some u => rw [hs] at h; exact rpRun_app h
theorem rpRun_one {n : Nat} {ns : List Int} {s t : RpS} {m : Mv} (h : rpStep n ns s m = some t) : rpRun n ns s [m] = some t := by
  unfold rpRun
  rw [h]
  rfl
theorem rpRun_cons {n : Nat} {ns : List Int} {s t : RpS} {m : Mv} {l : List Mv} (h : rpStep n ns s m = some t) : rpRun n ns s (m :: l) = rpRun n ns t l := by
  have e : rpRun n ns s (m :: l) = match rpStep n ns s m with | none => none | some t => rpRun n ns t l := rfl
  rw [e, h]
theorem take_getD {l : List Int} {x y : Nat} (h : y ≤ x) : (l.take (x + 1)).getD y 0 = l.getD y 0 := by
  rw [List.getD_eq_getElem?_getD, List.getD_eq_getElem?_getD, List.getElem?_take, if_pos (by omega)]
/-- The slips of a round. -/
theorem run_slips {n : Nat} {T : Nat → Nat} {plan ns : List Int} {t last : Nat} (hl : last ≤ plan.length) : ∀ {d L : Nat}, L + d = last → (∀ y, L ≤ y → y < last → y < n ∧ 0 ≤ plan.getD y 0 ∧ plan.getD y 0 < (ns.length : Int) ∧ t ≤ T y) →
    rpRun n ns (wS n T (fun x => plan.getD x 0) ns t L) (((plan.take last).drop L).map fun a => (⟨true, a⟩ : Mv)) = some (wS n T (fun x => plan.getD x 0) ns t last)
  | 0, L, e, _ => by
    have e' : L = last := by simpa using e
    subst e'
    rw [slip_nil (Nat.le_refl _)]
    rfl
  | d + 1, L, e, h => by
    obtain ⟨h1, h2, h3, h4⟩ := h L (Nat.le_refl _) (by omega)
    rw [slip_one (by omega) hl]
    have hs := w_slip (n := n) (T := T) (pl := fun x => plan.getD x 0) (ns := ns) (t := t) (L := L) h1 h2 h3 h4
    rw [rpRun_cons hs]
    exact run_slips hl (d := d) (L := L + 1) (by omega) fun y hy1 hy2 => h y (by omega) hy2
/-- What the rounds come to. -/
theorem work_run {b : Brd} {ns plan : List Int} (hp : permB b.to_ = true) (hk : planOk ns.length b.to_.length plan = true) (hr : ∀ x, x < plan.length → okP b ns (plan.take (x + 1)) x = true) : ∀ t, t ≤ b.to_.length →
    rpRun b.to_.length ns (rp0 b.to_.length ns.length) (workL b.to_ plan t).2 = some (wS b.to_.length (fun x => (b.to_.getD x 0).toNat) (fun x => plan.getD x 0) ns t (workL b.to_ plan t).1) ∧ (workL b.to_ plan t).1 ≤ b.to_.length ∧
    (∀ x, x < b.to_.length → (b.to_.getD x 0).toNat < t → x < (workL b.to_ plan t).1) ∧ ∀ x, x < (workL b.to_ plan t).1 → t ≤ (b.to_.getD x 0).toNat → 0 ≤ plan.getD x 0 := by
  have hpl : plan.length = b.to_.length ∧ ∀ a ∈ plan, -1 ≤ a ∧ a < (ns.length : Int) := by
    unfold planOk at hk
    rw [Bool.and_eq_true, decide_eq_true_iff, decide_eq_true_iff] at hk
    exact hk
  have hT : ∀ x, x < b.to_.length → 0 ≤ b.to_.getD x 0 ∧ b.to_.getD x 0 < (b.to_.length : Int) := fun x hx => by
    unfold permB at hp
    rw [Bool.and_eq_true, decide_eq_true_iff] at hp
    rw [List.getD_eq_getElem?_getD, List.getElem?_eq_getElem hx]
    exact hp.1 _ (List.getElem_mem hx)
  have hU : ∀ x y, x < b.to_.length → y < b.to_.length → (b.to_.getD x 0).toNat = (b.to_.getD y 0).toNat → x = y := fun x y hx hy e => by
    have h1 := hT x hx
    have h2 := hT y hy
    have e' : b.to_[x] = b.to_[y] := by
      have e3 : b.to_.getD x 0 = b.to_.getD y 0 := by omega
      rw [List.getD_eq_getElem?_getD, List.getD_eq_getElem?_getD, List.getElem?_eq_getElem hx, List.getElem?_eq_getElem hy] at e3
      exact e3
    unfold permB at hp
    rw [Bool.and_eq_true, decide_eq_true_iff (p := b.to_.Nodup)] at hp
    rcases Nat.lt_trichotomy x y with h | h | h
    · exact absurd e' (List.pairwise_iff_getElem.1 hp.2 x y hx hy h)
    · exact h
    · exact absurd e'.symm (List.pairwise_iff_getElem.1 hp.2 y x hy hx h)
  have hpk : ∀ x, x < b.to_.length → -1 ≤ plan.getD x 0 ∧ plan.getD x 0 < (ns.length : Int) := fun x hx => by
    rw [List.getD_eq_getElem?_getD, List.getElem?_eq_getElem (by omega)]
    exact hpl.2 _ (List.getElem_mem _)
  intro t
  induction t with
  | zero =>
    intro _
    refine ⟨?_, Nat.zero_le _, fun x _ h => absurd h (Nat.not_lt_zero _), fun x h => absurd h (Nat.not_lt_zero _)⟩
    show some (rp0 b.to_.length ns.length) = some (wS _ _ _ ns 0 0)
    rw [wS_zero]
  | succ t ih =>
    intro ht
    obtain ⟨i1, i2, i3, i4⟩ := ih (by omega)
    obtain ⟨hx, hxt⟩ := idx_perm hp (t := t) (by omega)
    have hxT : b.to_.getD (idxI b.to_ (t : Int)) 0 = (t : Int) := by rw [List.getD_eq_getElem?_getD, hxt]; rfl
    generalize hxe : idxI b.to_ (t : Int) = x at hx hxt hxT
    have hw : workL b.to_ plan (t + 1) = workStep plan x (workL b.to_ plan t) := by
      show workStep plan (idxI b.to_ (t : Int)) (workL b.to_ plan t) = _
      rw [hxe]
    rw [hw]
    generalize workL b.to_ plan t = S at i1 i2 i3 i4
    obtain ⟨L, out⟩ := S
    simp only at i1 i2 i3 i4
    have hu : ∀ y, y < b.to_.length → (b.to_.getD y 0).toNat = t → y = x := fun y hy e => hU y x hy hx (by rw [e, hxT]; omega)
    -- what the plan says of x, and of the loops before it that are left
    have hok := hr x (by omega)
    unfold okP at hok
    rw [Bool.and_eq_true, decide_eq_true_iff, decide_eq_true_iff, take_getD (Nat.le_refl x)] at hok
    have hch : ∀ y, y < x → t ≤ (b.to_.getD y 0).toNat → chg b.to_ y x = true := fun y hy h => by
      have h1 := hT y (by omega)
      have hne : (b.to_.getD y 0).toNat ≠ t := fun e => by have := hu y (by omega) e; omega
      unfold chg
      exact decide_eq_true ⟨hy, by rw [hxT]; omega⟩
    have hlow : ∀ y, y < x → t ≤ (b.to_.getD y 0).toNat → 0 ≤ plan.getD y 0 := fun y hy h => by
      rcases Int.lt_or_le (plan.getD y 0) 0 with h0 | h0
      · have hoy := hr y (by omega)
        unfold okP at hoy
        rw [Bool.and_eq_true, decide_eq_true_iff, take_getD (Nat.le_refl y)] at hoy
        have := hoy.1 h0 x hx
        rw [hch y hy h] at this
        cases this
      · exact h0
    have hm : ∀ y, y < x → t ≤ (b.to_.getD y 0).toNat → plan.getD y 0 ≠ plan.getD x 0 := fun y hy h => by
      have := (hok.2 y hy (hch y hy h)).1
      rw [take_getD (Nat.le_of_lt hy)] at this
      exact this
    have hun : ∀ y, L ≤ y → y < b.to_.length → t ≤ (b.to_.getD y 0).toNat := fun y h1 h2 => by
      rcases Nat.lt_or_ge (b.to_.getD y 0).toNat t with h | h
      · have := i3 y h2 h; omega
      · exact h
    unfold workStep
    by_cases h0 : 0 ≤ plan.getD x 0
    · -- from a cable needle
      rw [if_pos h0]
      simp only
      have hsl : rpRun b.to_.length ns (rp0 b.to_.length ns.length) (out ++ ((plan.take (x + 1)).drop L).map fun a => (⟨true, a⟩ : Mv)) = some (wS b.to_.length (fun x => (b.to_.getD x 0).toNat) (fun x => plan.getD x 0) ns t (max L (x + 1))) := by
        rw [rpRun_app i1]
        by_cases hLx : L ≤ x + 1
        · rw [Nat.max_eq_right hLx]
          refine run_slips (by omega) (d := x + 1 - L) (by omega) fun y h1 h2 => ?_
          have hyn : y < b.to_.length := by omega
          refine ⟨hyn, ?_, (hpk y hyn).2, hun y h1 hyn⟩
          by_cases e : y = x
          · rw [e]; exact h0
          · exact hlow y (by omega) (hun y h1 hyn)
        · rw [Nat.max_eq_left (by omega), slip_nil (by omega)]
          rfl
      have hst := w_take (n := b.to_.length) (T := fun x => (b.to_.getD x 0).toNat) (pl := fun x => plan.getD x 0) (ns := ns) (t := t) (L := max L (x + 1)) (x := x) (by omega) (by omega) h0 (hpk x hx).2 (by show (b.to_.getD x 0).toNat = t; rw [hxT]; omega) hu hm
      refine ⟨by rw [rpRun_app hsl]; exact rpRun_one hst, by omega, fun y hy h => ?_, fun y hy h => ?_⟩
      · by_cases e : (b.to_.getD y 0).toNat = t
        · have := hu y hy e; omega
        · have := i3 y hy (by omega); omega
      · by_cases hyL : y < L
        · exact i4 y hyL (by omega)
        · by_cases e : y = x
          · rw [e]; exact h0
          · exact hlow y (by omega) (by omega)
    · -- from the left needle
      rw [if_neg h0]
      simp only
      have hLx : L ≤ x := by
        rcases Nat.lt_or_ge x L with h | h
        · exact absurd (i4 x h (by rw [hxT]; omega)) h0
        · exact h
      have hsl : rpRun b.to_.length ns (rp0 b.to_.length ns.length) (out ++ ((plan.take x).drop L).map fun a => (⟨true, a⟩ : Mv)) = some (wS b.to_.length (fun x => (b.to_.getD x 0).toNat) (fun x => plan.getD x 0) ns t x) := by
        rw [rpRun_app i1]
        refine run_slips (by omega) (d := x - L) (by omega) fun y h1 h2 => ?_
        have hyn : y < b.to_.length := by omega
        exact ⟨hyn, hlow y h2 (hun y h1 hyn), (hpk y hyn).2, hun y h1 hyn⟩
      have hst := w_work (n := b.to_.length) (T := fun x => (b.to_.getD x 0).toNat) (pl := fun x => plan.getD x 0) (ns := ns) (t := t) (L := x) hx (by omega) (by show (b.to_.getD x 0).toNat = t; rw [hxT]; omega) hu
      rw [Nat.max_eq_right (by omega)]
      refine ⟨by rw [rpRun_app hsl]; exact rpRun_one hst, by omega, fun y hy h => ?_, fun y hy h => ?_⟩
      · by_cases e : (b.to_.getD y 0).toNat = t
        · have := hu y hy e; omega
        · have := i3 y hy (by omega); omega
      · by_cases hyL : y < L
        · exact i4 y hyL (by omega)
        · by_cases e : y = x
          · rw [e, hxT] at h; omega
          · exact hlow y (by omega) (by omega)
end Go.Proofs.Ytodjkifcbgmckaa
namespace Go.Proofs.Ytodjkifcbgmckaa
open Go.RowKit Go.Shelf Go.Sort
set_option maxRecDepth 100000

theorem sorted_ext {α : Type} {R : α → α → Prop} (irr : ∀ a, ¬ R a a) (tr : ∀ {a b c}, R a b → R b c → R a c) : ∀ {l l' : List α}, l.Pairwise R → l'.Pairwise R → (∀ x, x ∈ l ↔ x ∈ l') → l = l'
  | [], [], _, _, _ => rfl
  | [], b :: l', _, _, h => absurd ((h b).2 List.mem_cons_self) List.not_mem_nil
  | a :: l, [], _, _, h => absurd ((h a).1 List.mem_cons_self) List.not_mem_nil
  | a :: l, b :: l', h1, h2, h => by
    obtain ⟨p1, q1⟩ := List.pairwise_cons.1 h1
    obtain ⟨p2, q2⟩ := List.pairwise_cons.1 h2
    have e : a = b := by
      rcases List.mem_cons.1 ((h a).1 List.mem_cons_self) with e | hx
      · exact e
      · rcases List.mem_cons.1 ((h b).2 List.mem_cons_self) with e | hy
        · exact e.symm
        · exact absurd (tr (p1 b hy) (p2 a hx)) (irr a)
    subst e
    congr 1
    refine sorted_ext irr tr q1 q2 fun x => ⟨fun hx => ?_, fun hx => ?_⟩
    · rcases List.mem_cons.1 ((h x).1 (List.mem_cons_of_mem _ hx)) with e | hy
      · exact absurd (e ▸ p1 x hx) (irr _)
      · exact hy
    · rcases List.mem_cons.1 ((h x).2 (List.mem_cons_of_mem _ hx)) with e | hy
      · exact absurd (e ▸ p2 x hx) (irr _)
      · exact hy
theorem ltP_irr (p : Int × Int) : ¬ ltP p p = true := by
  unfold ltP
  rw [decide_eq_true_iff]
  omega
theorem fronts_pair {to_ : List Int} {l : List (Int × Int)} (h : frontsB to_ l = true) : l.Pairwise fun p q => ltP p q = true := by
  rw [List.pairwise_iff_getElem]
  intro i j hi hj hij
  obtain ⟨d, hd⟩ : ∃ d, j = i + d + 1 := ⟨j - i - 1, by omega⟩
  subst hd
  exact fr_mono h d i _ _ (List.getElem?_eq_getElem hi) (List.getElem?_eq_getElem hj)
section
variable {b : Brd} {ns plan : List Int}
theorem perm_range (hp : permB b.to_ = true) {x : Nat} (hx : x < b.to_.length) : 0 ≤ b.to_.getD x 0 ∧ b.to_.getD x 0 < (b.to_.length : Int) := by
  unfold permB at hp
  rw [Bool.and_eq_true, decide_eq_true_iff] at hp
  refine hp.1 _ ?_
  rw [List.getD_eq_getElem?_getD, List.getElem?_eq_getElem hx]
  exact List.getElem_mem hx
/-- The moves of working a right plan are moves. -/
theorem work_moves (hp : permB b.to_ = true) (hk : planOk ns.length b.to_.length plan = true) (hr : ∀ x, x < plan.length → okP b ns (plan.take (x + 1)) x = true) : ∀ t, t ≤ b.to_.length → ∀ m ∈ (workL b.to_ plan t).2, mvOk ns.length m = true
  | 0, _, m, hm => by simp [workL] at hm
  | t + 1, ht, m, hm => by
    obtain ⟨-, -, i3, -⟩ := work_run hp hk hr t (by omega)
    have hpl : plan.length = b.to_.length ∧ ∀ a ∈ plan, -1 ≤ a ∧ a < (ns.length : Int) := by
      unfold planOk at hk
      rw [Bool.and_eq_true, decide_eq_true_iff, decide_eq_true_iff] at hk
      exact hk
    obtain ⟨hx, hxe⟩ := idx_perm hp (t := t) (by omega)
    have hxt : b.to_.getD (idxI b.to_ (t : Int)) 0 = (t : Int) := by rw [List.getD_eq_getElem?_getD, hxe]; rfl
    unfold workL workStep at hm
    generalize idxI b.to_ (t : Int) = x at hx hxt hm
    simp only [List.mem_append, List.mem_map, List.mem_singleton] at hm
    have hel : ∀ y, y < plan.length → -1 ≤ plan.getD y 0 ∧ plan.getD y 0 < (ns.length : Int) := fun y hy => hpl.2 _ (by rw [List.getD_eq_getElem?_getD, List.getElem?_eq_getElem hy]; exact List.getElem_mem hy)
    rcases hm with (hm | ⟨a, ha, rfl⟩) | rfl
    · exact work_moves hp hk hr t (by omega) m hm
    · obtain ⟨d, hd⟩ := List.mem_iff_getElem?.1 ha
      rw [List.getElem?_drop] at hd
      have hdl := (List.getElem?_eq_some_iff.1 hd).1
      rw [List.length_take] at hdl
      obtain ⟨y, hy⟩ : ∃ y, y = (workL b.to_ plan t).1 + d := ⟨_, rfl⟩
      rw [← hy] at hd hdl
      have hyp : plan.getD y 0 = a := by
        rw [List.getElem?_take_of_lt (by omega)] at hd
        rw [List.getD_eq_getElem?_getD, hd]; rfl
      have hyl : y < plan.length := by omega
      have hbd := hel y hyl
      rw [hyp] at hbd
      have h0 : 0 ≤ a := by
        by_cases e : y = x
        · rcases Int.lt_or_le a 0 with hneg | h
          · have hng : ¬ 0 ≤ plan.getD x 0 := by rw [← e, hyp]; omega
            rw [if_neg hng] at hdl
            omega
          · exact h
        · have hyx : y < x := by split at hdl <;> omega
          rcases Int.lt_or_le a 0 with hneg | h
          · exfalso
            have hT : t ≤ (b.to_.getD y 0).toNat := by
              rcases Nat.lt_or_ge (b.to_.getD y 0).toNat t with h | h
              · have := i3 y (by omega) h; omega
              · exact h
            have hne : b.to_.getD y 0 ≠ b.to_.getD x 0 := by
              intro he
              have hnd : b.to_.Nodup := by
                unfold permB at hp
                rw [Bool.and_eq_true, decide_eq_true_iff, decide_eq_true_iff] at hp
                exact hp.2
              rw [List.getD_eq_getElem?_getD, List.getElem?_eq_getElem (show y < b.to_.length by omega), List.getD_eq_getElem?_getD, List.getElem?_eq_getElem hx] at he
              exact (List.pairwise_iff_getElem.1 hnd) y x (by omega) hx hyx he
            have hch : chg b.to_ y x = true := by
              unfold chg
              have := perm_range hp (show y < b.to_.length by omega)
              exact decide_eq_true ⟨hyx, by omega⟩
            have hok := hr y hyl
            unfold okP at hok
            rw [Bool.and_eq_true, decide_eq_true_iff] at hok
            have := hok.1 (by rw [take_getD (Nat.le_refl _), hyp]; exact hneg) x hx
            rw [hch] at this; cases this
          · exact h
      unfold mvOk
      rw [decide_eq_true (show -1 ≤ (⟨true, a⟩ : Mv).nd ∧ (⟨true, a⟩ : Mv).nd < (ns.length : Int) from hbd)]
      simp [decide_eq_false (show ¬ a < 0 by omega)]
    · have hbd := hel x (by omega)
      unfold mvOk
      rw [decide_eq_true (show -1 ≤ (⟨false, plan.getD x 0⟩ : Mv).nd ∧ (⟨false, plan.getD x 0⟩ : Mv).nd < (ns.length : Int) from hbd)]
      rfl
/-- A replay of the moves of a right plan gives the braid. -/
theorem wk_replay (hE : brdE b = 0) (hc : cabB ns = true) (hk : planOk ns.length b.to_.length plan = true) (hr : ∀ x, x < plan.length → okP b ns (plan.take (x + 1)) x = true) : rpE (b.to_.length : Int) ns (workL b.to_ plan b.to_.length).2 = (b, 0) := by
  obtain ⟨k8, hp, hf⟩ := brdE_zero hE
  have hpl : plan.length = b.to_.length := by
    unfold planOk at hk
    rw [Bool.and_eq_true, decide_eq_true_iff] at hk
    exact hk.1
  rw [rpE_run k8 hc (work_moves hp hk hr _ (Nat.le_refl _)), (work_run hp hk hr _ (Nat.le_refl _)).1]
  have hT : ∀ x, x < b.to_.length → (b.to_.getD x 0).toNat < b.to_.length ∧ (((b.to_.getD x 0).toNat : Nat) : Int) = b.to_.getD x 0 := fun x hx => by
    have := perm_range hp hx
    omega
  obtain ⟨n, hn⟩ : ∃ n, n = b.to_.length := ⟨_, rfl⟩
  have hto : (wS n (fun x => (b.to_.getD x 0).toNat) (fun x => plan.getD x 0) ns n (workL b.to_ plan n).1).to_ = b.to_ := by
    refine List.ext_getElem? fun j => ?_
    unfold wS
    simp only
    rw [List.getElem?_map]
    by_cases hj : j < b.to_.length
    · rw [List.getElem?_range (by omega), Option.map_some, if_pos (by rw [hn]; exact (hT j hj).1), (hT j hj).2, List.getD_eq_getElem?_getD, List.getElem?_eq_getElem hj]
      rfl
    · rw [List.getElem?_eq_none (by simp; omega), List.getElem?_eq_none (by omega)]
      rfl
  have hdp : ∀ x, x < n → (wS n (fun x => (b.to_.getD x 0).toNat) (fun x => plan.getD x 0) ns n (workL b.to_ plan n).1).deep.getD x 0 = deepI ns (plan.getD x 0) := fun x hx => by
    unfold wS
    simp only
    rw [List.getD_eq_getElem?_getD, List.getElem?_map, List.getElem?_range hx, Option.map_some, if_pos (by rw [hn]; exact (hT x (by omega)).1)]
    rfl
  have hfr : rpFronts n (wS n (fun x => (b.to_.getD x 0).toNat) (fun x => plan.getD x 0) ns n (workL b.to_ plan n).1).to_ (wS n (fun x => (b.to_.getD x 0).toNat) (fun x => plan.getD x 0) ns n (workL b.to_ plan n).1).deep = b.fronts := by
    refine sorted_ext (R := fun p q => ltP p q = true) ltP_irr ltP_trans (fr_sorted _ _ _) (fronts_pair hf) fun p => ?_
    rw [mem_fr, hto]
    have hkey : ∀ a c : Nat, a < n → c < n → chg b.to_ a c = true → isFr b a c = decide (deepI ns (plan.getD c 0) < deepI ns (plan.getD a 0)) := fun a c ha hc' hch => by
      have hac : a < c := chg_lt hch
      have hok := hr c (by omega)
      unfold okP at hok
      rw [Bool.and_eq_true, decide_eq_true_iff, decide_eq_true_iff] at hok
      have := (hok.2 a hac hch).2
      rw [take_getD (Nat.le_refl _), take_getD (Nat.le_of_lt hac)] at this
      exact this
    constructor
    · rintro ⟨a, c, rfl, ha, hc', hfp⟩
      unfold frP at hfp
      rw [Bool.and_eq_true] at hfp
      have h1 := hkey a c ha hc' hfp.1
      rw [hdp a ha, hdp c hc'] at hfp
      rw [hfp.2] at h1
      unfold isFr at h1
      exact of_decide_eq_true h1
    · intro hpm
      obtain ⟨i, hi⟩ := List.mem_iff_getElem?.1 hpm
      have hfo := (fr_iff.1 hf i p (List.getElem?_eq_some_iff.1 hi).1 hi).1
      unfold frontOk at hfo
      rw [decide_eq_true_iff] at hfo
      obtain ⟨a, c⟩ := p
      simp only at hfo
      refine ⟨a.toNat, c.toNat, by simp only [Prod.mk.injEq]; omega, by omega, by omega, ?_⟩
      have hch : chg b.to_ a.toNat c.toNat = true := by unfold chg; exact decide_eq_true ⟨by omega, hfo.2.2.2⟩
      have h1 := hkey a.toNat c.toNat (by omega) (by omega) hch
      have h2 : isFr b a.toNat c.toNat = true := by
        unfold isFr
        refine decide_eq_true ?_
        rw [show ((a.toNat : Nat) : Int) = a by omega, show ((c.toNat : Nat) : Int) = c by omega]
        exact hpm
      rw [h2] at h1
      unfold frP
      rw [hch, hdp _ (by omega), hdp _ (by omega), ← h1]
      rfl
  rw [← hn]
  simp only
  rw [if_pos (show (wS n (fun x => (b.to_.getD x 0).toNat) (fun x => plan.getD x 0) ns n (workL b.to_ plan n).1).done = n from rfl), hfr, hto]
end
set_option maxHeartbeats 16000000 in
theorem works_walk (A F : Option Addr) (c fc : Nat) (b : Brd) (hf : b.fronts.length ≤ maxLen) (An : Option Addr) (cn : Nat) (ns : List Int) (w : World) (hs : SlI w w.heap.size A b.to_) (hp : SlPr w w.heap.size F b.fronts) (hns : SlI w w.heap.size An ns) :
    Calls Try.prog 8 #[.agg #[.slice A b.to_.length c, .slice F b.fronts.length fc], .slice An ns.length cn] w fun e w' => e = .returned (.bool true) ∧ Below w.heap.size w w' := by
  have hb0 := (Below.refl w.heap.size w).alloc (Nat.le_refl _) (.cells #[.slice A b.to_.length c, .slice F b.fronts.length fc] 26)
  have g0 : (w.alloc (.cells #[.slice A b.to_.length c, .slice F b.fronts.length fc] 26)).cell? ⟨w.heap.size, 0, none⟩ = some (.slice A b.to_.length c) := cell_new rfl rfl rfl
  have g1 : (w.alloc (.cells #[.slice A b.to_.length c, .slice F b.fronts.length fc] 26)).cell? ⟨w.heap.size, 1, none⟩ = some (.slice F b.fronts.length fc) := cell_new rfl rfl rfl
  have HB0 := Lib.hid hb0
  have HG := Lib.hid (fun W (h : Below (w.alloc (.cells #[.slice A b.to_.length c, .slice F b.fronts.length fc] 26)).heap.size (w.alloc (.cells #[.slice A b.to_.length c, .slice F b.fronts.length fc] 26)) W) => And.intro ((bcell h (lt_of_cell g0) _).trans g0) ((bcell h (lt_of_cell g1) _).trans g1))
  have HAv := Lib.hid (alive29_any (w.alloc (.cells #[.slice A b.to_.length c, .slice F b.fronts.length fc] 26)))
  have HS := Lib.hid hs
  have HPr := Lib.hid hp
  have HNs := Lib.hid hns
  have hf' : b.fronts.length ≤ 9223372036854775807 := by unfold maxLen at hf; omega
  clear hs hp hns hb0 hf
  go_enter Try.func8, Try.ntmps8
  go_upto_region 2 with ((go_at_call 29; refine HAv.out.mono ?_; rintro e w1 ⟨rfl, hb1⟩))
  obtain ⟨y0, y1⟩ := HG.out w1 hb1
  have HX := Lib.hid (And.intro (HB0.out.trans (hb1.mono HB0.out.size)) (And.intro y0 y1))
  refine abs_world (Q := fun W => Code.wp _ _ _ _ W) (F := fun W => Below w.heap.size w W ∧ W.cell? ⟨w.heap.size, 0, none⟩ = some (.slice A b.to_.length c) ∧ W.cell? ⟨w.heap.size, 1, none⟩ = some (.slice F b.fronts.length fc)) _ HX.out ?_
  clear HX y0 y1 hb1 HAv HG g0 g1 HB0
  rintro W2 ⟨hb2, g0, g1⟩
  have HB2 := Lib.hid hb2
  have HG := Lib.hid (fun W (h : Below W2.heap.size W2 W) => And.intro ((bcell h (lt_of_cell g0) _).trans g0) ((bcell h (lt_of_cell g1) _).trans g1))
  have HSl := Lib.hid (fun W (h : Below W2.heap.size W2 W) => (And.intro ((HS.out.below (hb2.trans (h.mono hb2.size))).more (hb2.trans (h.mono hb2.size)).size) (And.intro ((HPr.out.below (hb2.trans (h.mono hb2.size))).more (hb2.trans (h.mono hb2.size)).size) ((HNs.out.below (hb2.trans (h.mono hb2.size))).more (hb2.trans (h.mono hb2.size)).size))))
  have HCk := Lib.hid (rcheck_big A F c fc b hf' W2 (HSl.out W2 (Below.refl _ _)).1 (HSl.out W2 (Below.refl _ _)).2.1)
  have HCb := Lib.hid (fun W hb => rcables_all An cn ns W (HSl.out W hb).2.2)
  clear hb2 HS HPr HNs
  by_cases hE : brdE b = 0
  case neg =>
    have e1 : (brdE b != 0) = true := by simpa using hE
    clear hE
    go_wp2_with ((go_at_call 20; refine HCk.out.mono ?_; rintro e w3 ⟨rfl, hb3⟩))
    go_ret
    exact ⟨rfl, HB2.out.trans (hb3.mono HB2.out.size)⟩
  rw [hE] at HCk
  have HE := Lib.hid hE
  clear hE
  cases hcb : cabB ns with
  | false =>
    rw [hcb] at HCb
    clear hcb
    go_wp2_with (first
      | (go_at_call 20; refine HCk.out.mono ?_; rintro e w3 ⟨rfl, hb3⟩)
      | (go_at_call 30; refine (HCb.out _ hb3).mono ?_; rintro e w4 ⟨rfl, hb4⟩))
    go_ret
    exact ⟨rfl, HB2.out.trans ((hb3.trans (hb4.mono hb3.size)).mono HB2.out.size)⟩
  | true =>
    rw [hcb] at HCb
    obtain ⟨k8, kp, kf⟩ := brdE_zero HE.out
    have hfl : b.fronts.length ≤ 4611686018427387904 := Nat.le_trans (fr_len k8 kf) (by decide)
    have hf64 := fr_len k8 kf
    have hns4 := cab_len hcb
    have HPl := Lib.hid (fun W hb => hplan_any A F c fc b hfl An cn ns (by omega) W (HSl.out W hb).1 (HSl.out W hb).2.1 (HSl.out W hb).2.2)
    have HCa := Lib.hid hcb
    clear hf' kp kf hcb
    go_upto_region 4 with (first
      | (go_at_call 20; refine HCk.out.mono ?_; rintro e w3 ⟨rfl, hb3⟩)
      | (go_at_call 30; refine (HCb.out _ hb3).mono ?_; rintro e w4 ⟨rfl, hb4⟩))
    refine abs_world (Q := fun W => Code.wp _ _ _ _ W) (F := fun W => Below W2.heap.size W2 W) _ (hb3.trans (hb4.mono hb3.size)) ?_
    clear hb3 hb4 HCk HCb g0 g1
    intro W4 hb4
    obtain ⟨g0, g1⟩ := HG.out W4 hb4
    have HPl4 := Lib.hid (HPl.out W4 hb4)
    have HB4 := Lib.hid hb4
    have HBw4 := Lib.hid (HB2.out.trans (hb4.mono HB2.out.size))
    clear hb4 HPl
    cases hsea : sea ns.length (okL b ns) b.to_.length [] with
    | none =>
      have HP : Hid (Calls Try.prog 21 #[.agg #[.slice A b.to_.length c, .slice F b.fronts.length fc], .slice An ns.length cn] W4 fun e w' => ∃ A' c', e = .returned (.tuple #[.slice A' 0 c', .int .i64 6]) ∧ rowL w' W4.heap.size A' c' [] ∧ Below W4.heap.size W4 w') := by
        have h := HPl4.out
        rw [plan_none HE.out HCa.out hsea] at h
        exact h
      clear hsea HPl4
      go_wp2_with ((go_at_call 21; refine HP.out.mono ?_; rintro e w5 ⟨A5, c5, rfl, -, hb5⟩))
      go_ret
      exact ⟨rfl, HBw4.out.trans (hb5.mono HBw4.out.size)⟩
    | some p =>
      obtain ⟨hR, hpl⟩ := sea_right HE.out HCa.out hsea
      have hrt := right_true (b := b) (ns := ns) (plan := p) (by rw [hR]) (by rw [hR])
      have hpo : planOk ns.length b.to_.length p = true := by unfold planOk; rw [decide_eq_true hpl, Bool.true_and]; exact decide_eq_true hrt.1
      have hWk : workE b ns p = ((workL b.to_ p b.to_.length).2, 0) := by unfold workE; rw [hR]; rfl
      have hRp := wk_replay HE.out HCa.out hpo hrt.2
      have hml := workL_len (to_ := b.to_) (plan := p) b.to_.length
      have hml2 : (workL b.to_ p b.to_.length).2.length ≤ 1000 := by
        have : b.to_.length * (p.length + 1) ≤ 8 * 9 := Nat.mul_le_mul k8 (by omega)
        omega
      obtain ⟨mv, hmv⟩ : ∃ mv, mv = (workL b.to_ p b.to_.length).2 := ⟨_, rfl⟩
      rw [← hmv] at hWk hRp hml2
      have hp8 : p.length ≤ 8 := by omega
      have HP : Hid (Calls Try.prog 21 #[.agg #[.slice A b.to_.length c, .slice F b.fronts.length fc], .slice An ns.length cn] W4 fun e w' => ∃ A' c', e = .returned (.tuple #[.slice A' p.length c', .int .i64 0]) ∧ rowL w' W4.heap.size A' c' p ∧ Below W4.heap.size W4 w') := by
        have h := HPl4.out
        rw [plan_some HE.out HCa.out hsea] at h
        exact h
      have HRi : Hid (∀ W (hb : Below W2.heap.size W2 W) A' c', p.length ≤ c' → SlI W W.heap.size A' p → Calls Try.prog 17 #[.agg #[.slice A b.to_.length c, .slice F b.fronts.length fc], .slice An ns.length cn, .slice A' p.length c'] W fun e w' => e = .returned (.tuple #[.bool true, .int .i64 0]) ∧ Below W.heap.size W w') := fun W hb A' c' h1 h2 => by
        have h := hright_any A F c fc b hfl An cn ns (by omega) A' c' p h1 (by omega) W (HSl.out W hb).1 (HSl.out W hb).2.1 (HSl.out W hb).2.2 h2
        rw [hR] at h
        exact h
      have HWk : Hid (∀ W (hb : Below W2.heap.size W2 W) A' c', p.length ≤ c' → SlI W W.heap.size A' p → Calls Try.prog 25 #[.agg #[.slice A b.to_.length c, .slice F b.fronts.length fc], .slice An ns.length cn, .slice A' p.length c'] W fun e w' => ∃ Am cm, e = .returned (.tuple #[.slice Am mv.length cm, .int .i64 0]) ∧ rowM w' W.heap.size Am cm mv ∧ Below W.heap.size W w') := fun W hb A' c' h1 h2 => by
        have h := hwork_any A F c fc b hfl An cn ns (by omega) A' c' p h1 (by omega) W (HSl.out W hb).1 (HSl.out W hb).2.1 (HSl.out W hb).2.2 h2
        rw [hWk] at h
        exact h
      have HRe : Hid (∀ W (hb : Below W2.heap.size W2 W) Am cm, SlMv W W.heap.size Am mv → Calls Try.prog 11 #[.int .i64 (b.to_.length : Int), .slice An ns.length cn, .slice Am mv.length cm] W fun e w' => brdOut (b, 0) W e w') := fun W hb Am cm h1 => by
        have h := hrep_any (b.to_.length : Int) An cn ns (by omega) Am cm mv (by omega) W (HSl.out W hb).2.2 h1
        rw [hRp] at h
        exact h
      have HSa := Lib.hid (fun W (hb : Below W2.heap.size W2 W) A' F' c' fc' h1 h2 => rsame29_any A A' F F' c c' fc fc' b.to_ b.fronts (by omega) (by omega) W (HSl.out W hb).1 h1 (HSl.out W hb).2.1 h2)
      clear hR hpl hrt hpo hWk hRp hml hml2 hmv hsea HPl4 HE HCa hfl hf64 hns4 HSl hp8 k8
      go_upto_region 7 with ((go_at_call 21; refine HP.out.mono ?_; rintro e w5 ⟨A5, c5, rfl, hr5, hb5⟩))
      have hb25 := HB4.out.trans (hb5.mono HB4.out.size)
      refine abs_world (Q := fun W => Code.wp _ _ _ _ W) (F := fun W => Below W2.heap.size W2 W ∧ SlI W W.heap.size A5 p) _ ⟨hb25, rowL_sl hr5⟩ ?_
      have hcap := rowL_cap hr5
      clear hr5 hb5 hb25 g0 g1 HP HB4
      rintro W5 ⟨hb5, hs5⟩
      obtain ⟨g0, g1⟩ := HG.out W5 hb5
      have HRi5 := Lib.hid (HRi.out W5 hb5 A5 c5 hcap hs5)
      have HB5 := Lib.hid hb5
      have HS5 := Lib.hid hs5
      clear hb5 hs5 HRi
      go_upto_region 8 with ((go_at_call 17; refine HRi5.out.mono ?_; rintro e w6 ⟨rfl, hb6⟩))
      have hb26 := HB5.out.trans (hb6.mono HB5.out.size)
      refine abs_world (Q := fun W => Code.wp _ _ _ _ W) (F := fun W => Below W2.heap.size W2 W ∧ SlI W W.heap.size A5 p) _ ⟨hb26, (HS5.out.below hb6).more hb6.size⟩ ?_
      clear hb6 hb26 g0 g1 HRi5 HB5 HS5
      rintro W6 ⟨hb6, hs6⟩
      obtain ⟨g0, g1⟩ := HG.out W6 hb6
      have HWk6 := Lib.hid (HWk.out W6 hb6 A5 c5 hcap hs6)
      have HB6 := Lib.hid hb6
      clear hb6 hs6 HWk hcap
      go_upto_region 9 with ((go_at_call 25; refine HWk6.out.mono ?_; rintro e w7 ⟨Am, cm, rfl, hr7, hb7⟩))
      have hb27 := HB6.out.trans (hb7.mono HB6.out.size)
      refine abs_world (Q := fun W => Code.wp _ _ _ _ W) (F := fun W => Below W2.heap.size W2 W ∧ SlMv W W.heap.size Am mv) _ ⟨hb27, rowM_sl hr7⟩ ?_
      clear hr7 hb7 hb27 g0 g1 HWk6 HB6
      rintro W7 ⟨hb7, hm7⟩
      obtain ⟨g0, g1⟩ := HG.out W7 hb7
      have HRe7 := Lib.hid (HRe.out W7 hb7 Am cm hm7)
      have HB7 := Lib.hid hb7
      clear hb7 hm7 HRe
      go_upto_region 10 with ((go_at_call 11; refine HRe7.out.mono ?_; intro e w8 ho; obtain ⟨A8, F8, c8, fc8, rfl, hs8, hp8, hb8⟩ := brd_open ho; clear ho))
      have hba := (Below.refl _ w8).alloc (Nat.le_refl _) (.cells #[.slice A8 b.to_.length c8, .slice F8 b.fronts.length fc8] 26)
      have hb28 := HB7.out.trans (hb8.mono HB7.out.size)
      have hb29 := hb28.trans (hba.mono hb28.size)
      have q0 : (w8.alloc (.cells #[.slice A8 b.to_.length c8, .slice F8 b.fronts.length fc8] 26)).cell? ⟨w8.heap.size, 0, none⟩ = some (.slice A8 b.to_.length c8) := cell_new rfl rfl rfl
      have q1 : (w8.alloc (.cells #[.slice A8 b.to_.length c8, .slice F8 b.fronts.length fc8] 26)).cell? ⟨w8.heap.size, 1, none⟩ = some (.slice F8 b.fronts.length fc8) := cell_new rfl rfl rfl
      obtain ⟨y0, y1⟩ := HG.out _ hb29
      have HSm := Lib.hid (HSa.out _ hb29 A8 F8 c8 fc8 ((hs8.below hba).more hba.size) ((hp8.below hba).more hba.size))
      have HBf := Lib.hid (HB2.out.trans (hb29.mono HB2.out.size))
      clear hba hb28 hb29 hb8 hs8 hp8 HSa HRe7 HB7 g0 g1 HG
      go_wp2_with ((go_at_call 13; refine HSm.out.mono ?_; rintro e w9 ⟨rfl, hb9⟩))
      go_ret
      exact ⟨rfl, HBf.out.trans (hb9.mono HBf.out.size)⟩
end Go.Proofs.Ytodjkifcbgmckaa
