/- Layer 32, plain: a list is an order exactly if the reference's tests say so. Layer 32: the reference's May. -/
import Derived.Test.YtflpikickbellaaKExP
import Derived.Test.YtflpikickbellaaKMy
import Derived.Test.YtflpikickbellaaKG13
import Derived.Deep.RegionHeld3
import Derived.Deep.RegionHeld
namespace Go.Proofs.Ytflpikickbellaa
open Go.RowKit Go.Shelf Go.Sort
set_option maxRecDepth 100000

/-- The stop of the last one. -/
def lastO (s : Sft) (pre : List Int) : Int := match pre.getLast? with
  | some x => offN s x.toNat
  | none => 9
theorem lastO_app (s : Sft) (pre : List Int) (x : Int) : lastO s (pre ++ [x]) = offN s x.toNat := by unfold lastO; rw [List.getLast?_concat]
structure StepOk (s : Sft) (pre : List Int) (x : Int) : Prop where
  lo : 0 ≤ x
  hi : x < (s.n : Int)
  mv : movedN s x.toNat = true
  new : ¬ x ∈ pre
  stop : offN s x.toNat = lastO s pre ∨ ∀ j, j < s.n → offN s j = lastO s pre → movedN s j = true → (j : Int) ∈ pre
  fst : ∀ p ∈ s.first, p.2 = x → movedN s p.1.toNat = true → p.1 ∈ pre
theorem may_steps {s : Sft} (hs : SftOk s) : ∀ (l : List Int) (come : Nat → Bool) (pre : List Int) (last : Int), (∀ i, i < s.n → (come i = true ↔ (i : Int) ∈ pre)) → last = lastO s pre →
    (mayS s come last l = true ↔ (∀ k x, l[k]? = some x → StepOk s (pre ++ l.take k) x) ∧ ∀ i, i < s.n → movedN s i = true → (i : Int) ∈ pre ++ l)
  | [], come, pre, last, hc, hl => by
    rw [may_nil]
    constructor
    · intro h
      refine ⟨fun k x hx => by simp at hx, fun i hi hm => ?_⟩
      rw [List.append_nil]
      cases e : come i with
      | true => exact (hc i hi).1 e
      | false =>
        have hw := waitN_iff.2 ⟨hm, e⟩
        have : offN s i ∈ stopsN s come := by
          unfold stopsN
          rw [List.mem_filter, mem_stops]
          exact ⟨(hs.to_ i hi).2.2, hasN_iff.2 ⟨i, hi, rfl, hw⟩⟩
        rw [h] at this; cases this
    · rintro ⟨-, h⟩
      apply List.eq_nil_iff_forall_not_mem.2
      intro t ht
      unfold stopsN at ht
      obtain ⟨i, hi, -, hw⟩ := hasN_iff.1 (List.mem_filter.1 ht).2
      obtain ⟨h1, h2⟩ := waitN_iff.1 hw
      have := h i hi h1
      rw [List.append_nil, ← hc i hi, h2] at this
      cases this
  | x :: l, come, pre, last, hc, hl => by
    subst hl
    have ih : ∀ i : Nat, i < s.n → x = (i : Int) → _ := fun i hi hx => may_steps hs l (putN come i) (pre ++ [x]) (offN s i) (fun j hj => by
      unfold putN
      rw [Bool.or_eq_true, decide_eq_true_eq, hc j hj, List.mem_append, List.mem_singleton, hx]
      constructor
      · rintro (h | rfl)
        · exact Or.inl h
        · exact Or.inr rfl
      · rintro (h | h)
        · exact Or.inl h
        · exact Or.inr (by omega)) (by rw [lastO_app, hx]; simp)
    rw [may_cons]
    constructor
    · rintro ⟨i, rfl, hi, hw, hst, hp, hr⟩
      obtain ⟨h1, h2⟩ := (ih i hi rfl).1 hr
      obtain ⟨hm, hcf⟩ := waitN_iff.1 hw
      have e : ((i : Int)).toNat = i := by omega
      refine ⟨fun k y hy => ?_, fun j hj hmj => by have := h2 j hj hmj; simpa using this⟩
      cases k with
      | zero =>
        simp only [List.getElem?_cons_zero, Option.some.injEq] at hy
        subst hy
        rw [List.take_zero, List.append_nil]
        refine ⟨by omega, by omega, by rw [e]; exact hm, fun hmem => ?_, ?_, fun p hpm hpe hmv => ?_⟩
        · rw [(hc i hi).2 hmem] at hcf; cases hcf
        · rw [e]
          rcases hst with h3 | h3
          · exact Or.inl h3
          · refine Or.inr fun j hj ho hmv => ?_
            cases e2 : come j with
            | true => exact (hc j hj).1 e2
            | false =>
              have := hasN_iff.2 ⟨j, hj, ho, waitN_iff.2 ⟨hmv, e2⟩⟩
              rw [h3] at this; cases this
        · obtain ⟨p0, p1, -⟩ := hs.first p hpm
          have h4 := hp p hpm hpe
          cases e2 : come p.1.toNat with
          | true =>
            have := (hc p.1.toNat (by omega)).1 e2
            rwa [show ((p.1.toNat : Nat) : Int) = p.1 by omega] at this
          | false => rw [waitN_iff.2 ⟨hmv, e2⟩] at h4; cases h4
      | succ k =>
        have h3 := h1 k y (by simpa using hy)
        rw [List.take_succ_cons]
        simpa using h3
    · rintro ⟨h1, h2⟩
      have h0 := h1 0 x rfl
      rw [List.take_zero, List.append_nil] at h0
      have hx : x = ((x.toNat : Nat) : Int) := by have := h0.lo; omega
      have hi : x.toNat < s.n := by have := h0.hi; have := h0.lo; omega
      refine ⟨x.toNat, hx, hi, waitN_iff.2 ⟨h0.mv, ?_⟩, ?_, fun p hpm hpe => ?_, (ih x.toNat hi hx).2 ⟨fun k y hy => ?_, fun j hj hmj => by have := h2 j hj hmj; simpa using this⟩⟩
      · cases e : come x.toNat with
        | false => rfl
        | true =>
          have := (hc _ hi).1 e
          rw [← hx] at this
          exact absurd this h0.new
      · rcases h0.stop with h3 | h3
        · exact Or.inl h3
        · refine Or.inr ?_
          cases e : hasN s come (lastO s pre) with
          | false => rfl
          | true =>
            obtain ⟨j, hj, ho, hw⟩ := hasN_iff.1 e
            obtain ⟨hm, hcf⟩ := waitN_iff.1 hw
            rw [(hc j hj).2 (h3 j hj ho hm)] at hcf
            cases hcf
      · obtain ⟨p0, p1, -⟩ := hs.first p hpm
        cases e : waitN s come p.1.toNat with
        | false => rfl
        | true =>
          obtain ⟨hm, hcf⟩ := waitN_iff.1 e
          have h4 := h0.fst p hpm (by rw [hpe, ← hx]) hm
          rw [show p.1 = ((p.1.toNat : Nat) : Int) by omega, ← hc _ (by omega), hcf] at h4
          cases h4
      · have h3 := h1 (k + 1) y (by simpa using hy)
        rw [List.take_succ_cons] at h3
        simpa using h3
theorem step_ex (P : Nat → Prop) : ∀ {m n : Nat}, m ≤ n → P m → ¬ P n → ∃ t, m ≤ t ∧ t < n ∧ P t ∧ ¬ P (t + 1)
  | m, 0, h, h1, h2 => by obtain rfl : m = 0 := by omega
                          exact absurd h1 h2
  | m, n + 1, h, h1, h2 => by
    by_cases e : m = n + 1
    · subst e; exact absurd h1 h2
    · by_cases hp : P n
      · exact ⟨n, by omega, by omega, hp, h2⟩
      · obtain ⟨t, t1, t2, t3⟩ := step_ex P (show m ≤ n by omega) h1 hp
        exact ⟨t, t1, by omega, t3⟩
/-- The place of a loop in a list, or -1. -/
def plc (l : List Int) (x : Int) : Int := if x ∈ l then (l.idxOf x : Int) else -1
theorem plc_app {l : List Int} {x : Int} (hx : ¬ x ∈ l) (y : Int) : plc (l ++ [x]) y = if y = x then (l.length : Int) else plc l y := by
  unfold plc
  by_cases e : y = x
  · subst e
    rw [if_pos (List.mem_append.2 (Or.inr List.mem_cons_self)), if_pos rfl, List.idxOf_append, if_neg hx, List.idxOf_cons_self]
    omega
  · rw [if_neg e]
    by_cases hy : y ∈ l
    · rw [if_pos hy, if_pos (List.mem_append.2 (Or.inl hy)), List.idxOf_append, if_pos hy]
    · rw [if_neg hy, if_neg (fun h => by rcases List.mem_append.1 h with h | h; exact hy h; exact e (List.mem_singleton.1 h))]
structure MayP (s : Sft) (l : List Int) : Prop where
  rng : ∀ x ∈ l, 0 ≤ x ∧ x < (s.n : Int) ∧ movedN s x.toNat = true
  nd : ∀ k x, l[k]? = some x → ¬ x ∈ l.take k
  stay : ∀ m k, m + 1 < k → k < l.length → offN s (l.getD m 0).toNat = offN s (l.getD k 0).toNat → offN s (l.getD (k - 1) 0).toNat = offN s (l.getD k 0).toNat
  all : ∀ i, i < s.n → movedN s i = true → (i : Int) ∈ l
  fst : ∀ p ∈ s.first, plc l p.1 ≤ plc l p.2
theorem getD_some {l : List Int} {k : Nat} {x : Int} (h : l[k]? = some x) : l.getD k 0 = x := by rw [List.getD_eq_getElem?_getD, h]; rfl
theorem some_getD {l : List Int} {k : Nat} (h : k < l.length) : l[k]? = some (l.getD k 0) := by rw [List.getD_eq_getElem?_getD, List.getElem?_eq_getElem h]; rfl
theorem lastO_take {s : Sft} {l : List Int} {k : Nat} (h : k < l.length) : lastO s (l.take (k + 1)) = offN s (l.getD k 0).toNat := by
  rw [List.take_succ_eq_append_getElem h, lastO_app, getD_some (List.getElem?_eq_getElem h)]
theorem mem_take_of {l : List Int} {k m : Nat} {x : Int} (h : l[m]? = some x) (hm : m < k) : x ∈ l.take k := by
  rw [List.mem_iff_getElem?]
  exact ⟨m, by rw [List.getElem?_take, if_pos hm]; exact h⟩
theorem of_mem_take {l : List Int} {k : Nat} {x : Int} (h : x ∈ l.take k) : ∃ m, m < k ∧ l[m]? = some x := by
  obtain ⟨m, hm⟩ := List.mem_iff_getElem?.1 h
  rw [List.getElem?_take] at hm
  split at hm
  · exact ⟨m, by assumption, hm⟩
  · cases hm
theorem idx_is {l : List Int} (hn : ∀ k x, l[k]? = some x → ¬ x ∈ l.take k) {k : Nat} {x : Int} (h : l[k]? = some x) : plc l x = (k : Int) := by
  have hm : x ∈ l := List.mem_of_getElem? h
  unfold plc
  rw [if_pos hm]
  have h1 : l.idxOf x < l.length := List.idxOf_lt_length_iff.2 hm
  have h2 : l[l.idxOf x]? = some x := by rw [List.getElem?_eq_getElem h1, List.getElem_idxOf h1]
  rcases Nat.lt_trichotomy (l.idxOf x) k with h3 | h3 | h3
  · exact absurd (mem_take_of h2 h3) (hn k x h)
  · rw [h3]
  · exact absurd (mem_take_of h h3) (hn _ x h2)
theorem may_iff {s : Sft} (hs : SftOk s) (l : List Int) : mayS s (fun _ => false) 9 l = true ↔ MayP s l := by
  rw [may_steps hs l (fun _ => false) [] 9 (fun i _ => by simp) rfl]
  simp only [List.nil_append]
  constructor
  · rintro ⟨h1, h2⟩
    have hn : ∀ k x, l[k]? = some x → ¬ x ∈ l.take k := fun k x hx => (h1 k x hx).new
    refine ⟨fun x hx => ?_, hn, fun m k hmk hk ho => ?_, h2, fun p hp => ?_⟩
    · obtain ⟨k, hk⟩ := List.mem_iff_getElem?.1 hx
      exact ⟨(h1 k x hk).lo, (h1 k x hk).hi, (h1 k x hk).mv⟩
    · apply Classical.byContradiction
      intro hne
      obtain ⟨t, t1, t2, t3, t4⟩ := step_ex (fun t => offN s (l.getD t 0).toNat = offN s (l.getD k 0).toNat) (show m ≤ k - 1 by omega) ho hne
      have hS := h1 (t + 1) _ (some_getD (by omega))
      have hK := h1 k _ (some_getD hk)
      rcases hS.stop with h3 | h3
      · rw [lastO_take (by omega)] at h3
        exact t4 (h3.trans t3)
      · rw [lastO_take (by omega)] at h3
        have h4 := h3 (l.getD k 0).toNat (by have := hK.lo; have := hK.hi; omega) t3.symm hK.mv
        rw [show (((l.getD k 0).toNat : Nat) : Int) = l.getD k 0 by have := hK.lo; omega] at h4
        obtain ⟨m', hm', he⟩ := of_mem_take h4
        exact hn k _ (some_getD hk) (mem_take_of he (by omega))
    · obtain ⟨p0, p1, p2, p3, -⟩ := hs.first p hp
      have hm2 : movedN s p.2.toNat = true := by
        unfold movedN
        rw [Bool.or_eq_true, List.any_eq_true]
        exact Or.inr ⟨p, hp, decide_eq_true (by omega)⟩
      have h3 := h2 p.2.toNat (by omega) hm2
      rw [show ((p.2.toNat : Nat) : Int) = p.2 by omega] at h3
      obtain ⟨k, hk⟩ := List.mem_iff_getElem?.1 h3
      rw [idx_is hn hk]
      by_cases hm1 : movedN s p.1.toNat = true
      · obtain ⟨m, hm, he⟩ := of_mem_take ((h1 k _ hk).fst p hp rfl hm1)
        rw [idx_is hn he]; omega
      · unfold plc
        rw [if_neg]
        · omega
        · intro hmem
          obtain ⟨m, hm⟩ := List.mem_iff_getElem?.1 hmem
          exact hm1 (h1 m _ hm).mv
  · intro h
    refine ⟨fun k x hx => ?_, h.all⟩
    have hk := (List.getElem?_eq_some_iff.1 hx).1
    obtain ⟨r1, r2, r3⟩ := h.rng x (List.mem_of_getElem? hx)
    refine ⟨r1, r2, r3, h.nd k x hx, ?_, fun p hp he hm => ?_⟩
    · cases k with
      | zero =>
        refine Or.inr fun j hj ho _ => ?_
        rw [List.take_zero] at ho
        have := (hs.to_ j hj).2.2.2
        have e : lastO s [] = 9 := rfl
        omega
      | succ k =>
        rw [lastO_take (by omega)]
        by_cases e : offN s x.toNat = offN s (l.getD k 0).toNat
        · exact Or.inl e
        · refine Or.inr fun j hj ho hm => ?_
          obtain ⟨m, hmj⟩ := List.mem_iff_getElem?.1 (h.all j hj hm)
          have hml := (List.getElem?_eq_some_iff.1 hmj).1
          by_cases hmk : m < k + 1
          · exact mem_take_of hmj hmk
          · exfalso
            have e2 : ((j : Int)).toNat = j := by omega
            obtain ⟨t, t1, t2, t3, t4⟩ := step_ex (fun t => ¬ offN s (l.getD t 0).toNat = offN s (l.getD k 0).toNat) (show k + 1 ≤ m by omega) (by rw [getD_some hx]; exact e) (by
              rw [getD_some hmj, e2]; exact fun h => h ho)
            simp only [Classical.not_not] at t4
            have h5 := h.stay k (t + 1) (by omega) (by omega) t4.symm
            rw [t4, Nat.add_sub_cancel] at h5
            exact t3 h5
    · obtain ⟨p0, p1, -, -, p5⟩ := hs.first p hp
      have h3 := h.all p.1.toNat (by omega) hm
      rw [show ((p.1.toNat : Nat) : Int) = p.1 by omega] at h3
      obtain ⟨m, hmj⟩ := List.mem_iff_getElem?.1 h3
      have h4 := h.fst p hp
      rw [idx_is h.nd hmj, he, idx_is h.nd hx] at h4
      refine mem_take_of hmj ?_
      rcases Nat.lt_or_ge m k with h6 | h6
      · exact h6
      · obtain rfl : m = k := by omega
        rw [hx] at hmj
        exact absurd (Option.some.inj hmj).symm (by rw [← he]; exact p5)
end Go.Proofs.Ytflpikickbellaa
namespace Go.Proofs.Ytflpikickbellaa
open Go.RowKit Go.Shelf Go.Sort
set_option maxRecDepth 100000

/-! A row of numbers that a call owns, read as a function. -/
def pxZ (g n : Nat) (f : Nat → Int) : Own := ⟨3, 1, n, .slice (some ⟨g, 0, none⟩) n n, (List.range n).map fun k => .int .i64 (f k)⟩
theorem pxZ_at {w : World} {B g n : Nat} {f : Nat → Int} (h : (pxZ g n f).lies w B) : (∀ i, i < n → w.cell? ⟨g, i, none⟩ = some (.int .i64 (f i))) ∧ (∀ k, w.frozen? ⟨g, k, none⟩ = false) ∧ B ≤ g ∧ g < w.heap.size := by
  have h0 : w.ownsRow B 3 1 (.slice (some ⟨g, 0, none⟩) n n) n ((List.range n).map fun k => Value.int .i64 (f k)) := h
  have hl := World.ownsRow.lt h0 g rfl
  refine ⟨fun i hi => ?_, fun k => World.ownsRow.frozenAt h0 k, hl.1, hl.2⟩
  rw [World.ownsRow.cellAt h0 i (by omega), List.getElem?_map, List.getElem?_range hi]
  rfl
theorem pxZ_put {w : World} {B g n : Nat} {f : Nat → Int} {L : List Own} (h : Owns w B (pxZ g n f :: L)) (k : Nat) (x : Int) : Owns (w.setCell ⟨g, k, none⟩ (.int .i64 x)) B (pxZ g n (fun j => if j = k then x else f j) :: L) := by
  have h0 : w.ownsRow B 3 1 (.slice (some ⟨g, 0, none⟩) n n) n ((List.range n).map fun k => Value.int .i64 (f k)) := h.head
  obtain ⟨h1, h2⟩ := World.ownsRow.stored h0 k (.int .i64 x)
  have e : ((List.range n).map fun k => Value.int .i64 (f k)).set k (.int .i64 x) = (List.range n).map fun j => Value.int .i64 (if j = k then x else f j) := by
    apply List.ext_getElem (by simp)
    intro j h1 h2
    rw [List.getElem_set]
    simp only [List.getElem_map, List.getElem_range]
    by_cases hj : k = j
    · subst hj; simp
    · rw [if_neg hj, if_neg (fun h => hj h.symm)]
  rw [e] at h1
  exact h.turn (o' := pxZ g n (fun j => if j = k then x else f j)) h2 h1 (fun j hj => Or.inl hj)
theorem pxZ_eq {g n : Nat} {f f' : Nat → Int} (h : ∀ i, i < n → f i = f' i) : pxZ g n f = pxZ g n f' := by
  unfold pxZ
  congr 1
  apply List.map_congr_left
  intro i hi
  rw [h i (List.mem_range.1 hi)]
theorem mk_intsT (w : World) (n : Nat) (hn : n ≤ 1000000) : ∃ w', (Instr.makeSlice 22 (.int .i64 (n : Int)) (.int .i64 (n : Int))).run Try.prog w = .ok (.slice (some ⟨w.heap.size, 0, none⟩) n n) w' ∧ Owns w' w.heap.size [pxZ w.heap.size n (fun _ => 0)] ∧ Below w.heap.size w w' := by
  obtain ⟨i1, hi', hz0', hz1', hz2'⟩ := info_parts info_int'
  obtain ⟨w3, hmr, hob, hgb⟩ := run_make_full (P := Try.prog) w w.heap.size 22 3 i1 (.int .i64 0) 1 Try.underlying22 hi' hz0' hz1' .i64 .i64 n (by rw [hz2']; omega) (by unfold maxLen; omega) (Nat.le_refl _)
  have hb := (Below.refl w.heap.size w).grown hgb (Nat.le_refl _) (fun k e => by cases e)
  refine ⟨w3, hmr, Owns.nil.add hb (Nat.le_refl _) ?_, hb⟩
  have e : (madeCells (Value.int .i64 0).cells (n * 1)).toList = (List.range n).map fun _ => Value.int .i64 0 := by
    rw [Nat.mul_one, List.map_const', List.length_range]
    exact toList_madeCells_one _ _
  rw [e] at hob
  exact hob
structure OrZ (W1 : World) (g n : Nat) (f : Nat → Int) (W : World) : Prop where
  own : Owns W W1.heap.size [pxZ g n f]
  lo : Below W1.heap.size W1 W
theorem OrZ.to {W1 W W' : World} {g n : Nat} {f : Nat → Int} (h : OrZ W1 g n f W) (hb : Below W.heap.size W W') : OrZ W1 g n f W' := ⟨h.own.to hb, h.lo.trans (hb.mono h.lo.size)⟩
theorem OrZ.eq {W1 W : World} {g n : Nat} {f f' : Nat → Int} (h : OrZ W1 g n f W) (he : ∀ i, i < n → f i = f' i) : OrZ W1 g n f' W := ⟨by rw [← pxZ_eq he]; exact h.own, h.lo⟩
theorem OrZ.at_ {W1 W : World} {g n : Nat} {f : Nat → Int} (h : OrZ W1 g n f W) : (∀ i, i < n → W.cell? ⟨g, i, none⟩ = some (.int .i64 (f i))) ∧ ∀ k, W.frozen? ⟨g, k, none⟩ = false := ⟨(pxZ_at h.own.head).1, (pxZ_at h.own.head).2.1⟩
theorem OrZ.put {W1 W : World} {g n : Nat} {f : Nat → Int} (h : OrZ W1 g n f W) (k : Nat) (x : Int) : OrZ W1 g n (fun j => if j = k then x else f j) (W.setCell ⟨g, k, none⟩ (.int .i64 x)) :=
  ⟨pxZ_put h.own k x, h.lo.setCell (p := ⟨g, k, none⟩) (pxZ_at h.own.head).2.2.1 _⟩
/-- What has been seen of a list. -/
structure MyI (s : Sft) (l : List Int) (k : Nat) : Prop where
  rng : ∀ j x, j < k → l[j]? = some x → 0 ≤ x ∧ x < (s.n : Int) ∧ movedN s x.toNat = true ∧ ¬ x ∈ l.take j
  stay : ∀ m j, m + 1 < j → j < k → offN s (l.getD m 0).toNat = offN s (l.getD j 0).toNat → offN s (l.getD (j - 1) 0).toNat = offN s (l.getD j 0).toNat
theorem MyI.zero (s : Sft) (l : List Int) : MyI s l 0 := ⟨fun j _ h => absurd h (Nat.not_lt_zero j), fun _ j _ h => absurd h (Nat.not_lt_zero j)⟩
theorem MyI.next {s : Sft} {l : List Int} {k : Nat} (h : MyI s l k) {i : Nat} (hx : l[k]? = some (i : Int)) (hi : i < s.n) (hm : movedN s i = true) (hn : plc (l.take k) (i : Int) < 0) (hs : ∀ m, m + 1 < k → offN s (l.getD m 0).toNat = offN s i → offN s (l.getD (k - 1) 0).toNat = offN s i) : MyI s l (k + 1) := by
  have e : ((i : Int)).toNat = i := by omega
  refine ⟨fun j x hj hjx => ?_, fun m j hm hj ho => ?_⟩
  · by_cases e2 : j = k
    · subst e2
      rw [hx] at hjx
      cases hjx
      rw [e]
      refine ⟨by omega, by omega, hm, fun hmem => ?_⟩
      unfold plc at hn
      rw [if_pos hmem] at hn
      omega
    · exact h.rng j x (by omega) hjx
  · by_cases e2 : j = k
    · subst e2
      rw [getD_some hx, e] at ho ⊢
      exact hs m hm ho
    · exact h.stay m j hm (by omega) ho
theorem plc_lo (l : List Int) (x : Int) : -1 ≤ plc l x ∧ plc l x < (l.length : Int) := by
  unfold plc
  split
  · have := List.idxOf_lt_length_iff.2 (by assumption)
    omega
  · omega
theorem plc_put {l : List Int} {k i : Nat} (hx : l[k]? = some (i : Int)) (hn : plc (l.take k) (i : Int) < 0) (j : Nat) : (if j = i then (k : Int) else plc (l.take k) (j : Int)) = plc (l.take (k + 1)) (j : Int) := by
  obtain ⟨hk, e⟩ := List.getElem?_eq_some_iff.1 hx
  have hnm : ¬ (i : Int) ∈ l.take k := fun hmem => by
    unfold plc at hn
    rw [if_pos hmem] at hn
    omega
  rw [List.take_succ_eq_append_getElem hk, e, plc_app hnm, List.length_take, Nat.min_eq_left (by omega)]
  by_cases e2 : j = i
  · subst e2; rw [if_pos rfl, if_pos rfl]
  · rw [if_neg e2, if_neg (by omega)]
theorem MayP.of {s : Sft} {l : List Int} (h : MyI s l l.length) (ha : ∀ i, i < s.n → movedN s i = true → 0 ≤ plc l (i : Int)) (hf : ∀ p ∈ s.first, plc l p.1 ≤ plc l p.2) : MayP s l := by
  refine ⟨fun x hx => ?_, fun k x hx => (h.rng k x (List.getElem?_eq_some_iff.1 hx).1 hx).2.2.2, h.stay, fun i hi hm => ?_, hf⟩
  · obtain ⟨k, hk⟩ := List.mem_iff_getElem?.1 hx
    obtain ⟨h1, h2, h3, -⟩ := h.rng k x (List.getElem?_eq_some_iff.1 hk).1 hk
    exact ⟨h1, h2, h3⟩
  · have := ha i hi hm
    unfold plc at this
    split at this
    · assumption
    · omega
set_option maxHeartbeats 32000000 in
theorem rmay_any (A F : Option Addr) (c fc : Nat) (s : Sft) (hl : s.to_.length ≤ 4611686018427387904) (hf : s.first.length ≤ 4611686018427387904) (Ao : Option Addr) (k0 : Nat) (order : List Int) (ho : order.length ≤ 100000) (w : World) (h : SfAt A F s w) (hb : SlI w w.heap.size Ao order) :
    Calls Try.prog 24 #[sftV A F c fc s, .slice Ao order.length k0] w fun e w' => MyPost w (mayE s order) e w' := by
  have hb0 := al_t w (sftB A F c fc s)
  have HX0 : Hid (SfBx w.heap.size A F c fc s (w.alloc (sftB A F c fc s)) ∧ Below w.heap.size w (w.alloc (sftB A F c fc s)) ∧ SlI (w.alloc (sftB A F c fc s)) (w.alloc (sftB A F c fc s)).heap.size Ao order) := ⟨SfBx.new c fc h, hb0, (hb.below hb0).more hb0.size⟩
  have HCh : Hid (∀ W, Below w.heap.size w W → Calls Try.prog 16 #[sftV A F c fc s] W fun e w' => e = .returned (.int .i64 (sftE s)) ∧ Below W.heap.size W w') := fun W hb => rchk_any A F c fc s hl hf W (h.to hb)
  have c0 := HX0.out.1.c0
  have c1 := HX0.out.1.c1
  obtain ⟨r, hr⟩ : ∃ r, r = mayE s order := ⟨_, rfl⟩
  rw [← hr]
  obtain ⟨pb, hpb⟩ : ∃ pb, pb = w.heap.size := ⟨_, rfl⟩
  clear h hb0 hb
  by_cases hE : sftE s = 0
  case neg =>
    have HR : Hid (r = (false, sftE s)) := by show _ = _; rw [hr]; unfold mayE; rw [if_pos hE]
    have d0 : (sftE s != 0) = true := by simpa using hE
    have HC1 := Lib.hid (HCh.out _ HX0.out.2.1)
    have HX2 : Hid (∀ W, Below (w.alloc (sftB A F c fc s)).heap.size (w.alloc (sftB A F c fc s)) W → W.cell? ⟨w.heap.size, 0, none⟩ = some (.slice A s.to_.length c) ∧ W.cell? ⟨w.heap.size, 1, none⟩ = some (.slice F s.first.length fc) ∧ Below w.heap.size w W) := fun W hb => ⟨(HX0.out.1.to hb).c0, (HX0.out.1.to hb).c1, HX0.out.2.1.trans (hb.mono HX0.out.2.1.size)⟩
    obtain ⟨x, hx⟩ : ∃ x, x = sftE s := ⟨_, rfl⟩
    rw [← hx] at HR d0 HC1
    simp only [← hx] at HCh
    clear hr hE hx hpb
    go_enter Try.func24, Try.ntmps24
    go_wp2_with fail
    refine HC1.out.mono ?_
    rintro e w1 ⟨rfl, hb1⟩
    obtain ⟨e0, e1, hb2⟩ := HX2.out w1 hb1
    have HC2 := Lib.hid (HCh.out w1 hb2)
    have HB2 := Lib.hid hb2
    clear hb1 hb2 c0 c1
    go_wp2_with fail
    refine HC2.out.mono ?_
    rintro e w2 ⟨rfl, hb3⟩
    have HB3 := Lib.hid (HB2.out.trans (hb3.mono HB2.out.size))
    clear hb3
    go_wp2
    go_ret2
    exact MyPost.mk' HR.out HB3.out
  case pos =>
  have hs := sftE_ok hE
  have HS := Lib.hid hs
  have hn40 : s.to_.length ≤ 40 := hs.len
  have HNo : Hid (¬ MayP s order → r = (false, 0)) := fun h => by
    rw [hr]; unfold mayE
    rw [if_neg (by simpa using hE)]
    cases e : mayS s (fun _ => false) 9 order with
    | false => rfl
    | true => exact absurd ((may_iff hs order).1 e) h
  have HYes : Hid (MayP s order → r = (true, 0)) := fun h => by
    rw [hr]; unfold mayE
    rw [if_neg (by simpa using hE), (may_iff hs order).2 h]
  have HC1 := Lib.hid (HCh.out _ HX0.out.2.1)
  rw [hE] at HC1
  clear hr HCh hE hs
  go_enter Try.func24, Try.ntmps24
  go_upto_region 3 with ((go_at_call 16; refine HC1.out.mono ?_; rintro e w1 ⟨rfl, hb1⟩))
  refine abs_world (Q := fun W => Code.wp _ _ _ _ W) (F := fun W => SfBx w.heap.size A F c fc s W ∧ Below w.heap.size w W ∧ SlI W W.heap.size Ao order) _ ⟨HX0.out.1.to hb1, HX0.out.2.1.trans (hb1.mono HX0.out.2.1.size), (HX0.out.2.2.below hb1).more hb1.size⟩ ?_
  clear HX0 c0 c1 hb1 HC1
  rintro W1 ⟨hx, hb1, hso⟩
  rw [← hpb] at hx ⊢
  have c0 := hx.c0
  have c1 := hx.c1
  have HXs : Hid (∀ W, Below W1.heap.size W1 W → SfBx pb A F c fc s W ∧ Below w.heap.size w W ∧ SlI W W.heap.size Ao order) := fun W hb => ⟨hx.to hb, hb1.trans (hb.mono hb1.size), (hso.below hb).more hb.size⟩
  clear hx hb1 hpb hso
  obtain ⟨w2, hmk, hO2, hb2⟩ := mk_intsT W1 s.to_.length (by omega)
  have HW2 : Hid (OrZ W1 W1.heap.size s.n (fun _ => 0) w2) := ⟨hO2, hb2⟩
  clear hO2 hb2
  go_upto_region 4 with fail
  refine abs_world (Q := fun W => Code.wp _ _ _ _ W) (F := fun W => OrZ W1 W1.heap.size s.n (fun _ => 0) W) _ HW2.out ?_
  clear HW2 hmk c0 c1
  obtain ⟨g, hg⟩ : ∃ g, g = W1.heap.size := ⟨_, rfl⟩
  intro W2 h2
  have HO2 : Hid (OrZ W1 g s.n (fun k => if k < 0 then -1 else 0) W2) := by rw [hg]; exact h2.eq (fun i _ => by simp)
  rw [show (Value.slice (some ⟨W1.heap.size, 0, none⟩) s.to_.length s.to_.length) = Value.slice (some ⟨g, 0, none⟩) s.to_.length s.to_.length by rw [hg]]
  clear h2 hg
  go_wp2
  go_loopw [7] (fun s7 wr => ∃ i : Nat, i ≤ s.to_.length ∧ s7 = .int .i64 (i : Int) ∧ Hid (OrZ W1 g s.n (fun k => if k < i then -1 else 0) wr)) (fun s7 _ => s.to_.length - (intOf s7).toNat)
  case atStart => exact ⟨0, Nat.zero_le _, rfl, HO2.out⟩
  case round =>
    obtain ⟨i, hi, rfl, HO3⟩ := hrel
    clear HO2
    by_cases hlt : i < s.to_.length
    case pos =>
      have hat := HO3.out.at_.1 i hlt
      have hfz := HO3.out.at_.2 i
      have HO4 : Hid (OrZ W1 g s.n (fun k => if k < i + 1 then -1 else 0) (wr.setCell ⟨g, i, none⟩ (.int .i64 (-1)))) := (HO3.out.put i (-1)).eq (fun k _ => by
        by_cases e : k = i
        · rw [if_pos e, if_pos (by omega)]
        · rw [if_neg e]
          by_cases e2 : k < i
          · rw [if_pos e2, if_pos (by omega)]
          · rw [if_neg e2, if_neg (by omega)])
      clear HO3
      go_wp2
      go_roundw
      case rel => exact ⟨i + 1, by omega, by go_num, HO4.out⟩
      case measure => simp [intOf]; omega
    case neg =>
      obtain rfl : i = s.to_.length := by omega
      have HO5 : Hid (OrZ W1 g s.n (fun k => plc (order.take 0) (k : Int)) wr) := HO3.out.eq (fun k hk => by rw [if_pos hk]; rfl)
      obtain ⟨W3, hW3⟩ : ∃ W3 : World, W3 = wr := ⟨_, rfl⟩
      rw [← hW3] at HO5 ⊢
      clear HO3 hW3 hi hlt
      have HI0 := Lib.hid (MyI.zero s order)
      go_wp2
      go_loopw [8] (fun s8 wr => ∃ k : Nat, k ≤ order.length ∧ s8 = .int .i64 (k : Int) ∧ Hid (OrZ W1 g s.n (fun j => plc (order.take k) (j : Int)) wr) ∧ Hid (MyI s order k)) (fun s8 _ => order.length - (intOf s8).toNat)
      case atStart => exact ⟨0, Nat.zero_le _, rfl, HO5.out, HI0.out⟩
      case round =>
        obtain ⟨k, hk, rfl, HO, HI⟩ := hrel
        clear HO5 HI0
        obtain ⟨W4, hW4⟩ : ∃ W4 : World, W4 = wr := ⟨_, rfl⟩
        rw [← hW4] at HO ⊢
        clear hW4
        have c0 := (HXs.out W4 HO.out.lo).1.c0
        have c1 := (HXs.out W4 HO.out.lo).1.c1
        by_cases hlt : k < order.length
        case pos =>
          obtain ⟨ob, off, x, hA, -, hxk, hck⟩ := (HXs.out W4 HO.out.lo).2.2.at_ hlt
          have HXK := Lib.hid hxk
          have HE := Lib.hid (HXs.out W4 HO.out.lo).2.1
          subst hA
          clear hxk
          by_cases hx0 : x < 0
          case pos =>
            have d1 : decide (x < 0) = true := decide_eq_true hx0
            have HR2 := Lib.hid (HNo.out fun hP => by have := (hP.rng x (List.mem_of_getElem? HXK.out)).1; omega)
            clear HXK
            go_wp2
            go_ret2
            exact MyPost.mk' HR2.out HE.out
          case neg =>
          have d1 : decide (x < 0) = false := decide_eq_false hx0
          by_cases hxn : x < (s.to_.length : Int)
          case neg =>
            have d2 : decide ((s.to_.length : Int) ≤ x) = true := decide_eq_true (by omega)
            have HR2 := Lib.hid (HNo.out fun hP => by have := (hP.rng x (List.mem_of_getElem? HXK.out)).2.1; have e : s.n = s.to_.length := rfl; omega)
            clear HXK
            go_wp2
            go_ret2
            exact MyPost.mk' HR2.out HE.out
          case pos =>
          have d2 : decide ((s.to_.length : Int) ≤ x) = false := decide_eq_false (by omega)
          obtain ⟨i, rfl⟩ : ∃ i : Nat, x = (i : Int) := ⟨x.toNat, by omega⟩
          have hil : i < s.n := by have e : s.n = s.to_.length := rfl; omega
          have hil' : i < s.to_.length := hil
          have d2' : decide (s.to_.length ≤ i) = false := decide_eq_false (by omega)
          have hpl := HO.out.at_.1 i hil
          have HPv : Hid (plc (order.take k) (i : Int) < 0 ↔ ¬ (i : Int) ∈ order.take k) := by
            unfold Hid plc
            split
            · constructor
              · intro h; omega
              · intro h; exact absurd (by assumption) h
            · exact ⟨fun _ => by assumption, fun _ => by omega⟩
          obtain ⟨pv, hpv⟩ : ∃ pv, pv = plc (order.take k) (i : Int) := ⟨_, rfl⟩
          have HPe := Lib.hid hpv
          rw [← hpv] at hpl HPv
          clear hpv hx0 hxn
          by_cases hp0 : 0 ≤ pv
          case pos =>
            have d3 : decide (0 ≤ pv) = true := decide_eq_true hp0
            have HR2 := Lib.hid (HNo.out fun hP => by
              have h1 := hP.nd k _ HXK.out
              exact absurd (HPv.out.2 h1) (by omega))
            clear HXK HPv HPe hp0
            go_wp2
            go_ret2
            exact MyPost.mk' HR2.out HE.out
          case neg =>
          have d3 : decide (0 ≤ pv) = false := decide_eq_false hp0
          have HPn : Hid (plc (order.take k) (i : Int) < 0) := by show _ < _; rw [← HPe.out]; omega
          have HM := Lib.hid (rmoved_any A F c fc s HS.out hf i hil W4 (HXs.out W4 HO.out.lo).1.at_)
          clear HPv HPe hp0
          cases hm : movedN s i with
          | false =>
            have HR2 := Lib.hid (HNo.out fun hP => by
              have h1 := (hP.rng _ (List.mem_of_getElem? HXK.out)).2.2
              rw [Int.toNat_natCast, hm] at h1; cases h1)
            rw [hm] at HM
            clear HXK hm HPn
            go_wp2_with fail
            refine HM.out.mono ?_
            rintro e w5 ⟨rfl, hb5⟩
            have HE5 := Lib.hid (HE.out.trans (hb5.mono HE.out.size))
            clear hb5
            go_wp2
            go_ret2
            exact MyPost.mk' HR2.out HE5.out
          | true =>
            have HMv := Lib.hid hm
            rw [hm] at HM
            clear hm
            go_upto_region 14 with (go_at_call 27; refine HM.out.mono ?_; rintro e w5 ⟨rfl, hb5⟩)
            refine abs_world (Q := fun W => Code.wp _ _ _ _ W) (F := fun W => OrZ W1 g s.n (fun j => plc (order.take k) (j : Int)) W) _ (HO.out.to hb5) ?_
            clear hb5 HM HO HE hck hpl c0 c1 d1 d2 d2' d3
            intro W5 h5
            have HO6 := Lib.hid h5
            clear h5
            go_wp2
            go_loopw [10] (fun s10 wr => ∃ m : Nat, s10 = .int .i64 (m : Int) ∧ m ≤ k ∧ Hid (OrZ W1 g s.n (fun j => plc (order.take k) (j : Int)) wr) ∧ Hid (∀ m', m' < m → m' + 1 < k → offN s (order.getD m' 0).toNat = offN s i → offN s (order.getD (k - 1) 0).toNat = offN s i)) (fun s10 _ => k - (intOf s10).toNat)
            case atStart => exact ⟨0, rfl, Nat.zero_le _, HO6.out, fun m' h => absurd h (Nat.not_lt_zero m')⟩
            case round =>
              obtain ⟨m, rfl, hmk, HO7, HT⟩ := hrel
              clear HO6
              obtain ⟨W5, hW5⟩ : ∃ W5 : World, W5 = wr := ⟨_, rfl⟩
              rw [← hW5] at HO7 ⊢
              clear hW5
              by_cases hm1 : m + 1 < k
              case neg =>
                have dm : decide (((m : Int) + 1) < (k : Int)) = false := decide_eq_false (by omega)
                have dm' : decide (m + 1 < k) = false := decide_eq_false hm1
                have HN : Hid (MyI s order (k + 1)) := HI.out.next HXK.out hil HMv.out HPn.out (fun m' h1 h2 => HT.out m' (by omega) h1 h2)
                have hat := HO7.out.at_.1 i hil
                have hfz := HO7.out.at_.2 i
                have HO8 : Hid (OrZ W1 g s.n (fun j => plc (order.take (k + 1)) (j : Int)) (W5.setCell ⟨g, i, none⟩ (.int .i64 (k : Int)))) := (HO7.out.put i (k : Int)).eq (fun j _ => plc_put HXK.out HPn.out j)
                clear HO7 HT HXK HPn HMv HI
                go_wp2
                go_roundw
                case rel => exact ⟨k + 1, by omega, by go_num, HO8.out, HN.out⟩
                case measure => simp [intOf]; omega
              case pos =>
                obtain ⟨kj, hkj⟩ : ∃ kj, kj = k - 1 := ⟨_, rfl⟩
                have HKJ : Hid (k = kj + 1) := by show _ = _; omega
                have dm : decide (((m : Int) + 1) < (k : Int)) = true := decide_eq_true (by omega)
                have dm' : decide (m + 1 < k) = true := decide_eq_true hm1
                have hgm := some_getD (l := order) (k := m) (by omega)
                have hgk := some_getD (l := order) (k := kj) (by omega)
                obtain ⟨q1, q2, -⟩ := HI.out.rng m _ (by omega) hgm
                obtain ⟨q3, q4, -⟩ := HI.out.rng kj _ (by omega) hgk
                obtain ⟨im, him⟩ : ∃ im : Nat, order.getD m 0 = (im : Int) := ⟨(order.getD m 0).toNat, by omega⟩
                obtain ⟨ik, hik⟩ : ∃ ik : Nat, order.getD kj 0 = (ik : Int) := ⟨(order.getD kj 0).toNat, by omega⟩
                have iml : im < s.n := by omega
                have ikl : ik < s.n := by omega
                have HXn : Hid (∀ W, Below W5.heap.size W5 W → OrZ W1 g s.n (fun j => plc (order.take k) (j : Int)) W) := fun W hb => HO7.out.to hb
                have hXs : ∀ W, Below W5.heap.size W5 W → W.cell? ⟨pb, 0, none⟩ = some (.slice A s.to_.length c) ∧ W.cell? ⟨pb, 1, none⟩ = some (.slice F s.first.length fc) ∧ (W.cell? ⟨ob, off + m, none⟩ = some (.int .i64 (im : Int)) ∧ W.cell? ⟨ob, off + kj, none⟩ = some (.int .i64 (ik : Int))) := fun W hb => by
                  obtain ⟨y1, -, y3⟩ := HXs.out W (HXn.out W hb).lo
                  obtain ⟨b', o', e', -, hc'⟩ := y3 (fun e => by rw [e] at hlt; simp at hlt)
                  simp only [Option.some.injEq, Addr.mk.injEq, and_true] at e'
                  obtain ⟨rfl, rfl⟩ := e'
                  exact ⟨y1.c0, y1.c1, hc' m _ (by rw [hgm, him]), hc' kj _ (by rw [hgk, hik])⟩
                have HSt : Hid ((∀ m', m' < m → m' + 1 < k → offN s (order.getD m' 0).toNat = offN s i → offN s (order.getD kj 0).toNat = offN s i) → (offN s im = offN s i → offN s ik = offN s i) → ∀ m', m' < m + 1 → m' + 1 < k → offN s (order.getD m' 0).toNat = offN s i → offN s (order.getD kj 0).toNat = offN s i) := fun h1 h2 m' h3 h4 h5 => by
                  by_cases e : m' = m
                  · subst e
                    rw [him, Int.toNat_natCast] at h5
                    rw [hik, Int.toNat_natCast]
                    exact h2 h5
                  · exact h1 m' (by omega) h4 h5
                have HBad : Hid (offN s im = offN s i → offN s ik ≠ offN s i → r = (false, 0)) := fun h1 h2 => HNo.out fun hP => h2 (by
                  have := hP.stay m k hm1 hlt (by rw [him, getD_some HXK.out, Int.toNat_natCast, Int.toNat_natCast]; exact h1)
                  rwa [show k - 1 = kj by have := HKJ.out; omega, hik, getD_some HXK.out, Int.toNat_natCast, Int.toNat_natCast] at this)
                have HOm : Hid (∀ W, Below W5.heap.size W5 W → Calls Try.prog 42 #[sftV A F c fc s, .int .i64 (im : Int)] W fun e w' => e = .returned (.int .i64 (offN s im)) ∧ Below W.heap.size W w') := fun W hb => roff_later c fc HS.out (HXs.out W5 HO7.out.lo).1.at_ im W iml hb
                have HOi : Hid (∀ W, Below W5.heap.size W5 W → Calls Try.prog 42 #[sftV A F c fc s, .int .i64 (i : Int)] W fun e w' => e = .returned (.int .i64 (offN s i)) ∧ Below W.heap.size W w') := fun W hb => roff_later c fc HS.out (HXs.out W5 HO7.out.lo).1.at_ i W hil hb
                have HOk : Hid (∀ W, Below W5.heap.size W5 W → Calls Try.prog 42 #[sftV A F c fc s, .int .i64 (ik : Int)] W fun e w' => e = .returned (.int .i64 (offN s ik)) ∧ Below W.heap.size W w') := fun W hb => roff_later c fc HS.out (HXs.out W5 HO7.out.lo).1.at_ ik W ikl hb
                obtain ⟨om, hom⟩ : ∃ om, om = offN s im := ⟨_, rfl⟩
                obtain ⟨oi, hoi⟩ : ∃ oi, oi = offN s i := ⟨_, rfl⟩
                obtain ⟨ok, hok⟩ : ∃ ok, ok = offN s ik := ⟨_, rfl⟩
                rw [← hom, ← hoi, ← hok] at HSt
                rw [← hom, ← hoi, ← hok] at HBad
                have HOI := Lib.hid hoi
                rw [← hoi] at HT
                simp only [← hom] at HOm
                simp only [← hoi] at HOi
                simp only [← hok] at HOk
                have HXS := Lib.hid hXs
                obtain ⟨c0, c1, cm, ck⟩ := hXs W5 (Below.refl _ _)
                have hw1 : IntKind.i64.wrap ((k : Int) - 1) = (kj : Int) := by rw [show (k : Int) - 1 = (kj : Int) by omega]; exact IntWalk.i64_in _ (by omega)
                have ho0 : (0 : Int) ≤ (kj : Int) := by omega
                have ho1 : (kj : Int) < (order.length : Int) := by omega
                have ho2 : kj < order.length := by omega
                have ho3 : m < order.length := by omega
                have ho4 : (m : Int) < (order.length : Int) := by omega
                rw [← hkj] at HT
                clear hXs hom hoi hok hgm hgk q1 q2 q3 q4 him hik hkj
                go_upto_region 17 with fail
                by_cases e1 : om = oi
                case neg =>
                  have b1 : (om == oi) = false := beq_eq_false_iff_ne.2 e1
                  have HN := Lib.hid (HSt.out HT.out (fun h => absurd h e1))
                  clear HT HSt HBad e1
                  have HSb : Hid (∀ W', Below W5.heap.size W5 W' → W'.cell? ⟨pb, 0, none⟩ = some (.slice A s.to_.length c) ∧ W'.cell? ⟨pb, 1, none⟩ = some (.slice F s.first.length fc) ∧ (W'.cell? ⟨ob, off + m, none⟩ = some (.int .i64 (im : Int)) ∧ W'.cell? ⟨ob, off + kj, none⟩ = some (.int .i64 (ik : Int))) ∧ Below W5.heap.size W5 W') := fun W' hb => ⟨(HXS.out W' hb).1, (HXS.out W' hb).2.1, (HXS.out W' hb).2.2, hb⟩
                  have HOm2 := Lib.hid (fun W (h : W.cell? ⟨pb, 0, none⟩ = some (.slice A s.to_.length c) ∧ W.cell? ⟨pb, 1, none⟩ = some (.slice F s.first.length fc) ∧ (W.cell? ⟨ob, off + m, none⟩ = some (.int .i64 (im : Int)) ∧ W.cell? ⟨ob, off + kj, none⟩ = some (.int .i64 (ik : Int))) ∧ Below W5.heap.size W5 W) => HOm.out W h.2.2.2)
                  have HOi2 := Lib.hid (fun W (h : W.cell? ⟨pb, 0, none⟩ = some (.slice A s.to_.length c) ∧ W.cell? ⟨pb, 1, none⟩ = some (.slice F s.first.length fc) ∧ (W.cell? ⟨ob, off + m, none⟩ = some (.int .i64 (im : Int)) ∧ W.cell? ⟨ob, off + kj, none⟩ = some (.int .i64 (ik : Int))) ∧ Below W5.heap.size W5 W) => HOi.out W h.2.2.2)
                  clear c0 c1 cm ck
                  refine wp_region_held_drew (S := fun W' => W'.cell? ⟨pb, 0, none⟩ = some (.slice A s.to_.length c) ∧ W'.cell? ⟨pb, 1, none⟩ = some (.slice F s.first.length fc) ∧ (W'.cell? ⟨ob, off + m, none⟩ = some (.int .i64 (im : Int)) ∧ W'.cell? ⟨ob, off + kj, none⟩ = some (.int .i64 (ik : Int))) ∧ Below W5.heap.size W5 W') (by kernel_rfl) (HSb.out _ (Below.drew (Below.refl _ _))) (fun hHeld => ?_)
                  refine wpAnyH_take (i := 0) (v := ?_) rfl (by kernel_rfl) (by kernel_rfl) (by kernel_rfl) (fun _ _ _ h => h) (Or.inl ⟨by rfl, ?_⟩) (by assumption) ?_
                  rotate_left
                  · (intro w hSw; (try dsimp only at hSw); go_simp; try with_reducible rfl)
                  simp only [Act.put, List.getElem_toArray, List.getElem_cons_zero, List.setIfInBounds_toArray, List.set_cons_zero, List.set_cons_succ]
                  refine wpAnyH_take (i := 1) (v := ?_) rfl (by kernel_rfl) (by kernel_rfl) (by kernel_rfl) (fun _ _ _ h => h) (Or.inl ⟨by rfl, ?_⟩) (by assumption) ?_
                  rotate_left
                  · (intro w hSw; (try dsimp only at hSw); go_simp; try with_reducible rfl)
                  simp only [Act.put, List.getElem_toArray, List.getElem_cons_zero, List.getElem_cons_succ, List.setIfInBounds_toArray, List.set_cons_zero, List.set_cons_succ]
                  refine wpAnyH_take (i := 2) (v := ?_) rfl (by kernel_rfl) (by kernel_rfl) (by kernel_rfl) (fun _ _ _ h => h) (Or.inl ⟨by rfl, ?_⟩) (by assumption) ?_
                  rotate_left
                  · (intro w hSw; (try dsimp only at hSw); go_simp; try with_reducible rfl)
                  simp only [Act.put, List.getElem_toArray, List.getElem_cons_zero, List.getElem_cons_succ, List.setIfInBounds_toArray, List.set_cons_zero, List.set_cons_succ]
                  refine wpAnyH_take (i := 3) (v := ?_) rfl (by kernel_rfl) (by kernel_rfl) (by kernel_rfl) (fun _ _ _ h => h) (Or.inl ⟨by rfl, ?_⟩) (by assumption) ?_
                  rotate_left
                  · (intro w hSw; (try dsimp only at hSw); go_simp; try with_reducible rfl)
                  simp only [Act.put, List.getElem_toArray, List.getElem_cons_zero, List.getElem_cons_succ, List.setIfInBounds_toArray, List.set_cons_zero, List.set_cons_succ]
                  refine wpAnyH_take (i := 4) (v := ?_) rfl (by kernel_rfl) (by kernel_rfl) (by kernel_rfl) (fun _ _ _ h => h) (Or.inl ⟨by rfl, ?_⟩) (by assumption) ?_
                  rotate_left
                  · (intro w hSw; (try dsimp only at hSw); go_simp; try with_reducible rfl)
                  simp only [Act.put, List.getElem_toArray, List.getElem_cons_zero, List.getElem_cons_succ, List.setIfInBounds_toArray, List.set_cons_zero, List.set_cons_succ]
                  refine wpAnyH_take (i := 6) (v := ?_) rfl (by kernel_rfl) (by kernel_rfl) (by kernel_rfl) (fun _ _ _ h => h) (Or.inl ⟨by rfl, ?_⟩) (by assumption) ?_
                  rotate_left
                  · (intro w hSw; (try dsimp only at hSw); go_simp; try with_reducible rfl)
                  simp only [Act.put, List.getElem_toArray, List.getElem_cons_zero, List.getElem_cons_succ, List.setIfInBounds_toArray, List.set_cons_zero, List.set_cons_succ]
                  refine wpAnyH_take (i := 7) (v := ?_) rfl (by kernel_rfl) (by kernel_rfl) (by kernel_rfl) (fun _ _ _ h => h) (Or.inl ⟨by rfl, ?_⟩) (by assumption) ?_
                  rotate_left
                  · (intro w hSw; (try dsimp only at hSw); go_simp; try with_reducible rfl)
                  simp only [Act.put, List.getElem_toArray, List.getElem_cons_zero, List.getElem_cons_succ, List.setIfInBounds_toArray, List.set_cons_zero, List.set_cons_succ]
                  refine wpAnyH_ready (rs := [5]) (by kernel_rfl) (by simp) ?_
                  refine AllReadyH.cons rfl (fun K hK => ?_) AllReadyH.nil
                  go_simp
                  go_at_call 42
                  have hp := hHeld
                  refine (HOm2.out _ hp).mono ?_
                  rintro e wd ⟨rfl, hbd⟩
                  have hbw := hp.2.2.2.trans (hbd.mono hp.2.2.2.size)
                  clear hp hbd hHeld
                  go_wp2_with fail
                  refine hK.out _ _ (HSb.out _ hbw) (fun hHeld => ?_)
                  clear hK K hbw
                  refine wpAnyH_ready (rs := [8]) (by kernel_rfl) (by simp) ?_
                  refine AllReadyH.cons rfl (fun K hK => ?_) AllReadyH.nil
                  go_simp
                  go_at_call 42
                  have hp := hHeld
                  refine (HOi2.out _ hp).mono ?_
                  rintro e wd ⟨rfl, hbd⟩
                  have hbw := hp.2.2.2.trans (hbd.mono hp.2.2.2.size)
                  clear hp hbd hHeld
                  go_wp2_with fail
                  refine hK.out _ _ (HSb.out _ hbw) (fun hHeld => ?_)
                  clear hK K hbw
                  refine wpAnyH_take (i := 9) (v := ?_) rfl (by kernel_rfl) (by kernel_rfl) (by kernel_rfl) (fun _ _ _ h => h) (Or.inl ⟨by rfl, ?_⟩) (by assumption) ?_
                  rotate_left
                  · (intro w hSw; (try dsimp only at hSw); go_simp; try with_reducible rfl)
                  simp only [Act.put, List.getElem_toArray, List.getElem_cons_zero, List.getElem_cons_succ, List.setIfInBounds_toArray, List.set_cons_zero, List.set_cons_succ]
                  refine wpAnyH_take (i := 10) (v := ?_) rfl (by kernel_rfl) (by kernel_rfl) (by kernel_rfl) (fun _ _ _ h => h) (Or.inl ⟨by rfl, ?_⟩) (by assumption) ?_
                  rotate_left
                  · (intro w hSw; (try dsimp only at hSw); go_simp; try with_reducible rfl)
                  simp only [Act.put, List.getElem_toArray, List.getElem_cons_zero, List.getElem_cons_succ, List.setIfInBounds_toArray, List.set_cons_zero, List.set_cons_succ]
                  refine wpAnyH_take (i := 11) (v := undef) rfl (by kernel_rfl) (by kernel_rfl) (by kernel_rfl) (fun _ _ _ h => h) (Or.inr ⟨by kernel_rfl, rfl⟩) (by assumption) ?_
                  simp only [Act.put, List.getElem_toArray, List.getElem_cons_zero, List.getElem_cons_succ, List.setIfInBounds_toArray, List.set_cons_zero, List.set_cons_succ]
                  refine wpAnyH_take (i := 12) (v := undef) rfl (by kernel_rfl) (by kernel_rfl) (by kernel_rfl) (fun _ _ _ h => h) (Or.inr ⟨by kernel_rfl, rfl⟩) (by assumption) ?_
                  simp only [Act.put, List.getElem_toArray, List.getElem_cons_zero, List.getElem_cons_succ, List.setIfInBounds_toArray, List.set_cons_zero, List.set_cons_succ]
                  refine wpAnyH_take (i := 13) (v := undef) rfl (by kernel_rfl) (by kernel_rfl) (by kernel_rfl) (fun _ _ _ h => h) (Or.inr ⟨by kernel_rfl, rfl⟩) (by assumption) ?_
                  simp only [Act.put, List.getElem_toArray, List.getElem_cons_zero, List.getElem_cons_succ, List.setIfInBounds_toArray, List.set_cons_zero, List.set_cons_succ]
                  refine wpAnyH_take (i := 14) (v := undef) rfl (by kernel_rfl) (by kernel_rfl) (by kernel_rfl) (fun _ _ _ h => h) (Or.inr ⟨by kernel_rfl, rfl⟩) (by assumption) ?_
                  simp only [Act.put, List.getElem_toArray, List.getElem_cons_zero, List.getElem_cons_succ, List.setIfInBounds_toArray, List.set_cons_zero, List.set_cons_succ]
                  refine wpAnyH_take (i := 15) (v := undef) rfl (by kernel_rfl) (by kernel_rfl) (by kernel_rfl) (fun _ _ _ h => h) (Or.inr ⟨by kernel_rfl, rfl⟩) (by assumption) ?_
                  simp only [Act.put, List.getElem_toArray, List.getElem_cons_zero, List.getElem_cons_succ, List.setIfInBounds_toArray, List.set_cons_zero, List.set_cons_succ]
                  refine wpAnyH_take (i := 16) (v := undef) rfl (by kernel_rfl) (by kernel_rfl) (by kernel_rfl) (fun _ _ _ h => h) (Or.inr ⟨by kernel_rfl, rfl⟩) (by assumption) ?_
                  simp only [Act.put, List.getElem_toArray, List.getElem_cons_zero, List.getElem_cons_succ, List.setIfInBounds_toArray, List.set_cons_zero, List.set_cons_succ]
                  refine wpAnyH_take (i := 17) (v := undef) rfl (by kernel_rfl) (by kernel_rfl) (by kernel_rfl) (fun _ _ _ h => h) (Or.inr ⟨by kernel_rfl, rfl⟩) (by assumption) ?_
                  simp only [Act.put, List.getElem_toArray, List.getElem_cons_zero, List.getElem_cons_succ, List.setIfInBounds_toArray, List.set_cons_zero, List.set_cons_succ]
                  refine wpAnyH_take (i := 18) (v := undef) rfl (by kernel_rfl) (by kernel_rfl) (by kernel_rfl) (fun _ _ _ h => h) (Or.inr ⟨by kernel_rfl, rfl⟩) (by assumption) ?_
                  simp only [Act.put, List.getElem_toArray, List.getElem_cons_zero, List.getElem_cons_succ, List.setIfInBounds_toArray, List.set_cons_zero, List.set_cons_succ]
                  refine wpAnyH_take (i := 19) (v := undef) rfl (by kernel_rfl) (by kernel_rfl) (by kernel_rfl) (fun _ _ _ h => h) (Or.inr ⟨by kernel_rfl, rfl⟩) (by assumption) ?_
                  simp only [Act.put, List.getElem_toArray, List.getElem_cons_zero, List.getElem_cons_succ, List.setIfInBounds_toArray, List.set_cons_zero, List.set_cons_succ]
                  refine wpAnyH_take (i := 20) (v := undef) rfl (by kernel_rfl) (by kernel_rfl) (by kernel_rfl) (fun _ _ _ h => h) (Or.inr ⟨by kernel_rfl, rfl⟩) (by assumption) ?_
                  simp only [Act.put, List.getElem_toArray, List.getElem_cons_zero, List.getElem_cons_succ, List.setIfInBounds_toArray, List.set_cons_zero, List.set_cons_succ]
                  refine wpAnyH_take (i := 21) (v := undef) rfl (by kernel_rfl) (by kernel_rfl) (by kernel_rfl) (fun _ _ _ h => h) (Or.inr ⟨by kernel_rfl, rfl⟩) (by assumption) ?_
                  simp only [Act.put, List.getElem_toArray, List.getElem_cons_zero, List.getElem_cons_succ, List.setIfInBounds_toArray, List.set_cons_zero, List.set_cons_succ]
                  refine wpAnyH_take (i := 22) (v := ?_) rfl (by kernel_rfl) (by kernel_rfl) (by kernel_rfl) (fun _ _ _ h => h) (Or.inl ⟨by rfl, ?_⟩) (by assumption) ?_
                  rotate_left
                  · (intro w hSw; (try dsimp only at hSw); go_simp; try with_reducible rfl)
                  simp only [Act.put, List.getElem_toArray, List.getElem_cons_zero, List.getElem_cons_succ, List.setIfInBounds_toArray, List.set_cons_zero, List.set_cons_succ]
                  refine wpAnyH_done (by kernel_rfl) ?_ _
                  have HB9 := Lib.hid hHeld.2.2.2
                  clear hHeld
                  go_wp2
                  go_roundw
                  case rel => exact ⟨m + 1, by go_num, by omega, HXn.out _ HB9.out, by have h := HN.out; rw [HOI.out] at h; rw [show k - 1 = kj by have := HKJ.out; omega]; exact h⟩
                  case measure => simp [intOf]; omega
                case pos =>
                  have b1 : (om == oi) = true := beq_iff_eq.2 e1
                  have HK : Hid (∀ W W', (W.cell? ⟨pb, 0, none⟩ = some (.slice A s.to_.length c) ∧ W.cell? ⟨pb, 1, none⟩ = some (.slice F s.first.length fc) ∧ (W.cell? ⟨ob, off + m, none⟩ = some (.int .i64 (im : Int)) ∧ W.cell? ⟨ob, off + kj, none⟩ = some (.int .i64 (ik : Int))) ∧ Below W5.heap.size W5 W) → Below W.heap.size W W' → (W'.cell? ⟨pb, 0, none⟩ = some (.slice A s.to_.length c) ∧ W'.cell? ⟨pb, 1, none⟩ = some (.slice F s.first.length fc) ∧ (W'.cell? ⟨ob, off + m, none⟩ = some (.int .i64 (im : Int)) ∧ W'.cell? ⟨ob, off + kj, none⟩ = some (.int .i64 (ik : Int))) ∧ Below W5.heap.size W5 W')) := fun W W' h1 h2 => ⟨(HXS.out W' (h1.2.2.2.trans (h2.mono h1.2.2.2.size))).1, (HXS.out W' (h1.2.2.2.trans (h2.mono h1.2.2.2.size))).2.1, (HXS.out W' (h1.2.2.2.trans (h2.mono h1.2.2.2.size))).2.2, h1.2.2.2.trans (h2.mono h1.2.2.2.size)⟩
                  have HOm2 := Lib.hid (fun W (h : W.cell? ⟨pb, 0, none⟩ = some (.slice A s.to_.length c) ∧ W.cell? ⟨pb, 1, none⟩ = some (.slice F s.first.length fc) ∧ (W.cell? ⟨ob, off + m, none⟩ = some (.int .i64 (im : Int)) ∧ W.cell? ⟨ob, off + kj, none⟩ = some (.int .i64 (ik : Int))) ∧ Below W5.heap.size W5 W) => HOm.out W h.2.2.2)
                  have HOi2 := Lib.hid (fun W (h : W.cell? ⟨pb, 0, none⟩ = some (.slice A s.to_.length c) ∧ W.cell? ⟨pb, 1, none⟩ = some (.slice F s.first.length fc) ∧ (W.cell? ⟨ob, off + m, none⟩ = some (.int .i64 (im : Int)) ∧ W.cell? ⟨ob, off + kj, none⟩ = some (.int .i64 (ik : Int))) ∧ Below W5.heap.size W5 W) => HOi.out W h.2.2.2)
                  have HOk2 := Lib.hid (fun W (h : W.cell? ⟨pb, 0, none⟩ = some (.slice A s.to_.length c) ∧ W.cell? ⟨pb, 1, none⟩ = some (.slice F s.first.length fc) ∧ (W.cell? ⟨ob, off + m, none⟩ = some (.int .i64 (im : Int)) ∧ W.cell? ⟨ob, off + kj, none⟩ = some (.int .i64 (ik : Int))) ∧ Below W5.heap.size W5 W) => HOk.out W h.2.2.2)
                  have HS0 : Hid (W5.cell? ⟨pb, 0, none⟩ = some (.slice A s.to_.length c) ∧ W5.cell? ⟨pb, 1, none⟩ = some (.slice F s.first.length fc) ∧ (W5.cell? ⟨ob, off + m, none⟩ = some (.int .i64 (im : Int)) ∧ W5.cell? ⟨ob, off + kj, none⟩ = some (.int .i64 (ik : Int))) ∧ Below W5.heap.size W5 W5) := ⟨c0, c1, ⟨cm, ck⟩, Below.refl _ _⟩
                  by_cases e2 : ok = oi
                  case pos =>
                    have b2 : (ok != oi) = false := by simpa using e2
                    have HN := Lib.hid (HSt.out HT.out (fun _ => e2))
                    clear HT HSt HBad e1 e2
                    go_region_held3 (fun W' => W'.cell? ⟨pb, 0, none⟩ = some (.slice A s.to_.length c) ∧ W'.cell? ⟨pb, 1, none⟩ = some (.slice F s.first.length fc) ∧ (W'.cell? ⟨ob, off + m, none⟩ = some (.int .i64 (im : Int)) ∧ W'.cell? ⟨ob, off + kj, none⟩ = some (.int .i64 (ik : Int))) ∧ Below W5.heap.size W5 W')
                      (first | exact HK.out _ _ HS0.out (Below.drew (Below.refl _ _)) | exact HK.out _ _ (by assumption) (by assumption) | fail)
                      (first
                        | (go_at_call_of 42 im; refine (HOm2.out _ (by assumption)).mono ?_; rintro e w' ⟨rfl, hb1⟩)
                        | (go_at_call_of 42 ik; refine (HOk2.out _ (by assumption)).mono ?_; rintro e w' ⟨rfl, hb1⟩)
                        | (go_at_call_of 42 i; refine (HOi2.out _ (by assumption)).mono ?_; rintro e w' ⟨rfl, hb1⟩))
                    rename_i hS1
                    have HB9 := Lib.hid hS1.2.2.2
                    clear hS1 HS0 HK c0 c1 cm ck
                    go_wp2
                    go_roundw
                    case rel => exact ⟨m + 1, by go_num, by omega, HXn.out _ HB9.out, by have h := HN.out; rw [HOI.out] at h; rw [show k - 1 = kj by have := HKJ.out; omega]; exact h⟩
                    case measure => simp [intOf]; omega
                  case neg =>
                    have b2 : (ok != oi) = true := by simpa using e2
                    have HR2 := Lib.hid (HBad.out e1 e2)
                    clear HT HSt HBad e1 e2
                    go_region_held3 (fun W' => W'.cell? ⟨pb, 0, none⟩ = some (.slice A s.to_.length c) ∧ W'.cell? ⟨pb, 1, none⟩ = some (.slice F s.first.length fc) ∧ (W'.cell? ⟨ob, off + m, none⟩ = some (.int .i64 (im : Int)) ∧ W'.cell? ⟨ob, off + kj, none⟩ = some (.int .i64 (ik : Int))) ∧ Below W5.heap.size W5 W')
                      (first | exact HK.out _ _ HS0.out (Below.drew (Below.refl _ _)) | exact HK.out _ _ (by assumption) (by assumption) | fail)
                      (first
                        | (go_at_call_of 42 im; refine (HOm2.out _ (by assumption)).mono ?_; rintro e w' ⟨rfl, hb1⟩)
                        | (go_at_call_of 42 ik; refine (HOk2.out _ (by assumption)).mono ?_; rintro e w' ⟨rfl, hb1⟩)
                        | (go_at_call_of 42 i; refine (HOi2.out _ (by assumption)).mono ?_; rintro e w' ⟨rfl, hb1⟩))
                    rename_i hS1
                    have HB9 := Lib.hid hS1.2.2.2
                    clear hS1 HS0 HK c0 c1 cm ck
                    go_wp2
                    go_ret2
                    exact MyPost.mk' HR2.out (HXs.out _ (HXn.out _ HB9.out).lo).2.1
        case neg =>
          obtain rfl : k = order.length := by omega
          have HO9 : Hid (OrZ W1 g s.n (fun j => plc order (j : Int)) W4) := by have h := HO.out; rw [List.take_length] at h; exact h
          clear HO hk hlt c0 c1
          go_wp2
          go_loopw [11] (fun s11 wr => ∃ i : Nat, i ≤ s.to_.length ∧ s11 = .int .i64 (i : Int) ∧ Hid (OrZ W1 g s.n (fun j => plc order (j : Int)) wr) ∧ Hid (∀ j, j < i → movedN s j = true → 0 ≤ plc order (j : Int))) (fun s11 _ => s.to_.length - (intOf s11).toNat)
          case atStart => exact ⟨0, Nat.zero_le _, rfl, HO9.out, fun j h => absurd h (Nat.not_lt_zero j)⟩
          case round =>
            obtain ⟨i, hi, rfl, HO, HA⟩ := hrel
            clear HO9
            obtain ⟨W5, hW5⟩ : ∃ W5 : World, W5 = wr := ⟨_, rfl⟩
            rw [← hW5] at HO ⊢
            clear hW5
            have c0 := (HXs.out W5 HO.out.lo).1.c0
            have c1 := (HXs.out W5 HO.out.lo).1.c1
            have HE := Lib.hid (HXs.out W5 HO.out.lo).2.1
            by_cases hil : i < s.to_.length
            case pos =>
              have hiln : i < s.n := hil
              have HM := Lib.hid (rmoved_any A F c fc s HS.out hf i hiln W5 (HXs.out W5 HO.out.lo).1.at_)
              have HCl : Hid (∀ W, Below W5.heap.size W5 W → W.cell? ⟨g, i, none⟩ = some (.int .i64 (plc order (i : Int)))) := fun W hb => (HO.out.to hb).at_.1 i hiln
              have HNx : Hid ((movedN s i = true → 0 ≤ plc order (i : Int)) → ∀ j, j < i + 1 → movedN s j = true → 0 ≤ plc order (j : Int)) := fun h j hj hm => by
                by_cases e : j = i
                · subst e; exact h hm
                · exact HA.out j (by omega) hm
              obtain ⟨pv, hpv⟩ : ∃ pv, pv = plc order (i : Int) := ⟨_, rfl⟩
              have HPe := Lib.hid hpv
              rw [← hpv] at HNx
              simp only [← hpv] at HCl
              clear hpv HA
              cases hm : movedN s i with
              | false =>
                have HN := Lib.hid (HNx.out (fun h => by rw [hm] at h; cases h))
                rw [hm] at HM
                clear hm HNx
                go_wp2_with fail
                refine HM.out.mono ?_
                rintro e w6 ⟨rfl, hb6⟩
                have HO6 := Lib.hid (HO.out.to hb6)
                clear hb6
                go_wp2
                go_roundw
                case rel => exact ⟨i + 1, by omega, by go_num, HO6.out, HN.out⟩
                case measure => simp [intOf]; omega
              | true =>
                have HMv := Lib.hid hm
                rw [hm] at HM
                clear hm
                go_wp2_with fail
                refine HM.out.mono ?_
                rintro e w6 ⟨rfl, hb6⟩
                have hcl := HCl.out w6 hb6
                have HO6 := Lib.hid (HO.out.to hb6)
                have HE6 := Lib.hid (HE.out.trans (hb6.mono HE.out.size))
                clear hb6 HO HE c0 c1
                by_cases h0 : pv < 0
                case pos =>
                  have d0 : decide (pv < 0) = true := decide_eq_true h0
                  have HR2 := Lib.hid (HNo.out fun hP => by
                    have h1 := hP.all i hiln HMv.out
                    have h2 := HPe.out
                    unfold plc at h2
                    rw [if_pos h1] at h2
                    omega)
                  clear HNx h0
                  go_wp2
                  go_ret2
                  exact MyPost.mk' HR2.out HE6.out
                case neg =>
                  have d0 : decide (pv < 0) = false := decide_eq_false h0
                  have HN := Lib.hid (HNx.out (fun _ => by omega))
                  clear HNx h0
                  go_wp2
                  go_roundw
                  case rel => exact ⟨i + 1, by omega, by go_num, HO6.out, HN.out⟩
                  case measure => simp [intOf]; omega
            case neg =>
              obtain rfl : i = s.to_.length := by omega
              have HAll : Hid (∀ j, j < s.n → movedN s j = true → 0 ≤ plc order (j : Int)) := HA.out
              clear HA hi hil HE
              go_wp2
              go_loopw [12] (fun s12 wr => ∃ k : Nat, k ≤ s.first.length ∧ s12 = .int .i64 (k : Int) ∧ Hid (OrZ W1 g s.n (fun j => plc order (j : Int)) wr) ∧ Hid (∀ j (p : Int × Int), j < k → s.first[j]? = some p → plc order p.1 ≤ plc order p.2)) (fun s12 _ => s.first.length - (intOf s12).toNat)
              case atStart => exact ⟨0, Nat.zero_le _, rfl, HO.out, fun j p h => absurd h (Nat.not_lt_zero j)⟩
              case round =>
                obtain ⟨k, hk, rfl, HO2, HA⟩ := hrel
                clear HO c0 c1
                obtain ⟨W6, hW6⟩ : ∃ W6 : World, W6 = wr := ⟨_, rfl⟩
                rw [← hW6] at HO2 ⊢
                clear hW6
                have c0 := (HXs.out W6 HO2.out.lo).1.c0
                have c1 := (HXs.out W6 HO2.out.lo).1.c1
                have HE := Lib.hid (HXs.out W6 HO2.out.lo).2.1
                by_cases hkl : k < s.first.length
                case pos =>
                  obtain ⟨fb, fo, p, hF, -, hp, p0, p1⟩ := (HXs.out W6 HO2.out.lo).1.at_.fr.at_ hkl
                  have HPm := Lib.hid (List.mem_of_getElem? hp)
                  have HPk := Lib.hid hp
                  obtain ⟨f1, f2, f3, f4, -⟩ := HS.out.first p HPm.out
                  obtain ⟨a, b⟩ := p
                  simp only at f1 f2 f3 f4 p0 p1
                  obtain ⟨an, rfl⟩ : ∃ an : Nat, a = (an : Int) := ⟨a.toNat, by omega⟩
                  obtain ⟨bn, rfl⟩ : ∃ bn : Nat, b = (bn : Int) := ⟨b.toNat, by omega⟩
                  have hal : an < s.n := by omega
                  have hbl : bn < s.n := by omega
                  have hal' : an < s.to_.length := hal
                  have hbl' : bn < s.to_.length := hbl
                  have hca := HO2.out.at_.1 an hal
                  have hcb := HO2.out.at_.1 bn hbl
                  have HNx : Hid (plc order (an : Int) ≤ plc order (bn : Int) → ∀ j (p : Int × Int), j < k + 1 → s.first[j]? = some p → plc order p.1 ≤ plc order p.2) := fun h j p hj hpp => by
                    by_cases e : j = k
                    · rw [e, HPk.out] at hpp
                      cases hpp
                      exact h
                    · exact HA.out j p (by omega) hpp
                  have HBad : Hid (¬ plc order (an : Int) ≤ plc order (bn : Int) → r = (false, 0)) := fun h => HNo.out fun hP => h (hP.fst _ HPm.out)
                  obtain ⟨pa, hpa⟩ : ∃ pa, pa = plc order (an : Int) := ⟨_, rfl⟩
                  obtain ⟨pv, hpv⟩ : ∃ pv, pv = plc order (bn : Int) := ⟨_, rfl⟩
                  rw [← hpa] at hca
                  rw [← hpv] at hcb
                  rw [← hpa, ← hpv] at HNx
                  rw [← hpa, ← hpv] at HBad
                  have HXn : Hid (∀ n, OrZ W1 g s.n (fun j => plc order (j : Int)) (W6.drewN n)) := fun n => HO2.out.to (below_drewT (Below.refl _ _) n)
                  subst hF
                  clear hp hpa hpv HA f1 f2 f3 f4
                  by_cases hle : pa ≤ pv
                  case pos =>
                    have d0 : decide (pv < pa) = false := decide_eq_false (by omega)
                    have HN := Lib.hid (HNx.out hle)
                    clear HNx HBad hle
                    go_wp2
                    go_quiet (fail)
                    go_wp2
                    go_quiet (fail)
                    go_wp2
                    go_roundw
                    case rel => exact ⟨k + 1, by omega, by go_num, by first | exact HXn.out _ | (rw [World.drewN_drewN]; exact HXn.out _), HN.out⟩
                    case measure => simp [intOf]; omega
                  case neg =>
                    have d0 : decide (pv < pa) = true := decide_eq_true (by omega)
                    have HR2 := Lib.hid (HBad.out hle)
                    clear HNx HBad hle
                    go_wp2
                    go_quiet (fail)
                    go_wp2
                    go_quiet (fail)
                    go_wp2
                    go_ret2
                    exact MyPost.mk' HR2.out (by first | exact (HXs.out _ (HXn.out _).lo).2.1 | (rw [World.drewN_drewN]; exact (HXs.out _ (HXn.out _).lo).2.1))
                case neg =>
                  have HR2 := Lib.hid (HYes.out (MayP.of HI.out HAll.out (fun p hp => by
                    obtain ⟨j, hj⟩ := List.mem_iff_getElem?.1 hp
                    exact HA.out j p (by have := (List.getElem?_eq_some_iff.1 hj).1; omega) hj)))
                  clear HA HAll
                  go_wp2
                  go_ret2
                  exact MyPost.mk' HR2.out HE.out
end Go.Proofs.Ytflpikickbellaa
