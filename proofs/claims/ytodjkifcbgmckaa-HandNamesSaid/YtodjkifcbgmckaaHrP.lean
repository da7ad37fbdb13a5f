/- Layer 29: a replay's memory, round by round; what it ends in. -/
import Derived.Test.YtodjkifcbgmckaaHrM
namespace Go.Proofs.Ytodjkifcbgmckaa
open Go.RowKit Go.Shelf
set_option maxRecDepth 100000

theorem vs_at {vs : List (Value × List Int)} {Q : List (List Int)} (h : vs.map Prod.snd = Q) {i : Nat} {q : List Int} (hq : Q[i]? = some q) : ∃ v, vs[i]? = some (v, q) := by
  rw [← h, List.getElem?_map] at hq
  cases e : vs[i]? with
  | none => rw [e] at hq; cases hq
  | some p =>
    rw [e] at hq
    obtain ⟨v, q'⟩ := p
    cases hq
    exact ⟨v, rfl⟩
theorem vs_set (vs : List (Value × List Int)) (i : Nat) (v : Value) (q : List Int) : (vs.set i (v, q)).map Prod.snd = (vs.map Prod.snd).set i q := by rw [List.map_set]
/-- The loops that are still on the left needle have no depth yet. -/
def DpOk (s : RpS) : Prop := ∀ x, s.left ≤ x → s.deep.getD x 0 = 0
theorem set_zero {l : List Int} {x : Nat} (h : l.getD x 0 = 0) : l.set x 0 = l := by
  apply List.ext_getElem?
  intro j
  rw [List.getElem?_set]
  by_cases e : x = j
  · subst e
    rw [if_pos rfl]
    by_cases hl : x < l.length
    · rw [if_pos hl]
      rw [List.getD_eq_getElem?_getD, List.getElem?_eq_getElem hl] at h
      rw [List.getElem?_eq_getElem hl]
      exact congrArg some h.symm
    · rw [if_neg hl, List.getElem?_eq_none (by omega)]
  · rw [if_neg e]
theorem DpOk.new (n k : Nat) : DpOk (rp0 n k) := fun x _ => by
  unfold rp0
  rw [List.getD_eq_getElem?_getD]
  by_cases h : x < n
  · rw [List.getElem?_eq_getElem (by simpa using h), List.getElem_replicate]; rfl
  · rw [List.getElem?_eq_none (by simp; omega)]; rfl
theorem DpOk.step {n k : Nat} {ns : List Int} {s t : RpS} {m : Mv} (h : RpOk n k s) (hd : DpOk s) (e : rpStep n ns s m = some t) : DpOk t := by
  unfold rpStep at e
  split at e
  · split at e
    · cases e
    · split at e
      · cases e
        exact fun x hx => hd x (by have : s.left + 1 ≤ x := hx; omega)
      · cases e
        exact fun x hx => hd x (by have : s.left + 1 ≤ x := hx; omega)
  · cases hg : s.on.getD m.nd.toNat [] with
    | nil => rw [hg] at e; cases e
    | cons y r =>
      rw [hg] at e
      cases e
      intro x hx
      have hx : s.left ≤ x := hx
      obtain ⟨q, hq, hy⟩ := mem_getD (l := s.on) (i := m.nd.toNat) (x := y) (by rw [hg]; exact List.mem_cons_self)
      have := h.low q hq y hy
      show (s.deep.set y _).getD x 0 = 0
      rw [List.getD_eq_getElem?_getD, List.getElem?_set_ne (by omega), ← List.getD_eq_getElem?_getD]
      exact hd x hx
/-- A round's step: the state behind it, and what is left to run. -/
theorem rp_next {n k : Nat} {ns : List Int} {s t : RpS} {l : List Mv} {i : Nat} {m : Mv} (h : l[i]? = some m) (hm : mvOk k m = true) (hs : RpOk n k s) (hd : DpOk s) (e : rpStep n ns s m = some t) {R : Option RpS} (hr : R = rpRun n ns s (l.drop i)) : RpOk n k t ∧ DpOk t ∧ R = rpRun n ns t (l.drop (i + 1)) :=
  ⟨hs.step hm e, hd.step hs e, by rw [hr, rpRun_step h, e]⟩
theorem rp_stop {n : Nat} {ns : List Int} {s : RpS} {l : List Mv} {i : Nat} {m : Mv} (h : l[i]? = some m) (e : rpStep n ns s m = none) {R : Option RpS} (hr : R = rpRun n ns s (l.drop i)) : R = none := by rw [hr, rpRun_step h, e]
theorem rp_end {n : Nat} {ns : List Int} {s : RpS} {l : List Mv} {i : Nat} (h : ¬ i < l.length) {R : Option RpS} (hr : R = rpRun n ns s (l.drop i)) : R = some s := by
  rw [hr, List.drop_eq_nil_of_le (by omega)]; rfl
theorem step_end {n : Nat} {ns : List Int} {s : RpS} {m : Mv} (h : m.slip = true ∨ m.nd < 0) (e : s.left = n) : rpStep n ns s m = none := by unfold rpStep; rw [if_pos h, if_pos e]
theorem step_dry {n a : Nat} {ns : List Int} {s : RpS} {m : Mv} (h : m.slip = false) (ha : m.nd = (a : Int)) (e : s.on.getD a [] = []) : rpStep n ns s m = none := by
  unfold rpStep
  rw [if_neg (by rw [h, ha]; simp), ha, Int.toNat_natCast, e]
theorem step_slip {n a : Nat} {ns : List Int} {s : RpS} {m : Mv} (h : m.slip = true) (ha : m.nd = (a : Int)) (e : s.left ≠ n) : rpStep n ns s m = some { s with on := s.on.set a (s.on.getD a [] ++ [s.left]), left := s.left + 1 } := by
  unfold rpStep
  rw [if_pos (Or.inl h), if_neg e, if_pos h, ha, Int.toNat_natCast]
theorem step_work {n : Nat} {ns : List Int} {s : RpS} {m : Mv} (h : m.slip = false) (hn : m.nd < 0) (e : s.left ≠ n) : rpStep n ns s m = some { s with to_ := s.to_.set s.left (s.done : Int), left := s.left + 1, done := s.done + 1 } := by
  unfold rpStep
  rw [if_pos (Or.inr hn), if_neg e, if_neg (by rw [h]; decide)]
theorem step_take {n a : Nat} {ns : List Int} {s : RpS} {m : Mv} {x : Nat} {r : List Nat} (h : m.slip = false) (ha : m.nd = (a : Int)) (e : s.on.getD a [] = x :: r) : rpStep n ns s m = some { s with on := s.on.set a r, to_ := s.to_.set x (s.done : Int), deep := s.deep.set x (ns.getD a 0), done := s.done + 1 } := by
  unfold rpStep
  rw [if_neg (by rw [h, ha]; simp), ha, Int.toNat_natCast, e]
theorem le_sum : ∀ (l : List Nat) (i : Nat), l.getD i 0 ≤ l.sum
  | [], _ => by simp
  | a :: l, 0 => by simp
  | a :: l, i + 1 => by have := le_sum l i; simp only [List.getD_cons_succ, List.sum_cons]; omega
theorem RpOk.len {n k : Nat} {s : RpS} (h : RpOk n k s) (a : Nat) : (s.on.getD a []).length ≤ n := by
  have h1 := le_sum (s.on.map List.length) a
  rw [getD_map_len] at h1
  have := h.cnt
  have := h.left
  omega
theorem RpOk.doneLe {n k : Nat} {s : RpS} (h : RpOk n k s) : s.done ≤ n := by have := h.cnt; have := h.left; omega
/-- What a replay ends in. -/
def brdOut (r : Brd × Int) (w : World) (e : Ending) (w' : World) : Prop :=
  ∃ v f, e = .returned (.tuple #[.agg #[v, f], .int .i64 r.2]) ∧ Owns w' w.heap.size [⟨3, 1, r.1.to_.length, v, intV r.1.to_⟩, rowP f r.1.fronts] ∧ Below w.heap.size w w'
theorem brdOut.stop {w w' : World} {r : Brd × Int} {x : Int} (h : r = (⟨[], []⟩, x)) (hb : Below w.heap.size w w') : brdOut r w (.returned (.tuple #[.agg #[.slice none 0 0, .slice none 0 0], .int .i64 x])) w' := by
  subst h
  exact ⟨_, _, rfl, (Owns.nil.none 66 2).none 3 1, hb⟩
theorem rpE_arg {n : Int} {ns : List Int} {l : List Mv} (h : n < 0 ∨ 8 < n ∨ cabB ns = false) : rpE n ns l = (⟨[], []⟩, 2) := by unfold rpE; rw [if_pos h]
theorem rpE_bad {n : Int} {ns : List Int} {l : List Mv} (h1 : ¬ n < 0) (h2 : ¬ 8 < n) (h3 : cabB ns = true) {i : Nat} {m : Mv} (hi : l[i]? = some m) (hm : mvOk ns.length m = false) : rpE n ns l = (⟨[], []⟩, 8) := by
  unfold rpE
  rw [if_neg (by rw [h3]; simp; omega), if_pos]
  rw [List.any_eq_true]
  exact ⟨m, List.mem_of_getElem? hi, by rw [hm]; rfl⟩
theorem rpE_run {n : Nat} {ns : List Int} {l : List Mv} (h2 : n ≤ 8) (h3 : cabB ns = true) (hm : ∀ m ∈ l, mvOk ns.length m = true) :
    rpE (n : Int) ns l = match rpRun n ns (rp0 n ns.length) l with
      | none => (⟨[], []⟩, 36)
      | some s => if s.done = n then (⟨s.to_, rpFronts n s.to_ s.deep⟩, 0) else (⟨[], []⟩, 36) := by
  unfold rpE
  have ha : ¬ (l.any fun m => !mvOk ns.length m) = true := by
    rw [List.any_eq_true]
    rintro ⟨m, h, e⟩
    rw [hm m h] at e; cases e
  rw [if_neg (by rw [h3]; simp; omega), if_neg ha, Int.toNat_natCast]
  rfl
theorem mvOk_parts {k : Nat} {m : Mv} (h : mvOk k m = true) : -1 ≤ m.nd ∧ m.nd < (k : Int) ∧ (m.slip = true → 0 ≤ m.nd) := by
  unfold mvOk at h
  rw [Bool.and_eq_true, decide_eq_true_iff] at h
  refine ⟨h.1.1, h.1.2, fun hs => ?_⟩
  have h2 := h.2
  rw [hs] at h2
  simp at h2
  omega
theorem mvOk_not {k : Nat} {m : Mv} (h : mvOk k m = false) : m.nd < -1 ∨ (k : Int) ≤ m.nd ∨ (m.slip = true ∧ m.nd < 0) := by
  unfold mvOk at h
  by_cases h1 : m.nd < -1
  · exact Or.inl h1
  · by_cases h2 : (k : Int) ≤ m.nd
    · exact Or.inr (Or.inl h2)
    · rw [decide_eq_true (show -1 ≤ m.nd ∧ m.nd < (k : Int) by omega)] at h
      simp at h
      exact Or.inr (Or.inr h)
/-- The moves before a number are as they should be. -/
def mvTo (k : Nat) (l : List Mv) (i : Nat) : Prop := ∀ m ∈ l.take i, mvOk k m = true
theorem mvTo.zero (k : Nat) (l : List Mv) : mvTo k l 0 := fun m hm => by simp at hm
theorem mvTo.next {k : Nat} {l : List Mv} {i : Nat} {m : Mv} (h : mvTo k l i) (hi : l[i]? = some m) (hm : mvOk k m = true) : mvTo k l (i + 1) := fun x hx => by
  rw [List.take_add_one, hi, List.mem_append] at hx
  rcases hx with hx | hx
  · exact h x hx
  · have e : x = m := by simpa using hx
    rw [e]; exact hm
theorem mvTo.all {k : Nat} {l : List Mv} {i : Nat} (h : mvTo k l i) (hi : ¬ i < l.length) : ∀ m ∈ l, mvOk k m = true := fun m hm => h m (by rw [List.take_of_length_le (by omega)]; exact hm)
/-- The left needle's queue as it is laid. -/
def qs0 (k : Nat) (v : Value) (i : Nat) : List (Value × List Int) := (List.replicate (k + 1) ((Value.slice none 0 0, []) : Value × List Int)).set k (v, natL (List.range i))
theorem qs0_start (k : Nat) : qs0 k (.slice none 0 0) 0 = List.replicate (k + 1) (.slice none 0 0, []) := by
  unfold qs0
  apply List.ext_getElem?
  intro j
  rw [List.getElem?_set]
  by_cases e : k = j
  · subst e
    rw [if_pos rfl, if_pos (by simp), List.getElem?_replicate, if_pos (by omega)]; rfl
  · rw [if_neg e]
theorem qs0_at (k : Nat) (v : Value) (i : Nat) : (qs0 k v i)[k]? = some (v, natL (List.range i)) := by
  unfold qs0
  rw [List.getElem?_set_self (by simp)]
theorem qs0_next (k : Nat) (v v' : Value) (i : Nat) : (qs0 k v i).set k (v', natL (List.range i) ++ [(i : Int)]) = qs0 k v' (i + 1) := by
  unfold qs0
  rw [List.set_set]
  congr 2
  unfold natL
  rw [List.range_succ, List.map_append]
  rfl
theorem qs0_all (n k : Nat) (v : Value) : (qs0 k v n).map Prod.snd = qsOf n (rp0 n k) := by
  unfold qs0 qsOf rp0
  rw [vs_set, List.map_replicate, List.map_replicate]
  rw [show List.range' 0 (n - 0) = List.range n by rw [Nat.sub_zero, List.range_eq_range']]
  show (List.replicate (k + 1) ([] : List Int)).set k _ = _
  rw [List.replicate_succ', List.set_append_right _ _ (by simp), List.length_replicate, Nat.sub_self]
  rfl
/-- What holds at a round of a replay over queues. -/
structure RpI (W1 : World) (g tb db k n : Nat) (s : RpS) (vs : List (Value × List Int)) (X : List Own) (W : World) : Prop where
  qx : QX W1.heap.size g (k + 1) vs (rowN tb n s.to_ :: rowN db n s.deep :: X) W
  rd : vs.map Prod.snd = qsOf n s
  lo : Below W1.heap.size W1 W
theorem limb3 {a b c : Prop} (h : a ∧ b ∧ c) : c := h.2.2
theorem limb5' {a b c d e : Prop} (h : a ∧ b ∧ c ∧ d ∧ e) : e := h.2.2.2.2
theorem QX.mid {B g c b b' mb pb n : Nat} {l l' : List Int} {m : Mv} {v f : Value} {vs : List (Value × List Int)} {W : World} (h : QX B g c vs [rowN b n l, rowN b' n l', rowMv mb m, rowB pb v f] W) : W.cell? ⟨pb, 0, none⟩ = some v ∧ W.cell? ⟨mb, 1, none⟩ = some (.int .i64 m.nd) :=
  ⟨(rowB_at (h.own.all (rowB pb v f) (by simp))).1, (rowMv_at (h.own.all (rowMv mb m) (by simp))).2⟩
theorem QX.mid' {B g c b b' mb pb n : Nat} {l l' : List Int} {m : Mv} {v f : Value} {vs : List (Value × List Int)} {W : World} (h : QX B g c vs [rowN b n l, rowN b' n l', rowMv mb m, rowB pb v f] W) : W.cell? ⟨pb, 0, none⟩ = some v ∧ W.cell? ⟨mb, 1, none⟩ = some (.int .i64 m.nd) := h.mid
theorem rowN_sl {W : World} {B b n : Nat} {l : List Int} (h : (rowN b n l).lies W B) (hl : l.length = n) : SlI W W.heap.size (some ⟨b, 0, none⟩) l := fun _ => by
  have h0 : W.ownsRow B 3 1 (.slice (some ⟨b, 0, none⟩) n n) n (intV l) := h
  refine ⟨b, 0, rfl, (World.ownsRow.lt h0 b rfl).2, fun j z hz => ?_⟩
  have hj := (List.getElem?_eq_some_iff.1 hz).1
  rw [Nat.zero_add, h0.cellAt j (by omega)]
  unfold intV
  rw [List.getElem?_map, hz]; rfl
theorem info_pair : (Try.prog.info? 66).map (fun i => (i.zero, i.size, i.bytes)) = some (some (.agg #[.int .i64 0, .int .i64 0]), 2, 16) := by kernel_rfl
theorem prC_len (l : List (Int × Int)) : (prCells l).length = l.length * 2 := by
  unfold prCells
  induction l with
  | nil => rfl
  | cons a l ih => simp only [List.map_cons, List.flatten_cons, List.length_append, List.length_cons, List.length_nil] at ih ⊢; omega
/-- What holds while the pairs are sought. -/
structure FrI (W1 : World) (tb db pb n : Nat) (to_ deep : List Int) (F : Value) (prs : List (Int × Int)) (W : World) : Prop where
  own : Owns W W1.heap.size [rowP F prs, rowB pb (.slice (some ⟨tb, 0, none⟩) n n) F, rowN tb n to_, rowN db n deep]
  lo : Below W1.heap.size W1 W
theorem FrI.to {W1 W W' : World} {tb db pb n : Nat} {to_ deep : List Int} {F : Value} {prs : List (Int × Int)} (h : FrI W1 tb db pb n to_ deep F prs W) (hb : Below W.heap.size W W') : FrI W1 tb db pb n to_ deep F prs W' := ⟨h.own.to hb, h.lo.trans (hb.mono h.lo.size)⟩
theorem FrI.cells {W1 W : World} {tb db pb n : Nat} {to_ deep : List Int} {F : Value} {prs : List (Int × Int)} (h : FrI W1 tb db pb n to_ deep F prs W) : W.cell? ⟨pb, 0, none⟩ = some (.slice (some ⟨tb, 0, none⟩) n n) ∧ W.cell? ⟨pb, 1, none⟩ = some F ∧ ∃ A c, F = .slice A prs.length c := by
  obtain ⟨h0, h1, -⟩ := rowB_at (h.own.all (rowB pb (.slice (some ⟨tb, 0, none⟩) n n) F) (by simp))
  have h2 : W.ownsRow W1.heap.size 66 2 F prs.length (prCells prs) := h.own.head
  obtain ⟨A, c, e, -⟩ := own_slice h2
  exact ⟨h0, h1, A, c, e⟩
theorem FrI.dp {W1 W : World} {tb db pb n : Nat} {to_ deep : List Int} {F : Value} {prs : List (Int × Int)} (h : FrI W1 tb db pb n to_ deep F prs W) (hl : deep.length = n) {x : Nat} (hx : x < n) : W.cell? ⟨db, x, none⟩ = some (.int .i64 (deep.getD x 0)) := rowN_at (h.own.all (rowN db n deep) (by simp)) hl hx
theorem FrI.tos {W1 W : World} {tb db pb n : Nat} {to_ deep : List Int} {F : Value} {prs : List (Int × Int)} (h : FrI W1 tb db pb n to_ deep F prs W) (hl : to_.length = n) : SlI W W.heap.size (some ⟨tb, 0, none⟩) to_ := rowN_sl (h.own.all (rowN tb n to_) (by simp)) hl
/-- A pair is appended. -/
theorem FrI.push {W1 W : World} {tb db pb n : Nat} {to_ deep : List Int} {F : Value} {prs : List (Int × Int)} (h : FrI W1 tb db pb n to_ deep F prs W) (a b : Int) (hn : prs.length ≤ 100000) :
    ∃ A c w', (Builtin.append_ #[24, 24] 24 #[F, .slice (some ⟨W.heap.size, 0, none⟩) 1 1]).run Try.prog (W.alloc (.cells #[.int .i64 a, .int .i64 b] 66)) = .ok (.slice A (prs.length + 1) c) w' ∧ w'.cell? ⟨pb, 1, none⟩ = some F ∧ w'.frozen? ⟨pb, 1, none⟩ = false ∧
      FrI W1 tb db pb n to_ deep (.slice A (prs.length + 1) c) (prs ++ [(a, b)]) (w'.setCell ⟨pb, 1, none⟩ (.slice A (prs.length + 1) c)) := by
  obtain ⟨ii, hii, hii0, hii1, hii2⟩ := info_parts info_pair
  have hba : Below W.heap.size W (W.alloc (.cells #[.int .i64 a, .int .i64 b] 66)) := (Below.refl _ W).alloc (Nat.le_refl _) _
  have ho := h.own.to hba
  have hsz := h.lo.size
  have h0 : (W.alloc (.cells #[.int .i64 a, .int .i64 b] 66)).ownsRow W1.heap.size 66 2 F prs.length (prCells prs) := ho.head
  have hnew : ∀ j u, [Value.int .i64 a, .int .i64 b][j]? = some u → (W.alloc (.cells #[.int .i64 a, .int .i64 b] 66)).cell? ((⟨W.heap.size, 0, none⟩ : Addr).add j) = some u := newsT W _ _ _ rfl
  obtain ⟨A, c, w', hr, ho1, hg1, hn1⟩ := run_app_any Try.underlying24 hii hii0 hii1 hii2 rfl (by decide) h0 (some ⟨W.heap.size, 0, none⟩) 1 1 [.int .i64 a, .int .i64 b] rfl (fun e => by cases e) (fun ad e => by cases e; exact hnew) (by intro u hu; simp at hu; rcases hu with rfl | rfl <;> rfl) (by unfold maxLen; omega) (by omega) (by have := hba.size; omega)
  have hrow : (rowP (.slice A (prs.length + 1) c) (prs ++ [(a, b)])).lies w' W1.heap.size := by
    unfold rowP Own.lies
    rw [List.length_append, List.length_singleton, pr_snoc]
    exact ho1
  have ht := ho.turn (o' := rowP (.slice A (prs.length + 1) c) (prs ++ [(a, b)])) hg1 hrow hn1
  obtain ⟨e0, e1, e2⟩ := rowB_at (ht.all (rowB pb (.slice (some ⟨tb, 0, none⟩) n n) F) (by simp))
  refine ⟨A, c, w', hr, e1, e2 1, (rowB_put1 ht.swap _).swap, ?_⟩
  have hpb : W1.heap.size ≤ pb := (World.ownsRow.lt (h.own.all (rowB pb (.slice (some ⟨tb, 0, none⟩) n n) F) (by simp)) pb rfl).1
  exact ((h.lo.trans (hba.mono hsz)).trans (Below.of_grown hg1 (by have := hba.size; omega) (fun k e => (World.ownsRow.lt h0 k e).1))).setCell (p := ⟨pb, 1, none⟩) hpb _
theorem FrI.new {W1 W : World} {g tb db pb k n : Nat} {s : RpS} {vs : List (Value × List Int)} (h : RpI W1 g tb db k n s vs [rowB pb (.slice (some ⟨tb, 0, none⟩) n n) (.slice none 0 0)] W) : FrI W1 tb db pb n s.to_ s.deep (.slice none 0 0) [] W :=
  ⟨(h.qx.own.perm ((List.Perm.cons _ (List.Perm.swap _ _ _)).trans (List.Perm.swap _ _ _))).none 66 2, h.lo⟩
end Go.Proofs.Ytodjkifcbgmckaa
