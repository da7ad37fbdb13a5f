/- Layer 29: the memory of Replay: its queues, and rows beside them. -/
import Derived.Test.YtodjkifcbgmckaaQs
import Derived.Test.YtodjkifcbgmckaaAppR
import Derived.Test.YtodjkifcbgmckaaMvOpen
import Derived.Test.YtodjkifcbgmckaaHp2
namespace Go.Proofs.Ytodjkifcbgmckaa
open Go.RowKit Go.Shelf
set_option maxRecDepth 100000

/-- n ints at the head of a block. -/
def rowN (b n : Nat) (l : List Int) : Own := ⟨3, 1, n, .slice (some ⟨b, 0, none⟩) n n, intV l⟩
/-- A braid's box. -/
def rowB (b : Nat) (v f : Value) : Own := ⟨26, 2, 1, .slice (some ⟨b, 0, none⟩) 1 1, [v, f]⟩
/-- A move's box. -/
def rowMv (b : Nat) (m : Mv) : Own := ⟨69, 2, 1, .slice (some ⟨b, 0, none⟩) 1 1, m.cells⟩
/-- Pairs. -/
def rowP (v : Value) (l : List (Int × Int)) : Own := ⟨66, 2, l.length, v, prCells l⟩
theorem rowN_at {w : World} {B b n : Nat} {l : List Int} (h : (rowN b n l).lies w B) (hl : l.length = n) {k : Nat} (hk : k < n) : w.cell? ⟨b, k, none⟩ = some (.int .i64 (l.getD k 0)) := by
  have h0 : w.ownsRow B 3 1 (.slice (some ⟨b, 0, none⟩) n n) n (intV l) := h
  rw [h0.cellAt k (by omega)]
  unfold intV
  rw [List.getElem?_map, List.getD_eq_getElem?_getD, List.getElem?_eq_getElem (by omega)]
  rfl
theorem rowN_frz {w : World} {B b n : Nat} {l : List Int} (h : (rowN b n l).lies w B) (k : Nat) : w.frozen? ⟨b, k, none⟩ = false := by
  have h0 : w.ownsRow B 3 1 (.slice (some ⟨b, 0, none⟩) n n) n (intV l) := h
  exact h0.frozenAt k
theorem rowB_at {w : World} {B b : Nat} {v f : Value} (h : (rowB b v f).lies w B) : w.cell? ⟨b, 0, none⟩ = some v ∧ w.cell? ⟨b, 1, none⟩ = some f ∧ ∀ k, w.frozen? ⟨b, k, none⟩ = false := by
  have h0 : w.ownsRow B 26 2 (.slice (some ⟨b, 0, none⟩) 1 1) 1 [v, f] := h
  exact ⟨h0.cellAt 0 (by decide), h0.cellAt 1 (by decide), fun k => h0.frozenAt k⟩
theorem rowMv_at {w : World} {B b : Nat} {m : Mv} (h : (rowMv b m).lies w B) : w.cell? ⟨b, 0, none⟩ = some (.bool m.slip) ∧ w.cell? ⟨b, 1, none⟩ = some (.int .i64 m.nd) := by
  have h0 : w.ownsRow B 69 2 (.slice (some ⟨b, 0, none⟩) 1 1) 1 m.cells := h
  exact ⟨h0.cellAt 0 (by decide), h0.cellAt 1 (by decide)⟩
theorem rowN_put {w : World} {B b n : Nat} {l : List Int} {L : List Own} (h : Owns w B (rowN b n l :: L)) (k : Nat) (x : Int) : Owns (w.setCell ⟨b, k, none⟩ (.int .i64 x)) B (rowN b n (l.set k x) :: L) := by
  have h0 : w.ownsRow B 3 1 (.slice (some ⟨b, 0, none⟩) n n) n (intV l) := h.head
  obtain ⟨h1, h2⟩ := World.ownsRow.stored h0 k (.int .i64 x)
  refine h.turn (o' := rowN b n (l.set k x)) h2 ?_ (fun k hk => Or.inl hk)
  show World.ownsRow _ B _ 1 _ n (intV (l.set k x))
  unfold intV at h1 ⊢
  rw [List.map_set]
  exact h1
theorem rowB_put1 {w : World} {B b : Nat} {v f : Value} {L : List Own} (h : Owns w B (rowB b v f :: L)) (g : Value) : Owns (w.setCell ⟨b, 1, none⟩ g) B (rowB b v g :: L) := by
  have h0 : w.ownsRow B 26 2 (.slice (some ⟨b, 0, none⟩) 1 1) 1 [v, f] := h.head
  obtain ⟨h1, h2⟩ := World.ownsRow.stored h0 1 g
  exact h.turn (o' := rowB b v g) h2 h1 (fun k hk => Or.inl hk)
theorem Qs.grown {w w' : World} {B g c : Nat} {vs : List (Value × List Int)} {row : Option Nat} (h : Qs w B g c vs) (hg : w.grownBy w' row) (h1 : row ≠ some g) (h2 : ∀ (i : Nat) (p : Value × List Int), vs[i]? = some p → ∀ k, p.1.ownBlock = some k → row ≠ some k) : Qs w' B g c vs := by
  refine ⟨World.ownsRow.kept h.row hg (Or.inr fun e => h1 ?_), fun i p hp => (h.vw i p hp).grown hg (h2 i p hp), h.apart, h.far⟩
  rw [← e]; rfl
/-- Queues, and rows in blocks of their own. -/
structure QX (B g c : Nat) (vs : List (Value × List Int)) (L : List Own) (W : World) : Prop where
  qs : Qs W B g c vs
  own : Owns W B L
  gx : ∀ o ∈ L, o.v.ownBlock ≠ some g
  far : ∀ (i : Nat) (p : Value × List Int), vs[i]? = some p → ∀ o ∈ L, ∀ k, p.1.ownBlock = some k → o.v.ownBlock ≠ some k
theorem QX.to {B g c : Nat} {vs : List (Value × List Int)} {L : List Own} {W W' : World} (h : QX B g c vs L W) (hb : Below W.heap.size W W') : QX B g c vs L W' := ⟨h.qs.to hb, h.own.to hb, h.gx, h.far⟩
theorem QX.sub {B g c : Nat} {vs : List (Value × List Int)} {L L' : List Own} {W : World} (h : QX B g c vs L W) (s : ∀ o ∈ L', o ∈ L) (hs : Owns W B L') : QX B g c vs L' W := ⟨h.qs, hs, fun o ho => h.gx o (s o ho), fun i p hp o ho => h.far i p hp o (s o ho)⟩
theorem QX.perm {B g c : Nat} {vs : List (Value × List Int)} {L L' : List Own} {W : World} (h : QX B g c vs L W) (p : L.Perm L') : QX B g c vs L' W := h.sub (fun _ ho => p.mem_iff.2 ho) (h.own.perm p)
theorem QX.tail {B g c : Nat} {vs : List (Value × List Int)} {o : Own} {L : List Own} {W : World} (h : QX B g c vs (o :: L) W) : QX B g c vs L W := h.sub (fun _ ho => List.mem_cons_of_mem _ ho) h.own.tail
theorem QX.swap {B g c : Nat} {vs : List (Value × List Int)} {a b : Own} {L : List Own} {W : World} (h : QX B g c vs (a :: b :: L) W) : QX B g c vs (b :: a :: L) W := h.sub (fun _ ho => (List.Perm.swap a b L).mem_iff.1 ho) h.own.swap
theorem QX.add {B g c : Nat} {vs : List (Value × List Int)} {o : Own} {L : List Own} {W W' : World} (h : QX B g c vs L W) (hb : Below W.heap.size W W') (hB : B ≤ W.heap.size) (ho : o.lies W' W.heap.size) : QX B g c vs (o :: L) W' := by
  have hl : ∀ k, o.v.ownBlock = some k → W.heap.size ≤ k := fun k hk => (World.ownsRow.lt ho k hk).1
  refine ⟨h.qs.to hb, h.own.add hb hB ho, fun x hx => ?_, fun i p hp x hx k hk => ?_⟩
  · rcases List.mem_cons.1 hx with rfl | hx
    · intro e
      have h1 := hl g e
      have h2 := (World.ownsRow.lt h.qs.row g rfl).2
      omega
    · exact h.gx x hx
  · rcases List.mem_cons.1 hx with rfl | hx
    · intro e
      have h1 := hl k e
      have h2 := ((h.qs.vw i p hp).lt hk).2
      omega
    · exact h.far i p hp x hx k hk
theorem QX.drop3 {B g c : Nat} {vs : List (Value × List Int)} {a b o : Own} {L : List Own} {W : World} (h : QX B g c vs (a :: b :: o :: L) W) : QX B g c vs (a :: b :: L) W := h.sub (fun x hx => by simp only [List.mem_cons] at hx ⊢; rcases hx with h | h | h <;> simp [h]) (h.own.sub (List.Sublist.cons_cons _ (List.Sublist.cons_cons _ (List.sublist_cons_self _ _))))
/-- The row at the head is turned, in its block. -/
theorem QX.turn {B g c : Nat} {vs : List (Value × List Int)} {o o' : Own} {L : List Own} {W W' : World} (h : QX B g c vs (o :: L) W) (hg : W.grownBy W' o.v.ownBlock) (hv : o'.v = o.v) (ho : Owns W' B (o' :: L)) : QX B g c vs (o' :: L) W' := by
  refine ⟨h.qs.grown hg (h.gx o List.mem_cons_self) (fun i p hp k hk => h.far i p hp o List.mem_cons_self k hk), ho, fun x hx => ?_, fun i p hp x hx => ?_⟩
  · rcases List.mem_cons.1 hx with rfl | hx
    · rw [hv]; exact h.gx o List.mem_cons_self
    · exact h.gx x (List.mem_cons_of_mem _ hx)
  · rcases List.mem_cons.1 hx with rfl | hx
    · rw [hv]; exact h.far i p hp o List.mem_cons_self
    · exact h.far i p hp x (List.mem_cons_of_mem _ hx)
theorem QX.putN {B g c b n : Nat} {l : List Int} {vs : List (Value × List Int)} {L : List Own} {W : World} (h : QX B g c vs (rowN b n l :: L) W) (k : Nat) (x : Int) : QX B g c vs (rowN b n (l.set k x) :: L) (W.setCell ⟨b, k, none⟩ (.int .i64 x)) := by
  have h0 : W.ownsRow B 3 1 (.slice (some ⟨b, 0, none⟩) n n) n (intV l) := h.own.head
  exact h.turn (World.ownsRow.stored h0 k _).2 rfl (rowN_put h.own k x)
theorem QX.put2 {B g c b b' n : Nat} {l l' : List Int} {vs : List (Value × List Int)} {L : List Own} {W : World} (h : QX B g c vs (rowN b n l :: rowN b' n l' :: L) W) (k : Nat) (x y : Int) : QX B g c vs (rowN b n (l.set k x) :: rowN b' n (l'.set k y) :: L) ((W.setCell ⟨b, k, none⟩ (.int .i64 x)).setCell ⟨b', k, none⟩ (.int .i64 y)) := ((h.putN k x).swap.putN k y).swap
theorem QX.ne {B g c b b' n : Nat} {l l' : List Int} {vs : List (Value × List Int)} {L : List Own} {W : World} (h : QX B g c vs (rowN b n l :: rowN b' n l' :: L) W) : b ≠ b' := fun e => (List.pairwise_cons.1 h.own.apart).1 (rowN b' n l') List.mem_cons_self b rfl (by rw [e]; rfl)
/-- A queue is turned, its value is stored. -/
theorem QX.set {B g c : Nat} {vs : List (Value × List Int)} {L : List Own} {w w' : World} (h : QX B g c vs L w) {i : Nat} {p : Value × List Int} (hp : vs[i]? = some p) {v : Value} {q : List Int} (hg : w.grownBy w' p.1.ownBlock) (hv : Vw w' B v q) (hn : ∀ k, v.ownBlock = some k → p.1.ownBlock = some k ∨ w.heap.size ≤ k) :
    QX B g c (vs.set i (v, q)) L (w'.setCell ⟨g, i, none⟩ v) ∧ w'.cell? ⟨g, i, none⟩ = some p.1 ∧ w'.frozen? ⟨g, i, none⟩ = false ∧ Owns w' B L := by
  obtain ⟨h1, h2, h3⟩ := h.qs.set hp hg hv hn
  have hl := (List.getElem?_eq_some_iff.1 hp).1
  have ho : Owns w' B L := by
    refine ⟨fun o ho => World.ownsRow.kept (h.own.all o ho) hg ?_, h.own.apart⟩
    cases e : o.v.ownBlock with
    | none => exact Or.inl rfl
    | some k => exact Or.inr fun e2 => h.far i p hp o ho k e2.symm e
  refine ⟨⟨h1, ⟨fun o ho' => ?_, h.own.apart⟩, h.gx, fun j r hr o ho' k hk e => ?_⟩, h2, h3, ho⟩
  · refine World.ownsRow.kept (ho.all o ho') (w := w') (row := some g) ⟨rfl, rfl, rfl, by simp, fun k _ hk => Below.heap_setCell w' _ _ k (fun e => hk (by rw [e]))⟩ ?_
    cases e : o.v.ownBlock with
    | none => exact Or.inl rfl
    | some k => exact Or.inr fun e2 => h.gx o ho' (by rw [e]; exact e2)
  · by_cases ej : j = i
    · subst ej
      rw [List.getElem?_set_self hl] at hr
      cases hr
      rcases hn k hk with h4 | h4
      · exact h.far j p hp o ho' k h4 e
      · have := (World.ownsRow.lt (h.own.all o ho') k e).2; omega
    · rw [List.getElem?_set_ne (fun e => ej e.symm)] at hr
      exact h.far j r hr o ho' k hk e
theorem grown_refl (w : World) (row : Option Nat) : w.grownBy w row := ⟨rfl, rfl, rfl, Nat.le_refl _, fun _ _ _ => rfl⟩
/-- What '[1:]' leaves of a slice of a block. -/
def popV (qb off m cap : Nat) : Value := .slice (if cap = 1 then some ⟨qb, off, none⟩ else some ⟨qb, off + 1, none⟩) m (cap - 1)
theorem popV_eq (qb off m cap : Nat) : Value.slice (some (if cap = 1 then ⟨qb, off, none⟩ else ⟨qb, off + 1, none⟩)) m (cap - 1) = popV qb off m cap := by unfold popV; split <;> rfl
theorem popV_own (qb off m cap : Nat) : (popV qb off m cap).ownBlock = some qb := by unfold popV; split <;> rfl
/-- A queue's head is taken. -/
theorem QX.pop {B g c : Nat} {vs : List (Value × List Int)} {L : List Own} {w : World} (h : QX B g c vs L w) {i : Nat} {v : Value} {x : Int} {r : List Int} (hp : vs[i]? = some (v, x :: r)) :
    ∃ qb off cap, v = .slice (some ⟨qb, off, none⟩) (r.length + 1) cap ∧ r.length + 1 ≤ cap ∧ w.cell? ⟨g, i, none⟩ = some (.slice (some ⟨qb, off, none⟩) (r.length + 1) cap) ∧ w.frozen? ⟨g, i, none⟩ = false ∧ w.cell? ⟨qb, off, none⟩ = some (.int .i64 x) ∧
      QX B g c (vs.set i (popV qb off r.length cap, r)) L (w.setCell ⟨g, i, none⟩ (popV qb off r.length cap)) := by
  obtain ⟨qb, off, cap, rfl, h1, h2, h3⟩ := (h.qs.vw i _ hp).pop
  rw [popV_eq] at h3
  obtain ⟨h4, h5, h6, -⟩ := h.set hp (grown_refl w _) h3 (fun k hk => Or.inl (by rw [popV_own] at hk; exact hk))
  exact ⟨qb, off, cap, rfl, h1, h5, h6, h2, h4⟩
/-- A number is appended to a queue. -/
theorem QX.push {B g c : Nat} {vs : List (Value × List Int)} {L : List Own} {w : World} (h : QX B g c vs L w) (hB : B ≤ w.heap.size) {i : Nat} {v : Value} {q : List Int} (hp : vs[i]? = some (v, q)) (x : Int) {b : Nat} (hx : w.cell? ⟨b, 0, none⟩ = some (.int .i64 x)) (hn : q.length ≤ 100000) :
    ∃ A c' w', (Builtin.append_ #[22, 22] 22 #[v, .slice (some ⟨b, 0, none⟩) 1 1]).run Try.prog w = .ok (.slice A (q.length + 1) c') w' ∧ w'.cell? ⟨g, i, none⟩ = some v ∧ w'.frozen? ⟨g, i, none⟩ = false ∧ Owns w' B L ∧ Below B w w' ∧
      QX B g c (vs.set i (.slice A (q.length + 1) c', q ++ [x])) L (w'.setCell ⟨g, i, none⟩ (.slice A (q.length + 1) c')) := by
  have hv := h.qs.vw i _ hp
  obtain ⟨A, c', w', h1, h2, h3, h4⟩ := hv.push hB x hx hn
  obtain ⟨h5, h6, h7, h8⟩ := h.set hp h3 h2 h4
  exact ⟨A, c', w', h1, h6, h7, h8, Below.of_grown h3 hB (fun k e => (hv.lt e).1), h5⟩
theorem QX.cell {B g c : Nat} {vs : List (Value × List Int)} {L : List Own} {w : World} (h : QX B g c vs L w) {i : Nat} {v : Value} {q : List Int} (hp : vs[i]? = some (v, q)) : w.cell? ⟨g, i, none⟩ = some v ∧ w.frozen? ⟨g, i, none⟩ = false ∧ ∃ A c', v = .slice A q.length c' := by
  obtain ⟨h1, h2, -⟩ := h.qs.cell hp
  exact ⟨h1, h2, (h.qs.vw i _ hp).form⟩
/-- Queues that are all nil. -/
theorem QX.new {B g n : Nat} {W : World} (h : W.ownsRow B 22 1 (.slice (some ⟨g, 0, none⟩) n n) n (List.replicate n (.slice none 0 0))) : QX B g n (List.replicate n (.slice none 0 0, [])) [] W := by
  have hr : ∀ (i : Nat) (p : Value × List Int), (List.replicate n ((Value.slice none 0 0, []) : Value × List Int))[i]? = some p → p = (.slice none 0 0, []) := fun i p hp => List.eq_of_mem_replicate (List.mem_of_getElem? hp)
  refine ⟨⟨?_, fun i p hp => ?_, fun i j p q k hij hp hq hk => ?_, fun i p hp => ?_⟩, Owns.nil, fun o ho => absurd ho List.not_mem_nil, fun i p hp o ho => absurd ho List.not_mem_nil⟩
  · rw [List.length_replicate, List.map_replicate]; exact h
  · rw [hr i p hp]; exact Vw.nil _ _
  · rw [hr i p hp] at hk; cases hk
  · rw [hr i p hp]; exact fun e => by cases e
end Go.Proofs.Ytodjkifcbgmckaa
