/- A row of queues: each a view of a block of its own. -/
import Derived.Test.YtodjkifcbgmckaaVw
namespace Go.Proofs.Ytodjkifcbgmckaa
open Go.RowKit Go.Shelf
set_option maxRecDepth 100000

/-- The outer row's values and what each of them reads. -/
structure Qs (w : World) (B g c : Nat) (vs : List (Value × List Int)) : Prop where
  row : w.ownsRow B 22 1 (.slice (some ⟨g, 0, none⟩) vs.length c) vs.length (vs.map Prod.fst)
  vw : ∀ (i : Nat) (p : Value × List Int), vs[i]? = some p → Vw w B p.1 p.2
  apart : ∀ (i j : Nat) (p q : Value × List Int) (k : Nat), i ≠ j → vs[i]? = some p → vs[j]? = some q → p.1.ownBlock = some k → q.1.ownBlock ≠ some k
  far : ∀ (i : Nat) (p : Value × List Int), vs[i]? = some p → p.1.ownBlock ≠ some g
theorem Qs.to {w w' : World} {B g c : Nat} {vs : List (Value × List Int)} (h : Qs w B g c vs) (hb : Below w.heap.size w w') : Qs w' B g c vs :=
  ⟨Owns.head (Owns.to (L := [⟨22, 1, vs.length, .slice (some ⟨g, 0, none⟩) vs.length c, vs.map Prod.fst⟩]) ⟨fun o ho => by rw [List.mem_singleton.1 ho]; exact h.row, List.pairwise_singleton ..⟩ hb), fun i p hp => (h.vw i p hp).to hb, h.apart, h.far⟩
theorem Qs.cell {w : World} {B g c : Nat} {vs : List (Value × List Int)} (h : Qs w B g c vs) {i : Nat} {p : Value × List Int} (hp : vs[i]? = some p) : w.cell? ⟨g, i, none⟩ = some p.1 ∧ w.frozen? ⟨g, i, none⟩ = false ∧ B ≤ g ∧ g < w.heap.size := by
  have hl := (List.getElem?_eq_some_iff.1 hp).1
  have hg := World.ownsRow.lt h.row g rfl
  refine ⟨?_, h.row.frozenAt i, hg.1, hg.2⟩
  rw [h.row.cellAt i (by omega), List.getElem?_map, hp]
  rfl
/-- A queue is turned, its value is stored. -/
theorem Qs.set {w w' : World} {B g c : Nat} {vs : List (Value × List Int)} (h : Qs w B g c vs) {i : Nat} {p : Value × List Int} (hp : vs[i]? = some p) {v : Value} {q : List Int} (hg : w.grownBy w' p.1.ownBlock) (hv : Vw w' B v q) (hn : ∀ k, v.ownBlock = some k → p.1.ownBlock = some k ∨ w.heap.size ≤ k) :
    Qs (w'.setCell ⟨g, i, none⟩ v) B g c (vs.set i (v, q)) ∧ w'.cell? ⟨g, i, none⟩ = some p.1 ∧ w'.frozen? ⟨g, i, none⟩ = false := by
  have hl := (List.getElem?_eq_some_iff.1 hp).1
  have hgl := World.ownsRow.lt h.row g rfl
  have hne : p.1.ownBlock ≠ some g := h.far i p hp
  have hrow : w'.ownsRow B 22 1 (.slice (some ⟨g, 0, none⟩) vs.length c) vs.length (vs.map Prod.fst) := by
    refine ⟨h.row.1, ?_⟩
    rcases h.row.2 with ⟨e, -⟩ | ⟨g', cap, cur, e, hb, hgg, rest⟩
    · cases e
    · have hg' : g = g' := by injection e with e1; injection e1 with e2; injection e2
      subst hg'
      exact Or.inr ⟨g, cap, cur, e, hb, (hg.block g hgl.2 (fun e => hne e.symm)).trans hgg, rest⟩
  obtain ⟨s1, s2⟩ := World.ownsRow.stored hrow i v
  have hcell := hrow.cellAt i (by omega)
  rw [List.getElem?_map, hp] at hcell
  have hvg : v.ownBlock ≠ some g := fun e => by
    rcases hn g e with h1 | h1
    · exact hne h1
    · omega
  have hfar : ∀ {u : Value} {r : List Int}, Vw w' B u r → u.ownBlock ≠ some g → Vw (w'.setCell ⟨g, i, none⟩ v) B u r := fun {u r} hu hug => hu.same (by simp) (fun k hk => Below.heap_setCell w' _ _ k (fun e => hug (by rw [hk]; exact congrArg some e)))
  have hold : ∀ j r, j ≠ i → vs[j]? = some r → Vw w' B r.1 r.2 := fun j r hj hr => (h.vw j r hr).grown hg (fun k hk e => h.apart j i r p k hj hr hp hk e)
  refine ⟨⟨?_, fun j r hr => ?_, fun j l r r' k hjl hr hr' hk => ?_, fun j r hr => ?_⟩, hcell, hrow.frozenAt i⟩
  · rw [List.length_set, List.map_set]
    exact s1
  · by_cases e : j = i
    · subst e
      rw [List.getElem?_set_self hl] at hr
      cases hr
      exact hfar hv hvg
    · rw [List.getElem?_set_ne (fun h => e h.symm)] at hr
      exact hfar (hold j r e hr) (h.far j r hr)
  · -- a block of an old queue that is not the one that is turned is none of the new value's
    have cross : ∀ j r, j ≠ i → vs[j]? = some r → ∀ k, r.1.ownBlock = some k → v.ownBlock ≠ some k := fun j r hj hr k hk e => by
      rcases hn k e with h1 | h1
      · exact h.apart j i r p k hj hr hp hk h1
      · have := ((h.vw j r hr).lt hk).2; omega
    by_cases e1 : j = i
    · subst e1
      rw [List.getElem?_set_self hl] at hr
      cases hr
      rw [List.getElem?_set_ne hjl] at hr'
      exact fun e => cross l r' (fun h => hjl h.symm) hr' k e hk
    · rw [List.getElem?_set_ne (fun h => e1 h.symm)] at hr
      by_cases e2 : l = i
      · subst e2
        rw [List.getElem?_set_self hl] at hr'
        cases hr'
        exact cross j r e1 hr k hk
      · rw [List.getElem?_set_ne (fun h => e2 h.symm)] at hr'
        exact h.apart j l r r' k hjl hr hr' hk
  · by_cases e : j = i
    · subst e
      rw [List.getElem?_set_self hl] at hr
      cases hr
      exact hvg
    · rw [List.getElem?_set_ne (fun h => e h.symm)] at hr
      exact h.far j r hr
end Go.Proofs.Ytodjkifcbgmckaa
