/- Words for ranges over functions: all cells but those of one block are kept. -/
import Derived.Test.YtodjkifcbgmckaaBase
import Derived.RangeFuncNested
import Derived.RangeFuncBound
import Derived.RangeFuncCalls
import Derived.RangeFuncLeaves
import Derived.Shelf.RegionOpen
import Derived.OwnWalkIn
import Derived.TacticsInMore
import Derived.LoopNIn
import Derived.LoopIn
namespace Go.Proofs.Ytodjkifcbgmckaa
open Go.RowKit Go.Shelf

/-- Whatever cells lay, but those of block B0, lie as they lay. -/
def KC (B0 : Nat) (W W' : World) : Prop := W.heap.size ≤ W'.heap.size ∧ ∀ k cs t f, k ≠ B0 → W.heap[k]? = some (.cells cs t f) → W'.heap[k]? = some (.cells cs t f)
theorem KC.refl (B0 : Nat) (W : World) : KC B0 W W := ⟨Nat.le_refl _, fun _ _ _ _ _ h => h⟩
theorem KC.trans {B0 : Nat} {A B C : World} (h : KC B0 A B) (k : KC B0 B C) : KC B0 A C := ⟨Nat.le_trans h.1 k.1, fun i cs t f hi hc => k.2 i cs t f hi (h.2 i cs t f hi hc)⟩
theorem KC.of_below {B0 : Nat} {A B : World} (h : Below A.heap.size A B) : KC B0 A B := ⟨h.size, fun i _ _ _ _ hc => (h.block i (Array.getElem?_eq_some_iff.1 hc).1).trans hc⟩
theorem KC.put {B0 : Nat} (W : World) (l : Nat) (o o' : Obj) (h : W.heap[l]? = some o) (ho : o.isCells = false) : KC B0 W (W.putObj l o') := by
  refine ⟨by simp, fun i cs t f _ hc => ?_⟩
  have hne : i ≠ l := by
    rintro rfl
    rw [hc] at h; cases h; cases ho
  rw [World.putObj_heap_other hne]; exact hc
theorem KC.set_ {B0 : Nat} (W : World) (o : Nat) (v : Value) : KC B0 W (W.setCell ⟨B0, o, none⟩ v) :=
  ⟨by simp [World.setCell], fun i _ _ _ hi hc => (Below.heap_setCell W ⟨B0, o, none⟩ v i hi).trans hc⟩
theorem KC.drew {B0 : Nat} {A B : World} (h : KC B0 A B) : KC B0 A B.drew := h
theorem KC.cell {B0 : Nat} {A B : World} (h : KC B0 A B) {b o : Nat} {v : Value} (hb : b ≠ B0) (hc : A.cell? ⟨b, o, none⟩ = some v) : B.cell? ⟨b, o, none⟩ = some v := by
  unfold World.cell? at hc ⊢
  cases hk : A.heap[b]? with
  | none => simp [hk] at hc
  | some ob =>
    cases ob with
    | cells cs t f => rw [h.2 b cs t f hb hk]; rw [hk] at hc; exact hc
    | _ => simp [hk] at hc
theorem KC.own {B0 : Nat} {A B : World} (h : KC B0 A B) {B' : Nat} {e : TypeId} {size n : Nat} {v : Value} {xs : List Value} (hb : v.ownBlock ≠ some B0) (ho : A.ownsRow B' e size v n xs) : B.ownsRow B' e size v n xs := by
  refine ⟨ho.1, ho.2.imp id ?_⟩
  rintro ⟨g, cap, cur, rfl, hg, hh, r⟩
  exact ⟨g, cap, cur, rfl, hg, h.2 g _ _ _ (fun e => hb (by rw [← e]; rfl)) hh, r⟩
theorem KC.sl {B0 : Nat} {A B : World} (h : KC B0 A B) {n : Nat} (hn : n ≤ B0) {a : Option Addr} {zs : List Int} (hs : SlI A n a zs) : SlI B n a zs := fun hz => by
  obtain ⟨b, off, e, hB, hc⟩ := hs hz
  exact ⟨b, off, e, hB, fun j z hj => h.cell (by omega) (hc j z hj)⟩
theorem KC.rows {B0 : Nat} {A B : World} (h : KC B0 A B) {n : Nat} (hn : n ≤ B0) {a : Option Addr} {p : List (List Int)} (hs : SlRows A n a p) : SlRows B n a p := fun hz => by
  obtain ⟨b, off, e, hB, hc⟩ := hs hz
  refine ⟨b, off, e, hB, fun j row hj => ?_⟩
  obtain ⟨A', C', h1, h2, h3⟩ := hc j row hj
  exact ⟨A', C', h.cell (by omega) h1, h2, h.sl hn h3⟩
/-- What lay below a block at or ahead of the heap's end: no block of it is turned. -/
theorem grownN_of_below {W W' : World} {B : Nat} (h : Below B W W') (hB : W.heap.size ≤ B) : W.grownBy W' none := ⟨h.os, h.tape, h.output, h.size, fun k hk _ => h.block k (by omega)⟩
theorem AbidesFrom.below {β : Type} {B : Nat} {J : β → World → Prop} (h : AbidesFrom B J) {s : β} {W W' : World} (hs : J s W) (hb : Below W.heap.size W W') : J s W' :=
  h s W W' none hs (grownN_of_below hb (Nat.le_refl _)) (fun r e => by cases e)
theorem cell_new_l (W : World) (v : Value) (t : TypeId) : (W.alloc (.cells #[v] t)).cell? ⟨W.heap.size, 0, none⟩ = some v ∧ (W.alloc (.cells #[v] t)).frozen? ⟨W.heap.size, 0, none⟩ = false := by
  have h := Boxed.new W t v
  exact ⟨h.cell, h.frozen⟩
theorem cell_alloc_l {W : World} {a : Addr} {v : Value} (o : Obj) (h : W.cell? a = some v) : (W.alloc o).cell? a = some v := cell_kept h (World.grownBy_alloc W o none) (fun r e => by cases e)
theorem frozen_alloc_l {W : World} {a : Addr} {v : Value} (o : Obj) (h : W.cell? a = some v) (hf : W.frozen? a = false) : (W.alloc o).frozen? a = false := (frozen_kept h (World.grownBy_alloc W o none) (fun r e => by cases e)).trans hf
/-- A call that any fence lets: at the wide fence. -/
theorem wide_calls {n : Nat} {P : Program} {f : FuncId} {args : Array Value} {w : World} {R : Ending → World → Prop} (h : Calls P f args w R) : CallsIn Fence.wide n P f args w R := callsIn_wide.2 h
end Go.Proofs.Ytodjkifcbgmckaa
