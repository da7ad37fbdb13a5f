/- Words for memory that all walks of this seat share: slices that read as lists, below a block; small facts. -/
import Derived.Test.YtflpikickbellaaRows
import Derived.WalkKit
import Derived.WalkSpells
import Derived.WalkLawsBesides
import Derived.Lib.Hide
import Derived.Deep.LoopGhost
import Derived.Deep.Draws
import Derived.Shelf.Abstract
import Derived.Deep.QuietTactic
import Derived.BigQuiet
import Derived.Deep.DeepCutAuto
import Derived.Deep.DeepMust
namespace Go.Proofs.Ytflpikickbellaa
open Go.RowKit

theorem bcell {W w1 : World} {B : Nat} (hb : Below B W w1) {b : Nat} (h : b < B) (o : Nat) : w1.cell? ⟨b, o, none⟩ = W.cell? ⟨b, o, none⟩ := hb.cell (p := ⟨b, o, none⟩) h

/-- The slice value '.slice A zs.length c' holds the numbers zs, in a block below B. -/
def SlI (w : World) (B : Nat) (A : Option Addr) (zs : List Int) : Prop :=
  zs ≠ [] → ∃ b off, A = some ⟨b, off, none⟩ ∧ b < B ∧ ∀ j z, zs[j]? = some z → w.cell? ⟨b, off + j, none⟩ = some (.int .i64 z)
theorem SlI.below {w w' : World} {B : Nat} {A : Option Addr} {zs : List Int} (h : SlI w B A zs) (hb : Below B w w') : SlI w' B A zs := fun hn => by
  obtain ⟨b, off, e, hB, hc⟩ := h hn
  exact ⟨b, off, e, hB, fun j z hz => (bcell hb hB _).trans (hc j z hz)⟩
theorem SlI.more {w : World} {B B' : Nat} {A : Option Addr} {zs : List Int} (h : SlI w B A zs) (hB' : B ≤ B') : SlI w B' A zs := fun hn => by
  obtain ⟨b, off, e, hB, hc⟩ := h hn
  exact ⟨b, off, e, by omega, hc⟩
theorem SlI.at_ {w : World} {B : Nat} {A : Option Addr} {zs : List Int} (h : SlI w B A zs) {k : Nat} (hk : k < zs.length) :
    ∃ b off z, A = some ⟨b, off, none⟩ ∧ b < B ∧ zs[k]? = some z ∧ w.cell? ⟨b, off + k, none⟩ = some (.int .i64 z) := by
  obtain ⟨b, off, e, hB, hc⟩ := h (fun e => by subst e; simp at hk)
  exact ⟨b, off, zs[k], e, hB, List.getElem?_eq_getElem hk, hc k _ (List.getElem?_eq_getElem hk)⟩
theorem SlI.nil {w : World} {B : Nat} {A : Option Addr} : SlI w B A [] := fun h => absurd rfl h

/-- The slice value '.slice A p.length c' holds slices that hold the rows of p, all below B. -/
def SlRows (w : World) (B : Nat) (A : Option Addr) (p : List (List Int)) : Prop :=
  p ≠ [] → ∃ b off, A = some ⟨b, off, none⟩ ∧ b < B ∧ ∀ j row, p[j]? = some row → ∃ A' C', w.cell? ⟨b, off + j, none⟩ = some (.slice A' row.length C') ∧ row.length ≤ C' ∧ SlI w B A' row
theorem SlRows.below {w w' : World} {B : Nat} {A : Option Addr} {p : List (List Int)} (h : SlRows w B A p) (hb : Below B w w') : SlRows w' B A p := fun hn => by
  obtain ⟨b, off, e, hB, hc⟩ := h hn
  refine ⟨b, off, e, hB, fun j row hr => ?_⟩
  obtain ⟨A', C', h1, h2, h3⟩ := hc j row hr
  exact ⟨A', C', (bcell hb hB _).trans h1, h2, h3.below hb⟩
theorem SlRows.more {w : World} {B B' : Nat} {A : Option Addr} {p : List (List Int)} (h : SlRows w B A p) (hB' : B ≤ B') : SlRows w B' A p := fun hn => by
  obtain ⟨b, off, e, hB, hc⟩ := h hn
  refine ⟨b, off, e, by omega, fun j row hr => ?_⟩
  obtain ⟨A', C', h1, h2, h3⟩ := hc j row hr
  exact ⟨A', C', h1, h2, h3.more hB'⟩
theorem SlRows.at_ {w : World} {B : Nat} {A : Option Addr} {p : List (List Int)} (h : SlRows w B A p) {k : Nat} (hk : k < p.length) :
    ∃ b off row A' C', A = some ⟨b, off, none⟩ ∧ b < B ∧ p[k]? = some row ∧ w.cell? ⟨b, off + k, none⟩ = some (.slice A' row.length C') ∧ SlI w B A' row := by
  obtain ⟨b, off, e, hB, hc⟩ := h (fun e => by subst e; simp at hk)
  obtain ⟨A', C', h1, _, h3⟩ := hc k _ (List.getElem?_eq_getElem hk)
  exact ⟨b, off, p[k], A', C', e, hB, List.getElem?_eq_getElem hk, h1, h3⟩

theorem own_step {w0 wr w1 : World} {B : Nat} {e : TypeId} {size n : Nat} {v : Value} {xs : List Value} {o : Obj} (hb : Below B w0 wr) (hown : wr.ownsRow B e size v n xs) (hB : B ≤ wr.heap.size) (hg : (wr.alloc o).grownBy w1 v.ownBlock) : Below B w0 w1 :=
  (hb.alloc hB o).grown hg (by simp; omega) (fun k e => (hown.lt k e).1)
theorem own_below {w w' : World} {B B' : Nat} {e : TypeId} {size n : Nat} {v : Value} {xs : List Value} (h : w.ownsRow B e size v n xs) (hb : Below B' w w') (hB : w.heap.size ≤ B') : w'.ownsRow B e size v n xs :=
  h.kept (row := none) ⟨hb.os, hb.tape, hb.output, hb.size, fun k hk _ => hb.block k (by omega)⟩ (by cases v.ownBlock <;> simp)

theorem ret_int {k : IntKind} {a b : Int} (h : a = b) : Ending.returned (.int k a) = .returned (.int k b) := by rw [h]
theorem ret_bool {a b : Bool} (h : a = b) : Ending.returned (.bool a) = .returned (.bool b) := by rw [h]
end Go.Proofs.Ytflpikickbellaa
