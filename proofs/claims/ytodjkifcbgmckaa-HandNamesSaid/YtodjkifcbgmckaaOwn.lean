/- Rows that a call owns, pairwise in blocks of their own: each is turned by itself. -/
import Derived.Test.YtodjkifcbgmckaaMem
import Derived.Deep.Onto
import Derived.Deep.AppendLies
namespace Go.Proofs.Ytodjkifcbgmckaa
open Go.RowKit Go.Shelf
set_option maxRecDepth 100000

/-- A row of memory: the slice v holds n elements of sz cells, the cells xs. -/
structure Own where
  e : TypeId
  sz : Nat
  n : Nat
  v : Value
  xs : List Value
def Own.lies (o : Own) (w : World) (B : Nat) : Prop := w.ownsRow B o.e o.sz o.v o.n o.xs
def apart (a b : Own) : Prop := ∀ k, a.v.ownBlock = some k → b.v.ownBlock ≠ some k
theorem apart_symm {a b : Own} (h : apart a b) : apart b a := fun k hb ha => h k ha hb
structure Owns (w : World) (B : Nat) (L : List Own) : Prop where
  all : ∀ o ∈ L, o.lies w B
  apart : L.Pairwise apart
theorem Owns.nil {w : World} {B : Nat} : Owns w B [] := ⟨fun _ h => absurd h List.not_mem_nil, List.Pairwise.nil⟩
theorem Owns.perm {w : World} {B : Nat} {L L' : List Own} (h : Owns w B L) (p : L.Perm L') : Owns w B L' :=
  ⟨fun o ho => h.all o (p.mem_iff.2 ho), (p.pairwise_iff (fun h => apart_symm h)).1 h.apart⟩
theorem Owns.sub {w : World} {B : Nat} {L L' : List Own} (h : Owns w B L) (s : L'.Sublist L) : Owns w B L' :=
  ⟨fun o ho => h.all o (s.subset ho), h.apart.sublist s⟩
theorem Owns.tail {w : World} {B : Nat} {o : Own} {L : List Own} (h : Owns w B (o :: L)) : Owns w B L := h.sub (List.sublist_cons_self _ _)
theorem Owns.head {w : World} {B : Nat} {o : Own} {L : List Own} (h : Owns w B (o :: L)) : o.lies w B := h.all o List.mem_cons_self
theorem Owns.to {w w' : World} {B : Nat} {L : List Own} (h : Owns w B L) (hb : Below w.heap.size w w') : Owns w' B L :=
  ⟨fun o ho => own_below (h.all o ho) hb (Nat.le_refl _), h.apart⟩
/-- One row is turned, into a row in the same block or in a new one. -/
theorem Owns.turn {w w' : World} {B : Nat} {o o' : Own} {L : List Own} (h : Owns w B (o :: L)) (hg : w.grownBy w' o.v.ownBlock) (ho : o'.lies w' B)
    (hn : ∀ k, o'.v.ownBlock = some k → o.v.ownBlock = some k ∨ w.heap.size ≤ k) : Owns w' B (o' :: L) := by
  have hp := List.pairwise_cons.1 h.apart
  refine ⟨fun x hx => ?_, List.pairwise_cons.2 ⟨fun x hx k hk => ?_, hp.2⟩⟩
  · rcases List.mem_cons.1 hx with rfl | hx
    · exact ho
    · refine World.ownsRow.kept (h.all x (List.mem_cons_of_mem _ hx)) hg ?_
      cases e : x.v.ownBlock with
      | none => exact Or.inl rfl
      | some k => exact Or.inr fun e2 => hp.1 x hx k e2.symm e
  · rcases hn k hk with h1 | h1
    · exact hp.1 x hx k h1
    · intro e
      have := (World.ownsRow.lt (h.all x (List.mem_cons_of_mem _ hx)) k e).2
      omega
/-- A row is made anew. -/
theorem Owns.add {w w' : World} {B : Nat} {o : Own} {L : List Own} (h : Owns w B L) (hb : Below w.heap.size w w') (hB : B ≤ w.heap.size) (ho : o.lies w' w.heap.size) : Owns w' B (o :: L) := by
  refine ⟨fun x hx => ?_, List.pairwise_cons.2 ⟨fun x hx k hk e => ?_, (h.to hb).apart⟩⟩
  · rcases List.mem_cons.1 hx with rfl | hx
    · exact World.ownsRow.mono ho hB
    · exact (h.to hb).all x hx
  · have h1 := (World.ownsRow.lt ho k hk).1
    have h2 := (World.ownsRow.lt (h.all x hx) k e).2
    omega
theorem Owns.swap {w : World} {B : Nat} {a b : Own} {L : List Own} (h : Owns w B (a :: b :: L)) : Owns w B (b :: a :: L) := h.perm (List.Perm.swap ..)
/-- A row that is nil. -/
theorem Owns.none {w : World} {B : Nat} {L : List Own} (h : Owns w B L) (e : TypeId) (sz : Nat) : Owns w B (⟨e, sz, 0, .slice none 0 0, []⟩ :: L) :=
  ⟨fun x hx => by
    rcases List.mem_cons.1 hx with rfl | hx
    · exact World.ownsRow_nil ..
    · exact h.all x hx, List.pairwise_cons.2 ⟨fun x _ k hk => by simp [Value.ownBlock] at hk, h.apart⟩⟩
theorem Below.of_grown {w w' : World} {B : Nat} {row : Option Nat} (hg : w.grownBy w' row) (hB : B ≤ w.heap.size) (hr : ∀ k, row = some k → B ≤ k) : Below B w w' := (Below.refl B w).grown hg hB hr
theorem grown_trans {w w' w'' : World} {row : Option Nat} (h : w.grownBy w' row) (h' : w'.grownBy w'' row) : w.grownBy w'' row :=
  ⟨h'.os.trans h.os, h'.tape.trans h.tape, h'.output.trans h.output, Nat.le_trans h.size h'.size, fun k hk hn => (h'.block k (Nat.lt_of_lt_of_le hk h.size) hn).trans (h.block k hk hn)⟩
theorem grown_below {w w' : World} {row : Option Nat} (h : Below w.heap.size w w') : w.grownBy w' row := ⟨h.os, h.tape, h.output, h.size, fun k hk _ => h.block k hk⟩
end Go.Proofs.Ytodjkifcbgmckaa
