/- Small facts on memory (as in XSt0, XSt2, XTurn3, for seats without stitches). Rows that a call owns, pairwise in blocks of their own: each is turned by itself. Layer 25: what is known of a kind. -/
import Derived.Test.YtflpikickbellaaGreatKQ0
import Derived.Deep.Onto
import Derived.Deep.AppendLies
namespace Go.Proofs.YtflpikickbellaaGreat
open Go.RowKit
set_option maxRecDepth 100000

/-- A walk goes on in a world of which only some facts are kept. -/
theorem abs_world {Q F : World → Prop} (w0 : World) (h : F w0) (hr : ∀ W, F W → Q W) : Q w0 := hr w0 h
theorem cell_old {W w1 : World} {cs : Array Value} {t : TypeId} {b o : Nat} {v : Value} (e : w1 = W.alloc (.cells cs t)) (h : W.cell? ⟨b, o, none⟩ = some v) : w1.cell? ⟨b, o, none⟩ = some v := by
  rw [e]
  have hb : b < W.heap.size := by
    unfold World.cell? at h
    cases ho : W.heap[b]? with
    | none => simp [ho] at h
    | some o => exact (Array.getElem?_eq_some_iff.1 ho).1
  exact (bcell (B := W.heap.size) ((Below.refl _ _).alloc (Nat.le_refl _) _) hb _).trans h
theorem cell_new {W w1 : World} {cs : Array Value} {t : TypeId} {b o : Nat} {v : Value} (e : w1 = W.alloc (.cells cs t)) (hb : b = W.heap.size) (h : cs[o]? = some v) : w1.cell? ⟨b, o, none⟩ = some v := by
  subst e hb
  have e : (W.alloc (.cells cs t)).heap[W.heap.size]? = some (.cells cs t) := Array.getElem?_push_size
  simp only [World.cell?, e]
  exact h
theorem thawed_new' (w : World) (cs : Array Value) (t : TypeId) (k : Nat) {b : Nat} (hb : b = w.heap.size) : (w.alloc (.cells cs t)).frozen? ⟨b, k, none⟩ = false := by
  subst hb
  have e : (w.alloc (.cells cs t)).heap[w.heap.size]? = some (.cells cs t) := Array.getElem?_push_size
  simp only [World.frozen?, e]
  simp
  try omega
theorem set_other {w : World} {b o o' : Nat} {v u : Value} (hne : o ≠ o') (h : w.cell? ⟨b, o', none⟩ = some u) : (w.setCell ⟨b, o, none⟩ v).cell? ⟨b, o', none⟩ = some u := by
  have e : (⟨b, o, none⟩ : Addr) ≠ ⟨b, o', none⟩ := fun e => hne (Addr.mk.inj e).2.1
  exact (World.cell?_setCell_other _ _ _ _ e).trans h
theorem set_same {w : World} {b o : Nat} {v u : Value} (h : w.cell? ⟨b, o, none⟩ = some u) : (w.setCell ⟨b, o, none⟩ v).cell? ⟨b, o, none⟩ = some v := World.cell?_setCell_same' w _ v (by rw [h]; rfl)
theorem lt_of_cell {w : World} {b o : Nat} {v : Value} (h : w.cell? ⟨b, o, none⟩ = some v) : b < w.heap.size := by
  unfold World.cell? at h
  cases ho : w.heap[b]? with
  | none => simp [ho] at h
  | some o => exact (Array.getElem?_eq_some_iff.1 ho).1
theorem cell_al {W : World} {b o : Nat} {v : Value} (h : W.cell? ⟨b, o, none⟩ = some v) (x : Obj) : (W.alloc x).cell? ⟨b, o, none⟩ = some v := (bcell ((Below.refl _ W).alloc (Nat.le_refl _) x) (lt_of_cell h) _).trans h
theorem newsT (W : World) (cs : Array Value) (t : TypeId) (b : Nat) (hb : b = W.heap.size) : ∀ (j : Nat) (u : Value), cs.toList[j]? = some u → (W.alloc (.cells cs t)).cell? ((⟨b, 0, none⟩ : Addr).add j) = some u := fun j u h => by
  subst hb
  rw [show (⟨W.heap.size, 0, none⟩ : Addr).add j = ⟨W.heap.size, j, none⟩ by unfold Addr.add; split <;> simp_all]
  exact cell_new rfl rfl (by simpa using h)
theorem grown_setAt (W : World) (b o : Nat) (v : Value) : W.grownBy (W.setCell ⟨b, o, none⟩ v) (some b) :=
  ⟨rfl, rfl, rfl, by simp [World.setCell], fun k _ hk => Below.heap_setCell W ⟨b, o, none⟩ v k (fun e => hk (by rw [e]))⟩
end Go.Proofs.YtflpikickbellaaGreat
namespace Go.Proofs.YtflpikickbellaaGreat
open Go.RowKit Go.Shelf
set_option maxRecDepth 100000

/-- A row of memory: the slice v holds n elements of sz cells, the cells xs. -/
structure Own where
  e : TypeId
  sz : Nat
  n : Nat
  v : Value
  xs : List Value
def Own.lies (o : Own) (w : World) (B : Nat) : Prop := w.ownsRow B o.e o.sz o.v o.n o.xs
def apart (a b : Own) : Prop := ∀ k, a.v.ownBlock = some k → b.v.ownBlock ≠ some k
theorem apart_symm {a b : Own} (h : apart a b) : apart b a := fun k hb ha => h k ha hb
structure Owns (w : World) (B : Nat) (L : List Own) : Prop where
  all : ∀ o ∈ L, o.lies w B
  apart : L.Pairwise apart
theorem Owns.nil {w : World} {B : Nat} : Owns w B [] := ⟨fun _ h => absurd h List.not_mem_nil, List.Pairwise.nil⟩
theorem Owns.perm {w : World} {B : Nat} {L L' : List Own} (h : Owns w B L) (p : L.Perm L') : Owns w B L' :=
  ⟨fun o ho => h.all o (p.mem_iff.2 ho), (p.pairwise_iff (fun h => apart_symm h)).1 h.apart⟩
theorem Owns.sub {w : World} {B : Nat} {L L' : List Own} (h : Owns w B L) (s : L'.Sublist L) : Owns w B L' :=
  ⟨fun o ho => h.all o (s.subset ho), h.apart.sublist s⟩
theorem Owns.tail {w : World} {B : Nat} {o : Own} {L : List Own} (h : Owns w B (o :: L)) : Owns w B L := h.sub (List.sublist_cons_self _ _)
theorem Owns.head {w : World} {B : Nat} {o : Own} {L : List Own} (h : Owns w B (o :: L)) : o.lies w B := h.all o List.mem_cons_self
theorem Owns.to {w w' : World} {B : Nat} {L : List Own} (h : Owns w B L) (hb : Below w.heap.size w w') : Owns w' B L :=
  ⟨fun o ho => own_below (h.all o ho) hb (Nat.le_refl _), h.apart⟩
/-- One row is turned, into a row in the same block or in a new one. -/
theorem Owns.turn {w w' : World} {B : Nat} {o o' : Own} {L : List Own} (h : Owns w B (o :: L)) (hg : w.grownBy w' o.v.ownBlock) (ho : o'.lies w' B)
    (hn : ∀ k, o'.v.ownBlock = some k → o.v.ownBlock = some k ∨ w.heap.size ≤ k) : Owns w' B (o' :: L) := by
  have hp := List.pairwise_cons.1 h.apart
  refine ⟨fun x hx => ?_, List.pairwise_cons.2 ⟨fun x hx k hk => ?_, hp.2⟩⟩
  · rcases List.mem_cons.1 hx with rfl | hx
    · exact ho
    · refine World.ownsRow.kept (h.all x (List.mem_cons_of_mem _ hx)) hg ?_
      cases e : x.v.ownBlock with
      | none => exact Or.inl rfl
      | some k => exact Or.inr fun e2 => hp.1 x hx k e2.symm e
  · rcases hn k hk with h1 | h1
    · exact hp.1 x hx k h1
    · intro e
      have := (World.ownsRow.lt (h.all x (List.mem_cons_of_mem _ hx)) k e).2
      omega
/-- A row is made anew. -/
theorem Owns.add {w w' : World} {B : Nat} {o : Own} {L : List Own} (h : Owns w B L) (hb : Below w.heap.size w w') (hB : B ≤ w.heap.size) (ho : o.lies w' w.heap.size) : Owns w' B (o :: L) := by
  refine ⟨fun x hx => ?_, List.pairwise_cons.2 ⟨fun x hx k hk e => ?_, (h.to hb).apart⟩⟩
  · rcases List.mem_cons.1 hx with rfl | hx
    · exact World.ownsRow.mono ho hB
    · exact (h.to hb).all x hx
  · have h1 := (World.ownsRow.lt ho k hk).1
    have h2 := (World.ownsRow.lt (h.all x hx) k e).2
    omega
theorem Owns.swap {w : World} {B : Nat} {a b : Own} {L : List Own} (h : Owns w B (a :: b :: L)) : Owns w B (b :: a :: L) := h.perm (List.Perm.swap ..)
/-- A row that is nil. -/
theorem Owns.none {w : World} {B : Nat} {L : List Own} (h : Owns w B L) (e : TypeId) (sz : Nat) : Owns w B (⟨e, sz, 0, .slice none 0 0, []⟩ :: L) :=
  ⟨fun x hx => by
    rcases List.mem_cons.1 hx with rfl | hx
    · exact World.ownsRow_nil ..
    · exact h.all x hx, List.pairwise_cons.2 ⟨fun x _ k hk => by simp [Value.ownBlock] at hk, h.apart⟩⟩
theorem Below.of_grown {w w' : World} {B : Nat} {row : Option Nat} (hg : w.grownBy w' row) (hB : B ≤ w.heap.size) (hr : ∀ k, row = some k → B ≤ k) : Below B w w' := (Below.refl B w).grown hg hB hr
theorem grown_trans {w w' w'' : World} {row : Option Nat} (h : w.grownBy w' row) (h' : w'.grownBy w'' row) : w.grownBy w'' row :=
  ⟨h'.os.trans h.os, h'.tape.trans h.tape, h'.output.trans h.output, Nat.le_trans h.size h'.size, fun k hk hn => (h'.block k (Nat.lt_of_lt_of_le hk h.size) hn).trans (h.block k hk hn)⟩
theorem grown_below {w w' : World} {row : Option Nat} (h : Below w.heap.size w w') : w.grownBy w' row := ⟨h.os, h.tape, h.output, h.size, fun k hk _ => h.block k hk⟩
end Go.Proofs.YtflpikickbellaaGreat
namespace Go.Proofs.YtflpikickbellaaGreat
open Go.RowKit
set_option maxRecDepth 100000

/-- What is known of a kind. -/
structure Form where
  letter : ByteArray
  a0 : Int
  a1 : Int
  b0 : Int
  b1 : Int
  sided : Bool
  uses : Int
  made : Int
def Form.val (f : Form) : Value := .agg #[.string f.letter, .int .i64 f.a0, .int .i64 f.a1, .int .i64 f.b0, .int .i64 f.b1, .bool f.sided, .int .i64 f.uses, .int .i64 f.made]
def formT : List Form := [
  ⟨{ data := #[] }, 0, 0, 0, 0, true, 1, 1⟩,
  ⟨{ data := #[] }, 0, 0, 0, 0, false, 0, 1⟩,
  ⟨{ data := #[102] }, 2, 4, 0, 0, true, 2, 1⟩,
  ⟨{ data := #[108] }, 2, 4, 0, 0, true, 2, 1⟩,
  ⟨{ data := #[109] }, 2, 4, 0, 0, true, 1, 2⟩,
  ⟨{ data := #[120] }, 1, 6, 1, 6, true, 3, 3⟩,
  ⟨{ data := #[121] }, 1, 6, 1, 6, true, 3, 3⟩,
  ⟨{ data := #[115] }, 0, 0, 0, 0, true, 1, 1⟩,
  ⟨{ data := #[] }, 1, 200, 0, 0, false, 0, 2⟩,
  ⟨{ data := #[111] }, 1, 200, 0, 0, true, 2, 0⟩]
def form0 : Form := ⟨{ data := #[] }, 0, 0, 0, 0, false, 0, 0⟩
def formI (k : Int) : Form := if 1 ≤ k then formT.getD (k - 1).toNat form0 else form0
/-- The form lies at an address. -/
def FormAt (w : World) (b o : Nat) (f : Form) : Prop :=
  w.cell? ⟨b, o, none⟩ = some (.string f.letter) ∧ w.cell? ⟨b, o + 1, none⟩ = some (.int .i64 f.a0) ∧ w.cell? ⟨b, o + 2, none⟩ = some (.int .i64 f.a1) ∧ w.cell? ⟨b, o + 3, none⟩ = some (.int .i64 f.b0) ∧ w.cell? ⟨b, o + 4, none⟩ = some (.int .i64 f.b1) ∧
  w.cell? ⟨b, o + 5, none⟩ = some (.bool f.sided) ∧ w.cell? ⟨b, o + 6, none⟩ = some (.int .i64 f.uses) ∧ w.cell? ⟨b, o + 7, none⟩ = some (.int .i64 f.made)
theorem FormAt.stored {W : World} {b : Nat} {f g : Form} (h : FormAt W b 0 g) :
    FormAt ((((((((W.setCell ⟨b, 0, none⟩ (.string f.letter)).setCell ⟨b, 1, none⟩ (.int .i64 f.a0)).setCell ⟨b, 2, none⟩ (.int .i64 f.a1)).setCell ⟨b, 3, none⟩ (.int .i64 f.b0)).setCell ⟨b, 4, none⟩ (.int .i64 f.b1)).setCell ⟨b, 5, none⟩ (.bool f.sided)).setCell ⟨b, 6, none⟩ (.int .i64 f.uses)).setCell ⟨b, 7, none⟩ (.int .i64 f.made)) b 0 f := by
  obtain ⟨c0, c1, c2, c3, c4, c5, c6, c7⟩ := h
  simp only [Nat.zero_add] at c1 c2 c3 c4 c5 c6 c7
  unfold FormAt
  simp only [Nat.zero_add]
  refine ⟨?_, ?_, ?_, ?_, ?_, ?_, ?_, ?_⟩
  · iterate 7 refine set_other (by decide) ?_
    exact set_same c0
  · iterate 6 refine set_other (by decide) ?_
    exact set_same (set_other (by decide) c1)
  · iterate 5 refine set_other (by decide) ?_
    exact set_same (set_other (by decide) (set_other (by decide) c2))
  · iterate 4 refine set_other (by decide) ?_
    exact set_same (set_other (by decide) (set_other (by decide) (set_other (by decide) c3)))
  · iterate 3 refine set_other (by decide) ?_
    exact set_same (set_other (by decide) (set_other (by decide) (set_other (by decide) (set_other (by decide) c4))))
  · iterate 2 refine set_other (by decide) ?_
    exact set_same (set_other (by decide) (set_other (by decide) (set_other (by decide) (set_other (by decide) (set_other (by decide) c5)))))
  · refine set_other (by decide) ?_
    exact set_same (set_other (by decide) (set_other (by decide) (set_other (by decide) (set_other (by decide) (set_other (by decide) (set_other (by decide) c6))))))
  · exact set_same (set_other (by decide) (set_other (by decide) (set_other (by decide) (set_other (by decide) (set_other (by decide) (set_other (by decide) (set_other (by decide) c7)))))))
theorem form_close' {w W' : World} {tmps : Array Value} {f : Form} {b : Bool} {R : Ending → World → Prop} (hF : FormAt W' w.heap.size 0 f)
    (h2 : tmps[2]?.getD undef = .pointer (some ⟨w.heap.size, 0, none⟩)) (h3 : tmps[3]?.getD undef = .bool b) (hR : R (.returned (.tuple #[f.val, .bool b])) W') :
    bodyPost Tryz.prog Tryz.f111 R .ret { tmps := tmps, defers := [] } W' := by
  obtain ⟨c0, c1, c2, c3, c4, c5, c6, c7⟩ := hF
  simp only [Nat.zero_add] at c1 c2 c3 c4 c5 c6 c7
  refine bodyPost_ret (v := .tuple #[f.val, .bool b]) ?_ rfl hR
  simp [results, Tryz.results111, go_sem, h2, h3, c0, c1, c2, c3, c4, c5, c6, c7, Form.val]
theorem form_close {w W : World} {tmps : Array Value} {f g : Form} {b : Bool} {R : Ending → World → Prop} (hg : FormAt W w.heap.size 0 g) (hB : Below w.heap.size w W)
    (h2 : tmps[2]?.getD undef = .pointer (some ⟨w.heap.size, 0, none⟩)) (h3 : tmps[3]?.getD undef = .bool b) (hR : ∀ W', Below w.heap.size w W' → R (.returned (.tuple #[f.val, .bool b])) W') :
    bodyPost Tryz.prog Tryz.f111 R .ret { tmps := tmps, defers := [] }
      ((((((((W.setCell ⟨w.heap.size, 0, none⟩ (.string f.letter)).setCell ⟨w.heap.size, 1, none⟩ (.int .i64 f.a0)).setCell ⟨w.heap.size, 2, none⟩ (.int .i64 f.a1)).setCell ⟨w.heap.size, 3, none⟩ (.int .i64 f.b0)).setCell ⟨w.heap.size, 4, none⟩ (.int .i64 f.b1)).setCell ⟨w.heap.size, 5, none⟩ (.bool f.sided)).setCell ⟨w.heap.size, 6, none⟩ (.int .i64 f.uses)).setCell ⟨w.heap.size, 7, none⟩ (.int .i64 f.made)) := by
  have hb2 : Below w.heap.size w ((((((((W.setCell ⟨w.heap.size, 0, none⟩ (.string f.letter)).setCell ⟨w.heap.size, 1, none⟩ (.int .i64 f.a0)).setCell ⟨w.heap.size, 2, none⟩ (.int .i64 f.a1)).setCell ⟨w.heap.size, 3, none⟩ (.int .i64 f.b0)).setCell ⟨w.heap.size, 4, none⟩ (.int .i64 f.b1)).setCell ⟨w.heap.size, 5, none⟩ (.bool f.sided)).setCell ⟨w.heap.size, 6, none⟩ (.int .i64 f.uses)).setCell ⟨w.heap.size, 7, none⟩ (.int .i64 f.made)) := by
    exact ((((((((hB).setCell (p := ⟨w.heap.size, 0, none⟩) (Nat.le_refl _) (.string f.letter)).setCell (p := ⟨w.heap.size, 1, none⟩) (Nat.le_refl _) (.int .i64 f.a0)).setCell (p := ⟨w.heap.size, 2, none⟩) (Nat.le_refl _) (.int .i64 f.a1)).setCell (p := ⟨w.heap.size, 3, none⟩) (Nat.le_refl _) (.int .i64 f.b0)).setCell (p := ⟨w.heap.size, 4, none⟩) (Nat.le_refl _) (.int .i64 f.b1)).setCell (p := ⟨w.heap.size, 5, none⟩) (Nat.le_refl _) (.bool f.sided)).setCell (p := ⟨w.heap.size, 6, none⟩) (Nat.le_refl _) (.int .i64 f.uses)).setCell (p := ⟨w.heap.size, 7, none⟩) (Nat.le_refl _) (.int .i64 f.made)
  exact form_close' hg.stored h2 h3 (hR _ hb2)
end Go.Proofs.YtflpikickbellaaGreat
