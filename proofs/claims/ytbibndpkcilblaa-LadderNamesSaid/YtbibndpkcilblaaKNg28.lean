/- Layer 28: what a drawn region has made so far; its states as a graph. -/
import Derived.Test.YtbibndpkcilblaaKNc2
import Derived.Deep.RegionHeld3
namespace Go.Proofs.Ytbibndpkcilblaa
open Go.RowKit Go.Shelf Go.Sort
set_option maxRecDepth 100000

abbrev ngA : List Stc := [⟨1, false, 0, 0⟩, ⟨1, false, 0, 0⟩, ⟨1, false, 0, 0⟩]
abbrev ngB : List Stc := [⟨10, false, 1, 0⟩, ⟨1, false, 0, 0⟩, ⟨2, false, 0, 0⟩, ⟨1, false, 0, 0⟩]
abbrev slV (g n : Nat) : Value := .slice (some ⟨g, 0, none⟩) n n
structure Dg (W2 : World) (a b r c : Bool) (gA gB gR g : Nat) (W : World) : Prop where
  bel : Below W2.heap.size W2 W
  hA : a = true → Ls (pxS (slV gA 3) ngA) W ∧ gA < W.heap.size
  hB : b = true → Ls (pxS (slV gB 4) ngB) W ∧ gB < W.heap.size
  hR : r = true → Ls (rw2O gR (slV gA 3) (slV gB 4)) W ∧ gR < W.heap.size
  hC : c = true → Ls (bxT 24 g [.int .i64 0, .slice none 0 0]) W ∧ W2.heap.size ≤ g ∧ g < W.heap.size
  nA : c = true → a = true → gA ≠ g
  nB : c = true → b = true → gB ≠ g
  nR : c = true → r = true → gR ≠ g
theorem Dg.start (W2 : World) : Dg W2 false false false false 0 0 0 0 W2.drew :=
  ⟨Below.drew (Below.refl _ _), nofun, nofun, nofun, nofun, nofun, nofun, nofun⟩
theorem Dg.to {W2 : World} {a b r c : Bool} {gA gB gR g : Nat} {W W' : World} (h : Dg W2 a b r c gA gB gR g W) (hb : Below W.heap.size W W') : Dg W2 a b r c gA gB gR g W' :=
  ⟨h.bel.trans (hb.mono h.bel.size), fun e => ⟨(h.hA e).1.be hb, Nat.lt_of_lt_of_le (h.hA e).2 hb.size⟩, fun e => ⟨(h.hB e).1.be hb, Nat.lt_of_lt_of_le (h.hB e).2 hb.size⟩, fun e => ⟨(h.hR e).1.be hb, Nat.lt_of_lt_of_le (h.hR e).2 hb.size⟩, fun e => ⟨(h.hC e).1.be hb, (h.hC e).2.1, Nat.lt_of_lt_of_le (h.hC e).2.2 hb.size⟩, h.nA, h.nB, h.nR⟩
theorem Dg.mkA {W2 : World} {b c : Bool} {gA gB gR g : Nat} {W : World} {cs : Array Value} (h : Dg W2 false b false c gA gB gR g W) (e : cs = (ngA.map Stc.cells).flatten.toArray) : Dg W2 true b false c W.heap.size gB gR g (W.alloc (.cells cs 56)) := by
  have h1 := h.to (al_t' W (.cells cs 56))
  exact ⟨h1.bel, fun _ => ⟨Ls.newS e rfl (by decide) rfl, by simp⟩, h1.hB, (fun hr => by cases hr), h1.hC, (fun hc _ => by have := (h.hC hc).2.2; omega), h.nB, fun _ hr => (by cases hr)⟩
theorem Dg.mkB {W2 : World} {a c : Bool} {gA gB gR g : Nat} {W : World} {cs : Array Value} (h : Dg W2 a false false c gA gB gR g W) (e : cs = (ngB.map Stc.cells).flatten.toArray) : Dg W2 a true false c gA W.heap.size gR g (W.alloc (.cells cs 56)) := by
  have h1 := h.to (al_t' W (.cells cs 56))
  exact ⟨h1.bel, h1.hA, fun _ => ⟨Ls.newS e rfl (by decide) rfl, by simp⟩, (fun hr => by cases hr), h1.hC, h.nA, (fun hc _ => by have := (h.hC hc).2.2; omega), fun _ hr => (by cases hr)⟩
theorem Dg.mkR {W2 : World} {c : Bool} {gA gB gR g : Nat} {W : World} (h : Dg W2 true true false c gA gB gR g W) : Dg W2 true true true c gA gB W.heap.size g (W.alloc (.cells #[.bool false, slV gA 3, .bool false, slV gB 4] 59)) := by
  have h1 := h.to (al_t' W (.cells #[.bool false, slV gA 3, .bool false, slV gB 4] 59))
  exact ⟨h1.bel, h1.hA, h1.hB, fun _ => ⟨Ls.newR rfl, by simp⟩, h1.hC, h.nA, h.nB, (fun hc _ => by have := (h.hC hc).2.2; omega)⟩
theorem Dg.mkC {W2 : World} {a b r : Bool} {gA gB gR g : Nat} {W : World} (h : Dg W2 a b r false gA gB gR g W) : Dg W2 a b r true gA gB gR W.heap.size (W.alloc (.cells #[.int .i64 0, .slice none 0 0] 24)) := by
  have h1 := h.to (al_t' W (.cells #[.int .i64 0, .slice none 0 0] 24))
  exact ⟨h1.bel, h1.hA, h1.hB, h1.hR, fun _ => ⟨Ls.newC rfl rfl, h.bel.size, by simp⟩, (fun _ ha => by have := (h.hA ha).2; omega), (fun _ hb => by have := (h.hB hb).2; omega), (fun _ hr => by have := (h.hR hr).2; omega)⟩
theorem Dg.cells {W2 : World} {a b r : Bool} {gA gB gR g : Nat} {W : World} (h : Dg W2 a b r true gA gB gR g W) : W.cell? ⟨g, 0, none⟩ = some (.int .i64 0) ∧ W.cell? ⟨g, 1, none⟩ = some (.slice none 0 0) ∧ W.frozen? ⟨g, 0, none⟩ = false ∧ W.frozen? ⟨g, 1, none⟩ = false := by
  obtain ⟨t, f, -, -⟩ := bxT_at (h.hC rfl).1
  exact ⟨t 0 _ rfl, t 1 _ rfl, f 0, f 1⟩
theorem Dg.belS {W2 : World} {a b r : Bool} {gA gB gR g : Nat} {W : World} (h : Dg W2 a b r true gA gB gR g W) (x y : Value) : Below W2.heap.size W2 ((W.setCell ⟨g, 0, none⟩ x).setCell ⟨g, 1, none⟩ y) :=
  (h.bel.setCell (p := ⟨g, 0, none⟩) (h.hC rfl).2.1 x).setCell (p := ⟨g, 1, none⟩) (h.hC rfl).2.1 y
theorem Dg.fin {w W2 : World} {gA gB gR g : Nat} {W : World} (h : Dg W2 true true true true gA gB gR g W) (hw : Below w.heap.size w W2) : ∃ (gb' c2 : Nat) (A2 : Option Addr), Value.pointer (some ⟨g, 0, none⟩) = .pointer (some ⟨gb', 0, none⟩) ∧ Hid (RfF 3 A2 c2 yP gb' w ((W.setCell ⟨g, 0, none⟩ (.int .i64 3)).setCell ⟨g, 1, none⟩ (slV gR 2))) := by
  have nA := h.nA rfl rfl
  have nB := h.nB rfl rfl
  have nR := h.nR rfl rfl
  refine Ls.finE (g1 := gA) (g2 := gB) (Ls.setC2 (h.hC rfl).1) (Ls.set (Ls.set (h.hR rfl).1 ?_ _ _) ?_ _ _) (Ls.set (Ls.set (h.hA rfl).1 ?_ _ _) ?_ _ _) (Ls.set (Ls.set (h.hB rfl).1 ?_ _ _) ?_ _ _) (hw.trans ((h.belS _ _).mono hw.size))
  all_goals (intro e; simp [Value.ownBlock, pxS, rw2O] at e; omega)
/-! The region's states: F says that the rest of the region goes well. -/
abbrev FmT := Nat → Array Bool → Value → Value → Value → Value → Value → Value → Value → World → Prop
theorem Fm.start {P : Program} {md : Region.Mode} {ops : Array Oper} {Q : Exit → Act → World → Prop} {S : World → Prop} {mk : Value → Value → Value → Value → Value → Value → Value → Act} {n : Nat} {l l0 : Array Bool} {x9 x85 x86 x91 x92 x93 x94 : Value} {W : World} (hl : l0 = l)
    (h : ∀ F : FmT, (∀ n l l0 x9 x85 x86 x91 x92 x93 x94 W, l0 = l → F n l x9 x85 x86 x91 x92 x93 x94 W → wpAnyH P md ops Q S n l0 (mk x9 x85 x86 x91 x92 x93 x94) W) → (∀ n l x9 x85 x86 x91 x92 x93 x94 W, wpAnyH P md ops Q S n l (mk x9 x85 x86 x91 x92 x93 x94) W → F n l x9 x85 x86 x91 x92 x93 x94 W) → F n l x9 x85 x86 x91 x92 x93 x94 W) : wpAnyH P md ops Q S n l0 (mk x9 x85 x86 x91 x92 x93 x94) W := by
  subst hl
  exact h (fun n l x9 x85 x86 x91 x92 x93 x94 W => wpAnyH P md ops Q S n l (mk x9 x85 x86 x91 x92 x93 x94) W) (fun n l l0 x9 x85 x86 x91 x92 x93 x94 W e h => by subst e; exact h) (fun n l x9 x85 x86 x91 x92 x93 x94 W h => h)
end Go.Proofs.Ytbibndpkcilblaa
