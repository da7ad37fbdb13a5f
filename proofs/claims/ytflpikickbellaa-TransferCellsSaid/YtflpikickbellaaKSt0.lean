/- Layer 25: what is known of a kind. -/
import Derived.Test.YtflpikickbellaaKG3
namespace Go.Proofs.Ytflpikickbellaa
open Go.RowKit
set_option maxRecDepth 100000

/-- What is known of a kind. -/
structure Form where
  letter : ByteArray
  a0 : Int
  a1 : Int
  b0 : Int
  b1 : Int
  sided : Bool
  uses : Int
  made : Int
def Form.val (f : Form) : Value := .agg #[.string f.letter, .int .i64 f.a0, .int .i64 f.a1, .int .i64 f.b0, .int .i64 f.b1, .bool f.sided, .int .i64 f.uses, .int .i64 f.made]
def formT : List Form := [
  ⟨{ data := #[] }, 0, 0, 0, 0, true, 1, 1⟩,
  ⟨{ data := #[] }, 0, 0, 0, 0, false, 0, 1⟩,
  ⟨{ data := #[102] }, 2, 4, 0, 0, true, 2, 1⟩,
  ⟨{ data := #[108] }, 2, 4, 0, 0, true, 2, 1⟩,
  ⟨{ data := #[109] }, 2, 4, 0, 0, true, 1, 2⟩,
  ⟨{ data := #[120] }, 1, 6, 1, 6, true, 3, 3⟩,
  ⟨{ data := #[121] }, 1, 6, 1, 6, true, 3, 3⟩,
  ⟨{ data := #[115] }, 0, 0, 0, 0, true, 1, 1⟩,
  ⟨{ data := #[] }, 1, 200, 0, 0, false, 0, 2⟩,
  ⟨{ data := #[111] }, 1, 200, 0, 0, true, 2, 0⟩]
def form0 : Form := ⟨{ data := #[] }, 0, 0, 0, 0, false, 0, 0⟩
def formI (k : Int) : Form := if 1 ≤ k then formT.getD (k - 1).toNat form0 else form0
/-- The form lies at an address. -/
def FormAt (w : World) (b o : Nat) (f : Form) : Prop :=
  w.cell? ⟨b, o, none⟩ = some (.string f.letter) ∧ w.cell? ⟨b, o + 1, none⟩ = some (.int .i64 f.a0) ∧ w.cell? ⟨b, o + 2, none⟩ = some (.int .i64 f.a1) ∧ w.cell? ⟨b, o + 3, none⟩ = some (.int .i64 f.b0) ∧ w.cell? ⟨b, o + 4, none⟩ = some (.int .i64 f.b1) ∧
  w.cell? ⟨b, o + 5, none⟩ = some (.bool f.sided) ∧ w.cell? ⟨b, o + 6, none⟩ = some (.int .i64 f.uses) ∧ w.cell? ⟨b, o + 7, none⟩ = some (.int .i64 f.made)
theorem FormAt.stored {W : World} {b : Nat} {f g : Form} (h : FormAt W b 0 g) :
    FormAt ((((((((W.setCell ⟨b, 0, none⟩ (.string f.letter)).setCell ⟨b, 1, none⟩ (.int .i64 f.a0)).setCell ⟨b, 2, none⟩ (.int .i64 f.a1)).setCell ⟨b, 3, none⟩ (.int .i64 f.b0)).setCell ⟨b, 4, none⟩ (.int .i64 f.b1)).setCell ⟨b, 5, none⟩ (.bool f.sided)).setCell ⟨b, 6, none⟩ (.int .i64 f.uses)).setCell ⟨b, 7, none⟩ (.int .i64 f.made)) b 0 f := by
  obtain ⟨c0, c1, c2, c3, c4, c5, c6, c7⟩ := h
  simp only [Nat.zero_add] at c1 c2 c3 c4 c5 c6 c7
  unfold FormAt
  simp only [Nat.zero_add]
  refine ⟨?_, ?_, ?_, ?_, ?_, ?_, ?_, ?_⟩
  · iterate 7 refine set_other (by decide) ?_
    exact set_same c0
  · iterate 6 refine set_other (by decide) ?_
    exact set_same (set_other (by decide) c1)
  · iterate 5 refine set_other (by decide) ?_
    exact set_same (set_other (by decide) (set_other (by decide) c2))
  · iterate 4 refine set_other (by decide) ?_
    exact set_same (set_other (by decide) (set_other (by decide) (set_other (by decide) c3)))
  · iterate 3 refine set_other (by decide) ?_
    exact set_same (set_other (by decide) (set_other (by decide) (set_other (by decide) (set_other (by decide) c4))))
  · iterate 2 refine set_other (by decide) ?_
    exact set_same (set_other (by decide) (set_other (by decide) (set_other (by decide) (set_other (by decide) (set_other (by decide) c5)))))
  · refine set_other (by decide) ?_
    exact set_same (set_other (by decide) (set_other (by decide) (set_other (by decide) (set_other (by decide) (set_other (by decide) (set_other (by decide) c6))))))
  · exact set_same (set_other (by decide) (set_other (by decide) (set_other (by decide) (set_other (by decide) (set_other (by decide) (set_other (by decide) (set_other (by decide) c7)))))))
theorem form_close' {w W' : World} {tmps : Array Value} {f : Form} {b : Bool} {R : Ending → World → Prop} (hF : FormAt W' w.heap.size 0 f)
    (h2 : tmps[2]?.getD undef = .pointer (some ⟨w.heap.size, 0, none⟩)) (h3 : tmps[3]?.getD undef = .bool b) (hR : R (.returned (.tuple #[f.val, .bool b])) W') :
    bodyPost Try.prog Try.f87 R .ret { tmps := tmps, defers := [] } W' := by
  obtain ⟨c0, c1, c2, c3, c4, c5, c6, c7⟩ := hF
  simp only [Nat.zero_add] at c1 c2 c3 c4 c5 c6 c7
  refine bodyPost_ret (v := .tuple #[f.val, .bool b]) ?_ rfl hR
  simp [results, Try.results87, go_sem, h2, h3, c0, c1, c2, c3, c4, c5, c6, c7, Form.val]
theorem form_close {w W : World} {tmps : Array Value} {f g : Form} {b : Bool} {R : Ending → World → Prop} (hg : FormAt W w.heap.size 0 g) (hB : Below w.heap.size w W)
    (h2 : tmps[2]?.getD undef = .pointer (some ⟨w.heap.size, 0, none⟩)) (h3 : tmps[3]?.getD undef = .bool b) (hR : ∀ W', Below w.heap.size w W' → R (.returned (.tuple #[f.val, .bool b])) W') :
    bodyPost Try.prog Try.f87 R .ret { tmps := tmps, defers := [] }
      ((((((((W.setCell ⟨w.heap.size, 0, none⟩ (.string f.letter)).setCell ⟨w.heap.size, 1, none⟩ (.int .i64 f.a0)).setCell ⟨w.heap.size, 2, none⟩ (.int .i64 f.a1)).setCell ⟨w.heap.size, 3, none⟩ (.int .i64 f.b0)).setCell ⟨w.heap.size, 4, none⟩ (.int .i64 f.b1)).setCell ⟨w.heap.size, 5, none⟩ (.bool f.sided)).setCell ⟨w.heap.size, 6, none⟩ (.int .i64 f.uses)).setCell ⟨w.heap.size, 7, none⟩ (.int .i64 f.made)) := by
  have hb2 : Below w.heap.size w ((((((((W.setCell ⟨w.heap.size, 0, none⟩ (.string f.letter)).setCell ⟨w.heap.size, 1, none⟩ (.int .i64 f.a0)).setCell ⟨w.heap.size, 2, none⟩ (.int .i64 f.a1)).setCell ⟨w.heap.size, 3, none⟩ (.int .i64 f.b0)).setCell ⟨w.heap.size, 4, none⟩ (.int .i64 f.b1)).setCell ⟨w.heap.size, 5, none⟩ (.bool f.sided)).setCell ⟨w.heap.size, 6, none⟩ (.int .i64 f.uses)).setCell ⟨w.heap.size, 7, none⟩ (.int .i64 f.made)) := by
    exact ((((((((hB).setCell (p := ⟨w.heap.size, 0, none⟩) (Nat.le_refl _) (.string f.letter)).setCell (p := ⟨w.heap.size, 1, none⟩) (Nat.le_refl _) (.int .i64 f.a0)).setCell (p := ⟨w.heap.size, 2, none⟩) (Nat.le_refl _) (.int .i64 f.a1)).setCell (p := ⟨w.heap.size, 3, none⟩) (Nat.le_refl _) (.int .i64 f.b0)).setCell (p := ⟨w.heap.size, 4, none⟩) (Nat.le_refl _) (.int .i64 f.b1)).setCell (p := ⟨w.heap.size, 5, none⟩) (Nat.le_refl _) (.bool f.sided)).setCell (p := ⟨w.heap.size, 6, none⟩) (Nat.le_refl _) (.int .i64 f.uses)).setCell (p := ⟨w.heap.size, 7, none⟩) (Nat.le_refl _) (.int .i64 f.made)
  exact form_close' hg.stored h2 h3 (hR _ hb2)
end Go.Proofs.Ytflpikickbellaa
