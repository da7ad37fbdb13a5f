/- Layer 28: rows that a drawn region makes. -/
import Derived.Test.YtbibndpkcilblaaKNa2
namespace Go.Proofs.Ytbibndpkcilblaa
open Go.RowKit Go.Shelf Go.Sort
set_option maxRecDepth 100000

/-- Something lies in a world. -/
def Ls (o : Own) (W : World) : Prop := o.lies W 0
theorem Ls.al {o : Own} {W : World} (h : Ls o W) (x : Obj) : Ls o (W.alloc x) := own_below h (al_t' W x) (Nat.le_refl _)
theorem Ls.dr {o : Own} {W : World} (h : Ls o W) : Ls o W.drew := h
theorem Ls.be {o : Own} {W W' : World} (h : Ls o W) (hb : Below W.heap.size W W') : Ls o W' := own_below h hb (Nat.le_refl _)
theorem Ls.set {o : Own} {W : World} (h : Ls o W) {b : Nat} (hne : o.v.ownBlock ≠ some b) (k : Nat) (v : Value) : Ls o (W.setCell ⟨b, k, none⟩ v) := World.ownsRow.kept h (grown_setAt W b k v) (Or.inr hne)
theorem Ls.newC {W : World} {vals : List Value} {cs : Array Value} {g : Nat} (h : cs = vals.toArray) (hg : W.heap.size = g) : Ls (bxT 24 g vals) (W.alloc (.cells cs 24)) := by
  subst h
  subst hg
  exact own_more (bxT_new W 24 vals) (Nat.zero_le _)
theorem Ls.setC {W : World} {g : Nat} {vals : List Value} (h : Ls (bxT 24 g vals) W) (k : Nat) (y : Value) : Ls (bxT 24 g (vals.set k y)) (W.setCell ⟨g, k, none⟩ y) :=
  (bxT_set (L := []) ⟨fun o ho => by rw [List.mem_singleton.1 ho]; exact h, List.pairwise_singleton _ _⟩ k y).head
theorem Ls.setC2 {W : World} {g : Nat} {a b x y : Value} (h : Ls (bxT 24 g [a, b]) W) : Ls (bxT 24 g [x, y]) ((W.setCell ⟨g, 0, none⟩ x).setCell ⟨g, 1, none⟩ y) := Ls.setC (Ls.setC h 0 x) 1 y
theorem Ls.newS {W : World} {l : List Stc} {n g : Nat} {cs : Array Value} (h : cs = (l.map Stc.cells).flatten.toArray) (hn : n = l.length) (hl : n ≤ 100000) (hg : W.heap.size = g) : Ls (pxS (.slice (some ⟨g, 0, none⟩) n n) l) (W.alloc (.cells cs 56)) := by
  subst hg
  exact own_more (lit_pxS W l n cs h hn hl) (Nat.zero_le _)
/-- Two rows in a literal. -/
def rw2O (g : Nat) (v1 v2 : Value) : Own := ⟨59, 2, 2, .slice (some ⟨g, 0, none⟩) 2 2, [.bool false, v1, .bool false, v2]⟩
theorem Ls.newR {W : World} {g : Nat} {v1 v2 : Value} (hg : W.heap.size = g) : Ls (rw2O g v1 v2) (W.alloc (.cells #[.bool false, v1, .bool false, v2] 59)) := by
  subst hg
  have e : (W.alloc (.cells #[.bool false, v1, .bool false, v2] 59)).heap[W.heap.size]? = some (.cells #[.bool false, v1, .bool false, v2] 59 (0, 0)) := Array.getElem?_push_size
  exact own_of_whole (B := 0) (n := 2) (c := 2) (sz := 2) e (Nat.zero_le _) (Nat.le_refl _) (by unfold maxLen; omega) rfl
theorem Ls.fin {w W : World} {gb rg g1 g2 : Nat} (hc : Ls (bxT 24 gb [.int .i64 3, .slice (some ⟨rg, 0, none⟩) 2 2]) W) (hr : Ls (rw2O rg (.slice (some ⟨g1, 0, none⟩) 3 3) (.slice (some ⟨g2, 0, none⟩) 4 4)) W)
    (h1 : Ls (pxS (.slice (some ⟨g1, 0, none⟩) 3 3) [⟨1, false, 0, 0⟩, ⟨1, false, 0, 0⟩, ⟨1, false, 0, 0⟩]) W) (h2 : Ls (pxS (.slice (some ⟨g2, 0, none⟩) 4 4) [⟨10, false, 1, 0⟩, ⟨1, false, 0, 0⟩, ⟨2, false, 0, 0⟩, ⟨1, false, 0, 0⟩]) W) (hb : Below w.heap.size w W) :
    RfF 3 (some ⟨rg, 0, none⟩) 2 yP gb w W := by
  obtain ⟨t, -, -, -⟩ := bxT_at hc
  refine ⟨t 0 _ rfl, t 1 _ rfl, fun _ => ?_, hb⟩
  have h0 : W.ownsRow 0 59 2 (.slice (some ⟨rg, 0, none⟩) 2 2) 2 [.bool false, .slice (some ⟨g1, 0, none⟩) 3 3, .bool false, .slice (some ⟨g2, 0, none⟩) 4 4] := hr
  have g0 : ∀ (k : Nat) (v : Value), k < 4 → [Value.bool false, .slice (some ⟨g1, 0, none⟩) 3 3, .bool false, .slice (some ⟨g2, 0, none⟩) 4 4][k]? = some v → W.cell? ⟨rg, k, none⟩ = some v := fun k v hk hv => by rw [h0.cellAt k (by omega)]; exact hv
  refine ⟨rg, 0, rfl, (World.ownsRow.lt h0 rg rfl).2, fun k r hr => ?_⟩
  match k with
  | 0 => simp [yP] at hr; subst hr; exact ⟨_, 3, g0 0 _ (by omega) rfl, g0 1 _ (by omega) rfl, Nat.le_refl _, pxS_sl h1⟩
  | 1 => simp [yP] at hr; subst hr; exact ⟨_, 4, g0 2 _ (by omega) rfl, g0 3 _ (by omega) rfl, Nat.le_refl _, pxS_sl h2⟩
  | k + 2 => simp [yP] at hr
theorem Ls.finE {w W : World} {gb rg g1 g2 : Nat} (hc : Ls (bxT 24 gb [.int .i64 3, .slice (some ⟨rg, 0, none⟩) 2 2]) W) (hr : Ls (rw2O rg (.slice (some ⟨g1, 0, none⟩) 3 3) (.slice (some ⟨g2, 0, none⟩) 4 4)) W)
    (h1 : Ls (pxS (.slice (some ⟨g1, 0, none⟩) 3 3) [⟨1, false, 0, 0⟩, ⟨1, false, 0, 0⟩, ⟨1, false, 0, 0⟩]) W) (h2 : Ls (pxS (.slice (some ⟨g2, 0, none⟩) 4 4) [⟨10, false, 1, 0⟩, ⟨1, false, 0, 0⟩, ⟨2, false, 0, 0⟩, ⟨1, false, 0, 0⟩]) W) (hb : Below w.heap.size w W) :
    ∃ (gb' c2 : Nat) (A2 : Option Addr), Value.pointer (some ⟨gb, 0, none⟩) = .pointer (some ⟨gb', 0, none⟩) ∧ Hid (RfF 3 A2 c2 yP gb' w W) := ⟨gb, 2, _, rfl, Ls.fin hc hr h1 h2 hb⟩
end Go.Proofs.Ytbibndpkcilblaa
