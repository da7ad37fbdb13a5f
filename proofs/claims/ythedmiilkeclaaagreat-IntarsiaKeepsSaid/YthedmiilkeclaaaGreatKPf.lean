/- The reference's layer 30: Great, in, Has, Held. The reference's layer 30: Held. -/
import Derived.Test.YthedmiilkeclaaaGreatKPa
import Derived.Test.YthedmiilkeclaaaGreatKPd
import Derived.Test.YthedmiilkeclaaaGreatKPe
namespace Go.Proofs.YthedmiilkeclaaaGreat
open Go.RowKit Go.Shelf
set_option maxRecDepth 100000

/-- The box of a state. -/
theorem bed_box (w : World) (s : BedS) (p : BedP) (w1 : World) (hb : Below (w.heap.size + 1) (w.alloc (.cells #[.int .i64 s.rack, .slice p.ah s.hooks.length p.ch, .slice p.af s.feeds.length p.cf, .slice p.am s.made.length p.cm] 48)) w1) :
    w1.cell? ⟨w.heap.size, 0, none⟩ = some (.int .i64 s.rack) ∧ w1.cell? ⟨w.heap.size, 1, none⟩ = some (.slice p.ah s.hooks.length p.ch) ∧ w1.cell? ⟨w.heap.size, 2, none⟩ = some (.slice p.af s.feeds.length p.cf) ∧ w1.cell? ⟨w.heap.size, 3, none⟩ = some (.slice p.am s.made.length p.cm) :=
  ⟨(bcell hb (by omega) _).trans (cell_new rfl rfl rfl), (bcell hb (by omega) _).trans (cell_new rfl rfl rfl), (bcell hb (by omega) _).trans (cell_new rfl rfl rfl), (bcell hb (by omega) _).trans (cell_new rfl rfl rfl)⟩
end Go.Proofs.YthedmiilkeclaaaGreat
namespace Go.Proofs.YthedmiilkeclaaaGreat
open Go.RowKit Go.Shelf
set_option maxRecDepth 100000

def hkAt (b n : Int) (h : Hk) : Bool := decide (h.bed = b ∧ h.at_ = n)
/-- The loops of a needle. -/
def heldAt (l : List Hk) (b n : Int) : List Int := match l.find? (hkAt b n) with | some h => h.loops | none => []
theorem heldAt_hit {l : List Hk} {b n : Int} {k : Nat} {h : Hk} (hr : l[k]? = some h) (hm : hkAt b n h = true) (hn : ∀ j y, j < k → l[j]? = some y → hkAt b n y = false) : heldAt l b n = h.loops := by
  have hf : l.find? (hkAt b n) = some h := by
    obtain ⟨hk, e⟩ := List.getElem?_eq_some_iff.1 hr
    rw [List.find?_eq_some_iff_getElem]
    refine ⟨hm, k, hk, e, fun j hj => ?_⟩
    have := hn j (l[j]'(by omega)) hj (List.getElem?_eq_getElem _)
    simp [this]
  unfold heldAt; rw [hf]
theorem heldAt_none {l : List Hk} {b n : Int} (hn : ∀ y ∈ l, hkAt b n y = false) : heldAt l b n = [] := by
  have hf : l.find? (hkAt b n) = none := List.find?_eq_none.2 fun x hx => by simp [hn x hx]
  unfold heldAt; rw [hf]
def intsOut (l : List Int) (w : World) (e : Ending) (w' : World) : Prop := ∃ A c, e = .returned (.slice A l.length c) ∧ SlI w' w'.heap.size A l ∧ Below w.heap.size w w'
end Go.Proofs.YthedmiilkeclaaaGreat
