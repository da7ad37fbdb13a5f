/- Slices whose elements have several cells. -/
import Derived.Test.YtodjkifcbgmckaaBase
namespace Go.Proofs.Ytodjkifcbgmckaa
open Go.RowKit
set_option maxRecDepth 100000

/-- The slice value '.slice A zs.length c' holds elements with the cells zs, in a block below B. -/
def SlS (sz : Nat) (w : World) (B : Nat) (A : Option Addr) (zs : List (List Value)) : Prop :=
  zs ≠ [] → ∃ b off, A = some ⟨b, off, none⟩ ∧ b < B ∧ ∀ j cs, zs[j]? = some cs → ∀ i v, cs[i]? = some v → w.cell? ⟨b, off + j * sz + i, none⟩ = some v
theorem SlS.below {sz : Nat} {w w' : World} {B : Nat} {A : Option Addr} {zs : List (List Value)} (h : SlS sz w B A zs) (hb : Below B w w') : SlS sz w' B A zs := fun hn => by
  obtain ⟨b, off, e, hB, hc⟩ := h hn
  exact ⟨b, off, e, hB, fun j cs hz i v hv => (bcell hb hB _).trans (hc j cs hz i v hv)⟩
theorem SlS.more {sz : Nat} {w : World} {B B' : Nat} {A : Option Addr} {zs : List (List Value)} (h : SlS sz w B A zs) (hB' : B ≤ B') : SlS sz w B' A zs := fun hn => by
  obtain ⟨b, off, e, hB, hc⟩ := h hn
  exact ⟨b, off, e, by omega, hc⟩
theorem SlS.nil {sz : Nat} {w : World} {B : Nat} {A : Option Addr} : SlS sz w B A [] := fun h => absurd rfl h
theorem SlS.at_ {sz : Nat} {w : World} {B : Nat} {A : Option Addr} {zs : List (List Value)} (h : SlS sz w B A zs) {k : Nat} (hk : k < zs.length) :
    ∃ b off cs, A = some ⟨b, off, none⟩ ∧ b < B ∧ zs[k]? = some cs ∧ ∀ i v, cs[i]? = some v → w.cell? ⟨b, off + k * sz + i, none⟩ = some v := by
  obtain ⟨b, off, e, hB, hc⟩ := h (fun e => by subst e; simp at hk)
  exact ⟨b, off, zs[k], e, hB, List.getElem?_eq_getElem hk, hc k _ (List.getElem?_eq_getElem hk)⟩
/-- l[n:] -/
theorem SlS.drop {sz : Nat} {w : World} {B : Nat} {b off : Nat} {zs : List (List Value)} (h : SlS sz w B (some ⟨b, off, none⟩) zs) (n : Nat) : SlS sz w B (some ⟨b, off + n * sz, none⟩) (zs.drop n) := fun hn => by
  obtain ⟨b', off', e, hB, hc⟩ := h (fun e => by subst e; simp at hn)
  simp only [Option.some.injEq, Addr.mk.injEq, and_true] at e
  obtain ⟨rfl, rfl⟩ := e
  refine ⟨_, _, rfl, hB, fun j cs hz i v hv => ?_⟩
  rw [List.getElem?_drop] at hz
  have := hc (n + j) cs hz i v hv
  rw [Nat.add_mul, ← Nat.add_assoc] at this
  exact this
theorem SlS.take {sz : Nat} {w : World} {B : Nat} {A : Option Addr} {zs : List (List Value)} (h : SlS sz w B A zs) (n : Nat) : SlS sz w B A (zs.take n) := fun hn => by
  obtain ⟨b, off, e, hB, hc⟩ := h (fun e => by subst e; simp at hn)
  refine ⟨b, off, e, hB, fun j cs hz i v hv => hc j cs ?_ i v hv⟩
  rw [List.getElem?_take] at hz
  split at hz
  · exact hz
  · cases hz

/-! ### the first element that has a property -/
def idxE {α : Type} (pr : α → Bool) (zs : List α) : Int := match zs.findIdx? pr with
  | some k => (k : Int)
  | none => -1
theorem idxE_hit {α : Type} {pr : α → Bool} {zs : List α} {k : Nat} {z : α} (hz : zs[k]? = some z) (h : pr z = true) (hb : ∀ j y, j < k → zs[j]? = some y → pr y = false) : idxE pr zs = (k : Int) := by
  have : zs.findIdx? pr = some k := by
    rw [List.findIdx?_eq_some_iff_getElem]
    obtain ⟨hk, e⟩ := List.getElem?_eq_some_iff.1 hz
    exact ⟨hk, by rw [e]; exact h, fun j hj => by rw [hb j _ hj (List.getElem?_eq_getElem (by omega))]; simp⟩
  rw [idxE, this]
theorem idxE_none {α : Type} {pr : α → Bool} {zs : List α} (hb : ∀ j y, j < zs.length → zs[j]? = some y → pr y = false) : idxE pr zs = -1 := by
  have : zs.findIdx? pr = none := by
    rw [List.findIdx?_eq_none_iff]
    intro x hx
    obtain ⟨j, hj⟩ := List.mem_iff_getElem?.1 hx
    exact hb j x (List.getElem?_eq_some_iff.1 hj).1 hj
  rw [idxE, this]
theorem idxE_any {α : Type} (pr : α → Bool) (zs : List α) : decide (0 ≤ idxE pr zs) = zs.any pr := by
  unfold idxE
  cases h : zs.findIdx? pr with
  | none =>
    rw [List.findIdx?_eq_none_iff] at h
    have : zs.any pr = false := by rw [List.any_eq_false]; intro x hx; rw [h x hx]; simp
    rw [this]; rfl
  | some k =>
    rw [List.findIdx?_eq_some_iff_getElem] at h
    obtain ⟨hk, h1, _⟩ := h
    have : zs.any pr = true := by rw [List.any_eq_true]; exact ⟨_, List.getElem_mem hk, h1⟩
    rw [this]; simp
end Go.Proofs.Ytodjkifcbgmckaa
