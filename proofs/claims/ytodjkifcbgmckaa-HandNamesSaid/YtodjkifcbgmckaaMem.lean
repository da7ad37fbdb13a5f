/- Small facts on memory (as in XSt0, XSt2, XTurn3, for seats without stitches). -/
import Derived.Test.YtodjkifcbgmckaaFlat
namespace Go.Proofs.Ytodjkifcbgmckaa
open Go.RowKit
set_option maxRecDepth 100000

/-- A walk goes on in a world of which only some facts are kept. -/
theorem abs_world {Q F : World → Prop} (w0 : World) (h : F w0) (hr : ∀ W, F W → Q W) : Q w0 := hr w0 h
theorem cell_old {W w1 : World} {cs : Array Value} {t : TypeId} {b o : Nat} {v : Value} (e : w1 = W.alloc (.cells cs t)) (h : W.cell? ⟨b, o, none⟩ = some v) : w1.cell? ⟨b, o, none⟩ = some v := by
  rw [e]
  have hb : b < W.heap.size := by
    unfold World.cell? at h
    cases ho : W.heap[b]? with
    | none => simp [ho] at h
    | some o => exact (Array.getElem?_eq_some_iff.1 ho).1
  exact (bcell (B := W.heap.size) ((Below.refl _ _).alloc (Nat.le_refl _) _) hb _).trans h
theorem cell_new {W w1 : World} {cs : Array Value} {t : TypeId} {b o : Nat} {v : Value} (e : w1 = W.alloc (.cells cs t)) (hb : b = W.heap.size) (h : cs[o]? = some v) : w1.cell? ⟨b, o, none⟩ = some v := by
  subst e hb
  have e : (W.alloc (.cells cs t)).heap[W.heap.size]? = some (.cells cs t) := Array.getElem?_push_size
  simp only [World.cell?, e]
  exact h
theorem thawed_new' (w : World) (cs : Array Value) (t : TypeId) (k : Nat) {b : Nat} (hb : b = w.heap.size) : (w.alloc (.cells cs t)).frozen? ⟨b, k, none⟩ = false := by
  subst hb
  have e : (w.alloc (.cells cs t)).heap[w.heap.size]? = some (.cells cs t) := Array.getElem?_push_size
  simp only [World.frozen?, e]
  simp
  try omega
theorem set_other {w : World} {b o o' : Nat} {v u : Value} (hne : o ≠ o') (h : w.cell? ⟨b, o', none⟩ = some u) : (w.setCell ⟨b, o, none⟩ v).cell? ⟨b, o', none⟩ = some u := by
  have e : (⟨b, o, none⟩ : Addr) ≠ ⟨b, o', none⟩ := fun e => hne (Addr.mk.inj e).2.1
  exact (World.cell?_setCell_other _ _ _ _ e).trans h
theorem set_same {w : World} {b o : Nat} {v u : Value} (h : w.cell? ⟨b, o, none⟩ = some u) : (w.setCell ⟨b, o, none⟩ v).cell? ⟨b, o, none⟩ = some v := World.cell?_setCell_same' w _ v (by rw [h]; rfl)
theorem lt_of_cell {w : World} {b o : Nat} {v : Value} (h : w.cell? ⟨b, o, none⟩ = some v) : b < w.heap.size := by
  unfold World.cell? at h
  cases ho : w.heap[b]? with
  | none => simp [ho] at h
  | some o => exact (Array.getElem?_eq_some_iff.1 ho).1
theorem cell_al {W : World} {b o : Nat} {v : Value} (h : W.cell? ⟨b, o, none⟩ = some v) (x : Obj) : (W.alloc x).cell? ⟨b, o, none⟩ = some v := (bcell ((Below.refl _ W).alloc (Nat.le_refl _) x) (lt_of_cell h) _).trans h
theorem newsT (W : World) (cs : Array Value) (t : TypeId) (b : Nat) (hb : b = W.heap.size) : ∀ (j : Nat) (u : Value), cs.toList[j]? = some u → (W.alloc (.cells cs t)).cell? ((⟨b, 0, none⟩ : Addr).add j) = some u := fun j u h => by
  subst hb
  rw [show (⟨W.heap.size, 0, none⟩ : Addr).add j = ⟨W.heap.size, j, none⟩ by unfold Addr.add; split <;> simp_all]
  exact cell_new rfl rfl (by simpa using h)
theorem grown_setAt (W : World) (b o : Nat) (v : Value) : W.grownBy (W.setCell ⟨b, o, none⟩ v) (some b) :=
  ⟨rfl, rfl, rfl, by simp [World.setCell], fun k _ hk => Below.heap_setCell W ⟨b, o, none⟩ v k (fun e => hk (by rw [e]))⟩
end Go.Proofs.Ytodjkifcbgmckaa
