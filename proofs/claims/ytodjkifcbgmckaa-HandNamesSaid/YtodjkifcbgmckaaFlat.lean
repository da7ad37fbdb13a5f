/- Lists of cells laid end to end. -/
import Derived.Test.YtodjkifcbgmckaaSlE
namespace Go.Proofs.Ytodjkifcbgmckaa
open Go.RowKit
set_option maxRecDepth 100000

theorem flat_at {sz : Nat} : ∀ {zs : List (List Value)}, (∀ cs ∈ zs, cs.length = sz) → ∀ {j i : Nat} {cs : List Value} {v : Value}, zs[j]? = some cs → cs[i]? = some v → zs.flatten[j * sz + i]? = some v
  | [], _, _, _, _, _, h, _ => by simp at h
  | c :: zs, hl, 0, i, cs, v, h, hv => by
    simp at h; subst h
    rw [List.flatten_cons, Nat.zero_mul, Nat.zero_add, List.getElem?_append_left (List.getElem?_eq_some_iff.1 hv).1]
    exact hv
  | c :: zs, hl, j + 1, i, cs, v, h, hv => by
    have h' : zs[j]? = some cs := by simpa using h
    have hc := hl c List.mem_cons_self
    have ih := flat_at (fun x hx => hl x (List.mem_cons_of_mem _ hx)) h' hv
    rw [List.flatten_cons, List.getElem?_append_right (by rw [hc, Nat.add_mul]; omega), hc, show (j + 1) * sz + i - sz = j * sz + i by rw [Nat.add_mul]; omega]
    exact ih
theorem flat_of {sz : Nat} : ∀ {zs : List (List Value)}, (∀ cs ∈ zs, cs.length = sz) → ∀ {k : Nat} {v : Value}, zs.flatten[k]? = some v → ∃ j i cs, k = j * sz + i ∧ zs[j]? = some cs ∧ cs[i]? = some v
  | [], _, _, _, h => by simp at h
  | c :: zs, hl, k, v, h => by
    have hc := hl c List.mem_cons_self
    rw [List.flatten_cons] at h
    by_cases hk : k < c.length
    · rw [List.getElem?_append_left hk] at h
      exact ⟨0, k, c, by omega, rfl, h⟩
    · rw [List.getElem?_append_right (by omega)] at h
      obtain ⟨j, i, cs, e, h1, h2⟩ := flat_of (fun x hx => hl x (List.mem_cons_of_mem _ hx)) h
      exact ⟨j + 1, i, cs, by rw [Nat.add_mul]; omega, by simpa using h1, h2⟩
theorem flat_len {sz : Nat} : ∀ {zs : List (List Value)}, (∀ cs ∈ zs, cs.length = sz) → zs.flatten.length = zs.length * sz
  | [], _ => by simp
  | c :: zs, hl => by
    rw [List.flatten_cons, List.length_append, hl c List.mem_cons_self, flat_len (fun x hx => hl x (List.mem_cons_of_mem _ hx)), List.length_cons, Nat.add_mul]; omega
/-- A row of the call's own reads as a slice of elements. -/
theorem SlS.of_own {sz : Nat} {w : World} {B : Nat} {e : TypeId} {a : Option Addr} {n c : Nat} {zs : List (List Value)} (hl : ∀ cs ∈ zs, cs.length = sz) (hn : n = zs.length) (h : w.ownsRow B e sz (.slice a n c) n zs.flatten) : SlS sz w w.heap.size a zs := fun hne => by
  have hp : 0 < n := by rw [hn]; exact List.length_pos_iff.2 hne
  rcases h.2 with ⟨hv, rfl⟩ | ⟨g, cap, cur, hv, hg, hh, r⟩
  · omega
  · cases hv
    refine ⟨g, 0, rfl, (Array.getElem?_eq_some_iff.1 hh).1, fun j cs hz i v hv => ?_⟩
    have hf := flat_at hl hz hv
    have hlt : j * sz + i < n * sz := by
      have := (List.getElem?_eq_some_iff.1 hf).1
      rw [flat_len hl, ← hn] at this
      exact this
    rw [Nat.zero_add]
    exact (h.cellAt _ hlt).trans hf
theorem own_slice {w : World} {B : Nat} {e : TypeId} {size n : Nat} {v : Value} {xs : List Value} (h : w.ownsRow B e size v n xs) : ∃ a c, v = .slice a n c ∧ n ≤ c := by
  rcases h.2 with ⟨rfl, rfl⟩ | ⟨g, cap, cur, rfl, _, _, hc, _⟩
  · exact ⟨none, 0, rfl, Nat.le_refl _⟩
  · exact ⟨_, _, rfl, hc⟩
/-- The cells that a slice of elements holds, one by one. -/
theorem SlS.flat {sz : Nat} {w : World} {B b off : Nat} {zs : List (List Value)} (hl : ∀ cs ∈ zs, cs.length = sz) (h : SlS sz w B (some ⟨b, off, none⟩) zs) : ∀ j u, zs.flatten[j]? = some u → w.cell? ((⟨b, off, none⟩ : Addr).add j) = some u := fun k u hk => by
  obtain ⟨j, i, cs, e, h1, h2⟩ := flat_of hl hk
  obtain ⟨b', off', e', _, hc⟩ := h (fun e => by subst e; simp at h1)
  simp only [Option.some.injEq, Addr.mk.injEq, and_true] at e'
  obtain ⟨rfl, rfl⟩ := e'
  have := hc j cs h1 i u h2
  have ea : (⟨b, off, none⟩ : Addr).add k = ⟨b, off + k, none⟩ := by unfold Addr.add; split <;> simp_all
  rw [ea, e, ← Nat.add_assoc]
  exact this
end Go.Proofs.Ytodjkifcbgmckaa
