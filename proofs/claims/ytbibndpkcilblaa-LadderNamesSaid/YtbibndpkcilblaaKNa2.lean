/- Layer 28: LadderNames, plain. -/
import Derived.Test.YtbibndpkcilblaaKSf
import Derived.Test.YtbibndpkcilblaaKAl28
namespace Go.Proofs.Ytbibndpkcilblaa
open Go.RowKit Go.Shelf Go.Sort
set_option maxRecDepth 100000

def yP : List RowC := [(false, [⟨1, false, 0, 0⟩, ⟨1, false, 0, 0⟩, ⟨1, false, 0, 0⟩]), (false, [⟨10, false, 1, 0⟩, ⟨1, false, 0, 0⟩, ⟨2, false, 0, 0⟩, ⟨1, false, 0, 0⟩])]
theorem yP_wf : RowsWf yP := fun r hr s hs => by
  have h : ∀ r ∈ yP, ∀ s ∈ r.2, 0 ≤ s.kind ∧ s.kind ≤ 255 := by decide
  exact h r hr s hs
def badL : List (List Int) := [[4], [7], [5, 5], [6, 5], [-1], [0]]
theorem na_bad : badL.all (fun l => decide (runS 2 exP l = (2, []) ∧ stopS 2 exP l = (2, []))) = true := by kernel_rfl
theorem na_1 : runS 3 yP [6, 7, 8] = (0, [4, 5, 6, 7, 8]) := by kernel_rfl
theorem na_2 : endS 3 yP 0 = (0, [3]) := by kernel_rfl
theorem na_3 : endS 3 yP 1 = (0, [6]) := by kernel_rfl
theorem na_4 : depS 3 yP 7 = (0, 1) := by kernel_rfl
theorem na_5 : depS 3 yP 6 = (0, 2) := by kernel_rfl
theorem na_6 : safeS 3 yP 1 = (0, [7]) := by kernel_rfl
theorem na_7 : depS 3 yP 5 = (2, 0) := by kernel_rfl
theorem na_8 : hangS 3 yP 9 = (2, []) := by kernel_rfl
theorem na_9 : endS 3 yP (-1) = (2, []) := by kernel_rfl
theorem na_a : safeS (-1) [] 0 = (8, []) := by kernel_rfl
theorem na_b : runS 2 [] [0, 1] = (0, [0, 1]) := by kernel_rfl
theorem al_t' (W : World) (o : Obj) : Below W.heap.size W (W.alloc o) := (Below.refl _ W).alloc (Nat.le_refl _) o
theorem slI_al {W : World} {A : Option Addr} {l : List Int} (h : SlI W W.heap.size A l) (o : Obj) : SlI (W.alloc o) (W.alloc o).heap.size A l := (h.below (al_t' W o)).more (al_t' W o).size
/-- The six lists, and the row of them. -/
def badV (n : Nat) : List Value := [.slice (some ⟨n, 0, none⟩) 1 1, .slice (some ⟨n + 1, 0, none⟩) 1 1, .slice (some ⟨n + 1 + 1, 0, none⟩) 2 2, .slice (some ⟨n + 1 + 1 + 1, 0, none⟩) 2 2, .slice (some ⟨n + 1 + 1 + 1 + 1, 0, none⟩) 1 1, .slice (some ⟨n + 1 + 1 + 1 + 1 + 1, 0, none⟩) 1 1]
theorem bad_rows {W6 : World} {n : Nat} (h0 : SlI W6 W6.heap.size (some ⟨n, 0, none⟩) [4]) (h1 : SlI W6 W6.heap.size (some ⟨n + 1, 0, none⟩) [7]) (h2 : SlI W6 W6.heap.size (some ⟨n + 1 + 1, 0, none⟩) [5, 5]) (h3 : SlI W6 W6.heap.size (some ⟨n + 1 + 1 + 1, 0, none⟩) [6, 5]) (h4 : SlI W6 W6.heap.size (some ⟨n + 1 + 1 + 1 + 1, 0, none⟩) [-1]) (h5 : SlI W6 W6.heap.size (some ⟨n + 1 + 1 + 1 + 1 + 1, 0, none⟩) [0]) (cs : Array Value) (hcs : cs = (badV n).toArray) :
    SlRows (W6.alloc (.cells cs 25)) (W6.alloc (.cells cs 25)).heap.size (some ⟨W6.heap.size, 0, none⟩) badL := fun _ => by
  subst hcs
  refine ⟨W6.heap.size, 0, rfl, by simp, fun j row hr => ?_⟩
  have hc : ∀ (k : Nat) (v : Value), (badV n)[k]? = some v → (W6.alloc (.cells (badV n).toArray 25)).cell? ⟨W6.heap.size, 0 + k, none⟩ = some v := fun k v hv => by
    rw [Nat.zero_add]
    exact cell_new rfl rfl (by simpa using hv)
  match j with
  | 0 => simp [badL] at hr; subst hr; exact ⟨_, _, hc 0 _ rfl, Nat.le_refl _, slI_al h0 _⟩
  | 1 => simp [badL] at hr; subst hr; exact ⟨_, _, hc 1 _ rfl, Nat.le_refl _, slI_al h1 _⟩
  | 2 => simp [badL] at hr; subst hr; exact ⟨_, _, hc 2 _ rfl, Nat.le_refl _, slI_al h2 _⟩
  | 3 => simp [badL] at hr; subst hr; exact ⟨_, _, hc 3 _ rfl, Nat.le_refl _, slI_al h3 _⟩
  | 4 => simp [badL] at hr; subst hr; exact ⟨_, _, hc 4 _ rfl, Nat.le_refl _, slI_al h4 _⟩
  | 5 => simp [badL] at hr; subst hr; exact ⟨_, _, hc 5 _ rfl, Nat.le_refl _, slI_al h5 _⟩
  | j + 6 => simp [badL] at hr
theorem lit_sl' (W : World) (l : List Int) (cs : Array Value) (h : cs = (l.map (Value.int .i64)).toArray) {n : Nat} (hn : W.heap.size = n) : SlI (W.alloc (.cells cs 3)) (W.alloc (.cells cs 3)).heap.size (some ⟨n, 0, none⟩) l := by
  subst hn
  exact lit_sl W l cs h
end Go.Proofs.Ytbibndpkcilblaa
