/- Layer 34, contracts: the iterator over the lengths of all floats. -/
import Derived.Test.YthedmiilkeclaaaI6
import Derived.Test.YthedmiilkeclaaaIter
namespace Go.Proofs.Ythedmiilkeclaaa
open Go.RowKit Go.Shelf
open Go.Proofs.Ythedmiilkeclaaa.I34
attribute [local go_sem] Oper.semAt_some
set_option maxRecDepth 100000

abbrev F101 := Fin 101
def toF (l : List Nat) : List F101 := l.map fun n => ⟨n % 101, Nat.mod_lt _ (by omega)⟩
def encF (x : F101) : Array Value := #[.int .i64 ((x.1 : Nat) : Int)]
theorem toF_snoc (l : List Nat) (n : Nat) : toF (l ++ [n]) = toF l ++ [⟨n % 101, Nat.mod_lt _ (by omega)⟩] := by simp [toF]
theorem toF_length (l : List Nat) : (toF l).length = l.length := by simp [toF]

/-- What has come: the rows before the i-th one, the colours before c, the first j floats. -/
def came (p : List (List Int)) (i c j : Nat) : List Nat :=
  lens (p.take i) ++ (((List.range c).flatMap fun c => rowLens (p.getD i []) c) ++ (rowLens (p.getD i []) c).take j)
theorem lens_append (a b : List (List Int)) : lens (a ++ b) = lens a ++ lens b := by unfold lens; rw [List.flatMap_append]
theorem lens_cons (r : List Int) (b : List (List Int)) : lens (r :: b) = ((List.range 6).flatMap fun c => rowLens r c) ++ lens b := by unfold lens; rw [List.flatMap_cons]
theorem came_zero (p : List (List Int)) : came p 0 0 0 = [] := by simp [came, lens]
theorem came_float {p : List (List Int)} {i c j : Nat} {f : Nat × Nat} (h : (flo (p.getD i []) ((c : Int) + 1))[j]? = some f) : came p i c (j + 1) = came p i c j ++ [lenOf f] := by
  have hj : (rowLens (p.getD i []) c)[j]? = some (lenOf f) := by unfold rowLens; rw [List.getElem?_map, h]; rfl
  obtain ⟨hlt, e⟩ := List.getElem?_eq_some_iff.1 hj
  unfold came
  rw [List.take_succ_eq_append_getElem hlt, e]
  simp
theorem came_colour {p : List (List Int)} {i c j : Nat} (h : (rowLens (p.getD i []) c).length ≤ j) : came p i (c + 1) 0 = came p i c j := by
  unfold came
  rw [List.take_of_length_le h, List.range_succ, List.flatMap_append]
  simp
theorem came_row {p : List (List Int)} {i : Nat} (h : i < p.length) : came p (i + 1) 0 0 = came p i 6 0 := by
  unfold came
  have e : p.getD i [] = p[i] := by simp [List.getD, h]
  rw [List.take_succ_eq_append_getElem h, e, lens_append, lens_cons]
  simp [lens]
theorem came_all {p : List (List Int)} {i : Nat} (h : p.length ≤ i) : came p i 0 0 = lens p := by
  unfold came
  rw [List.take_of_length_le h]; simp
theorem came_prefix {p : List (List Int)} {i c j : Nat} (hi : i < p.length) (hc : c < 6) : came p i c j <+: lens p := by
  have e : p.getD i [] = p[i] := by simp [List.getD, hi]
  have h1 : came p i c j <+: came p i (c + 1) 0 := by
    unfold came
    rw [List.range_succ, List.flatMap_append]
    simp only [List.flatMap_cons, List.flatMap_nil, List.append_nil, List.take_zero]
    rw [List.prefix_append_right_inj, List.prefix_append_right_inj]
    exact List.take_prefix _ _
  have h2 : came p i (c + 1) 0 <+: lens p := by
    unfold came
    have e2 : lens p = lens (p.take i) ++ (((List.range 6).flatMap fun c => rowLens (p.getD i []) c) ++ lens (p.drop (i + 1))) := by
      have e3 : p = p.take i ++ (p[i] :: p.drop (i + 1)) := by rw [← List.drop_eq_getElem_cons hi]; exact (List.take_append_drop i p).symm
      conv => lhs; rw [e3]
      rw [e, lens_append, lens_cons]
    rw [e2, List.prefix_append_right_inj, List.take_zero, List.append_nil]
    refine List.IsPrefix.trans ?_ (List.prefix_append _ _)
    have : List.range 6 = List.range (c + 1) ++ (List.range (6 - (c + 1))).map (c + 1 + ·) := by
      rw [show (6 : Nat) = (c + 1) + (6 - (c + 1)) by omega, List.range_add]
      simp
    rw [this, List.flatMap_append]
    exact List.prefix_append _ _
  exact h1.trans h2
theorem came_lt {p : List (List Int)} {i c j : Nat} {f : Nat × Nat} (hi : i < p.length) (hc : c < 6) (h : (flo (p.getD i []) ((c : Int) + 1))[j]? = some f) : (came p i c j).length < (lens p).length := by
  have h1 := (came_prefix (j := j + 1) hi hc).length_le
  rw [came_float h] at h1
  simp at h1; omega
theorem Row.bounds {N : Nat} : ∀ {l : List (Nat × Nat)} {a j : Nat} {f : Nat × Nat}, Row a N l → l[j]? = some f → f.1 + 1 < f.2 ∧ f.2 < N
  | [], _, _, _, _, h => by simp at h
  | g :: l, _, 0, f, ⟨_, h2, h3, _⟩, h => by simp at h; subst h; exact ⟨h2, h3⟩
  | g :: l, _, j + 1, f, ⟨_, _, _, h4⟩, h => Row.bounds h4 (by simpa using h)

theorem lengths_any (A : Option Addr) (n c : Nat) (w : World) :
    Calls Try.prog 21 #[.slice A n c] w fun e w' => e = .returned (.func (.func 36) #[] #[.pointer (some ⟨w.heap.size, 0, none⟩)]) ∧ w.alloc (.cells #[.slice A n c] 22) = w' := by
  have hmf : ∀ (fn : Fn) (first cap : Array Value) (w : World), (Instr.makeFunc fn first cap).run Try.prog w = .ok (.func fn first cap) w := fun _ _ _ _ => rfl
  go_enter Try.func21, Try.ntmps21
  go_wp2
  go_ret
  exact ⟨rfl, rfl⟩
end Go.Proofs.Ythedmiilkeclaaa
