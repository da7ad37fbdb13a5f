/- Layer 30: copied. -/
import Derived.Test.YtflpikickbellaaGreatKQ27
import Derived.Deep.RegionHeld3
namespace Go.Proofs.YtflpikickbellaaGreat
open Go.RowKit Go.Shelf
set_option maxRecDepth 100000

/-- A copy under way: the first needles, the first loops have lists of their own. -/
structure CopyAt (w0 w : World) (pb : Nat) (s : BedS) (hA hB : List (Hk × Value)) (mA mB : List (Mk × Value)) (vh vf vm : Value) : Prop where
  hooks : (hA ++ hB).map Prod.fst = s.hooks
  made : (mA ++ mB).map Prod.fst = s.made
  oldH : ∀ p ∈ hB, OldI w0 w0.heap.size p.2 p.1.loops
  oldM : ∀ p ∈ mB, OldI w0 w0.heap.size p.2 p.1.parents
  owns : Owns w w0.heap.size (rowP 90 pb s.rack vh vf vm :: rowH vh (hA ++ hB) :: rowF vf s.feeds :: rowM vm (mA ++ mB) :: (hA.map rowL ++ mA.map rowQ))
  below : Below w0.heap.size w0 w
section
variable {w0 w : World} {pb : Nat} {s : BedS} {hA hB : List (Hk × Value)} {mA mB : List (Mk × Value)} {vh vf vm : Value}
theorem CopyAt.to (h : CopyAt w0 w pb s hA hB mA mB vh vf vm) {w' : World} (hb : Below w.heap.size w w') : CopyAt w0 w' pb s hA hB mA mB vh vf vm :=
  ⟨h.hooks, h.made, h.oldH, h.oldM, h.owns.to hb, h.below.trans (hb.mono h.below.size)⟩
theorem CopyAt.cells (h : CopyAt w0 w pb s hA hB mA mB vh vf vm) : w.cell? ⟨pb, 1, none⟩ = some vh ∧ w.cell? ⟨pb, 3, none⟩ = some vm ∧ pb < w.heap.size := by
  have this : w.ownsRow w0.heap.size 90 4 (.slice (some ⟨pb, 0, none⟩) 1 1) 1 [.int .i64 s.rack, vh, vf, vm] := h.owns.head
  exact ⟨this.cellAt 1 (by decide), this.cellAt 3 (by decide), (World.ownsRow.lt this pb rfl).2⟩
theorem CopyAt.rh (h : CopyAt w0 w pb s hA hB mA mB vh vf vm) : (rowH vh (hA ++ hB)).lies w w0.heap.size := h.owns.all _ (by simp)
theorem CopyAt.rm (h : CopyAt w0 w pb s hA hB mA mB vh vf vm) : (rowM vm (mA ++ mB)).lies w w0.heap.size := h.owns.all _ (by simp)
theorem CopyAt.hlen (h : CopyAt w0 w pb s hA hB mA mB vh vf vm) : hA.length + hB.length = s.hooks.length := by rw [← h.hooks, List.length_map, List.length_append]
theorem CopyAt.mlen (h : CopyAt w0 w pb s hA hB mA mB vh vf vm) : mA.length + mB.length = s.made.length := by rw [← h.made, List.length_map, List.length_append]
theorem set_flat {sz k : Nat} : ∀ {zs : List (List Value)}, (∀ cs ∈ zs, cs.length = sz) → ∀ (j : Nat) (v : Value) (cs : List Value), zs[j]? = some cs → k < sz → zs.flatten.set (j * sz + k) v = (zs.set j (cs.set k v)).flatten
  | [], _, j, v, cs, h, _ => by simp at h
  | c :: zs, hl, 0, v, cs, h, hk => by
    simp at h; subst h
    have hc := hl c List.mem_cons_self
    rw [List.flatten_cons, Nat.zero_mul, Nat.zero_add, List.set_append_left _ _ (by omega), List.set_cons_zero, List.flatten_cons]
  | c :: zs, hl, j + 1, v, cs, h, hk => by
    have hc := hl c List.mem_cons_self
    have ih := set_flat (k := k) (fun x hx => hl x (List.mem_cons_of_mem _ hx)) j v cs (by simpa using h) hk
    rw [List.flatten_cons, List.set_append_right _ _ (by rw [hc, Nat.add_mul]; omega), hc, show (j + 1) * sz + k - sz = j * sz + k by rw [Nat.add_mul]; omega, ih, List.set_cons_succ, List.flatten_cons]
theorem set_at {α : Type} {a : List α} {x y : α} {b : List α} : (a ++ x :: b).set a.length y = a ++ y :: b := by
  rw [List.set_append_right _ _ (Nat.le_refl _), Nat.sub_self, List.set_cons_zero]
theorem CopyAt.stepH {p : Hk × Value} (h : CopyAt w0 w pb s hA (p :: hB) mA mB vh vf vm) {w1 : World} {v : Value} {g n c : Nat} (hrow : (rowI v p.1.loops).lies w1 w.heap.size) (hb : Below w.heap.size w w1) (hv : vh = .slice (some ⟨g, 0, none⟩) n c) :
    CopyAt w0 (w1.setCell ⟨g, hA.length * 3 + 2, none⟩ v) pb s (hA ++ [(p.1, v)]) hB mA mB vh vf vm := by
  subst hv
  have h1 := h.owns.add (o := rowI v p.1.loops) hb h.below.size hrow
  have hH : w1.ownsRow w0.heap.size 82 3 (.slice (some ⟨g, 0, none⟩) (hA ++ p :: hB).length c) (hA ++ p :: hB).length (((hA ++ p :: hB).map hookCells).flatten) := by
    have := h1.all (rowH (.slice (some ⟨g, 0, none⟩) n c) (hA ++ p :: hB)) (by simp)
    obtain ⟨A', c', e, _⟩ := own_slice this
    have e' : (Value.slice (some ⟨g, 0, none⟩) n c) = .slice A' (hA ++ p :: hB).length c' := e
    cases e'
    exact this
  obtain ⟨s1, s2⟩ := World.ownsRow.stored hH (hA.length * 3 + 2) v
  have e1 : (((hA ++ p :: hB).map hookCells).flatten).set (hA.length * 3 + 2) v = ((hA ++ [(p.1, v)] ++ hB).map hookCells).flatten := by
    rw [set_flat (sz := 3) cells3h hA.length v (hookCells p) (by rw [List.getElem?_map, List.getElem?_append_right (Nat.le_refl _), Nat.sub_self]; rfl) (by omega)]
    have e2 : ((hA ++ p :: hB).map hookCells).set hA.length ((hookCells p).set 2 v) = (hA ++ [(p.1, v)] ++ hB).map hookCells := by
      have e3 : (hookCells p).set 2 v = hookCells (p.1, v) := rfl
      rw [e3, ← List.map_set, set_at]; simp
    rw [e2]
  have hn : n = (hA ++ p :: hB).length := by
    have := h1.all (rowH (.slice (some ⟨g, 0, none⟩) n c) (hA ++ p :: hB)) (by simp)
    obtain ⟨A', c', e, _⟩ := own_slice this
    have e' : (Value.slice (some ⟨g, 0, none⟩) n c) = .slice A' (hA ++ p :: hB).length c' := e
    cases e'
    rfl
  refine ⟨by rw [← h.hooks]; simp, h.made, fun q hq => h.oldH q (List.mem_cons_of_mem _ hq), h.oldM, ?_, (h.below.trans (hb.mono h.below.size)).setCell (World.ownsRow.lt hH g rfl).1 _⟩
  have p1 : ∀ {O P H : Own} {R : List Own}, (O :: P :: H :: R).Perm (H :: O :: P :: R) := fun {O P H R} => (List.Perm.cons O (List.Perm.swap H P R)).trans (List.Perm.swap H O (P :: R))
  have h2 := (h1.perm p1).turn (o' := rowH (.slice (some ⟨g, 0, none⟩) n c) (hA ++ [(p.1, v)] ++ hB)) (w' := w1.setCell ⟨g, hA.length * 3 + 2, none⟩ v) s2 (by
    unfold rowH Own.lies
    have e4 : (hA ++ [(p.1, v)] ++ hB).length = (hA ++ p :: hB).length := by simp
    rw [e4, ← e1, hn]
    exact s1) (fun k hk => Or.inl hk)
  refine (h2.perm p1.symm).perm ?_
  have := (List.perm_middle (l₁ := rowP 90 pb s.rack (.slice (some ⟨g, 0, none⟩) n c) vf vm :: rowH (.slice (some ⟨g, 0, none⟩) n c) (hA ++ [(p.1, v)] ++ hB) :: rowF vf s.feeds :: rowM vm (mA ++ mB) :: hA.map rowL) (l₂ := mA.map rowQ) (a := rowI v p.1.loops)).symm
  refine this.trans ?_
  have e5 : (hA ++ [(p.1, v)]).map rowL = hA.map rowL ++ [rowI v p.1.loops] := by rw [List.map_append]; rfl
  rw [e5]
  simp only [List.cons_append, List.append_assoc, List.nil_append]
  exact List.Perm.refl _
theorem CopyAt.stepM {p : Mk × Value} (h : CopyAt w0 w pb s hA hB mA (p :: mB) vh vf vm) {w1 : World} {v : Value} {g n c : Nat} (hrow : (rowI v p.1.parents).lies w1 w.heap.size) (hb : Below w.heap.size w w1) (hv : vm = .slice (some ⟨g, 0, none⟩) n c) :
    CopyAt w0 (w1.setCell ⟨g, mA.length * 4, none⟩ v) pb s hA hB (mA ++ [(p.1, v)]) mB vh vf vm := by
  subst hv
  have h1 := h.owns.add (o := rowI v p.1.parents) hb h.below.size hrow
  have hsl := h1.all (rowM (.slice (some ⟨g, 0, none⟩) n c) (mA ++ p :: mB)) (by simp)
  have hn : n = (mA ++ p :: mB).length := by
    obtain ⟨A', c', e, _⟩ := own_slice hsl
    have e' : (Value.slice (some ⟨g, 0, none⟩) n c) = .slice A' (mA ++ p :: mB).length c' := e
    cases e'
    rfl
  have hH : w1.ownsRow w0.heap.size 66 4 (.slice (some ⟨g, 0, none⟩) (mA ++ p :: mB).length c) (mA ++ p :: mB).length (((mA ++ p :: mB).map makeCells).flatten) := by
    rw [hn] at hsl; exact hsl
  obtain ⟨s1, s2⟩ := World.ownsRow.stored hH (mA.length * 4) v
  have e1 : (((mA ++ p :: mB).map makeCells).flatten).set (mA.length * 4) v = ((mA ++ [(p.1, v)] ++ mB).map makeCells).flatten := by
    have := set_flat (sz := 4) (k := 0) cells4m mA.length v (makeCells p) (zs := (mA ++ p :: mB).map makeCells) (by rw [List.getElem?_map, List.getElem?_append_right (Nat.le_refl _), Nat.sub_self]; rfl) (by omega)
    rw [Nat.add_zero] at this
    rw [this]
    have e2 : ((mA ++ p :: mB).map makeCells).set mA.length ((makeCells p).set 0 v) = (mA ++ [(p.1, v)] ++ mB).map makeCells := by
      have e3 : (makeCells p).set 0 v = makeCells (p.1, v) := rfl
      rw [e3, ← List.map_set, set_at]; simp
    rw [e2]
  refine ⟨h.hooks, by rw [← h.made]; simp, h.oldH, fun q hq => h.oldM q (List.mem_cons_of_mem _ hq), ?_, (h.below.trans (hb.mono h.below.size)).setCell (World.ownsRow.lt hH g rfl).1 _⟩
  have p1 : ∀ {O P H F M : Own} {R : List Own}, (O :: P :: H :: F :: M :: R).Perm (M :: O :: P :: H :: F :: R) := fun {O P H F M R} => by
    have := (List.perm_middle (l₁ := [O, P, H, F]) (l₂ := R) (a := M))
    simpa using this
  have h2 := (h1.perm p1).turn (o' := rowM (.slice (some ⟨g, 0, none⟩) n c) (mA ++ [(p.1, v)] ++ mB)) (w' := w1.setCell ⟨g, mA.length * 4, none⟩ v) s2 (by
    unfold rowM Own.lies
    have e4 : (mA ++ [(p.1, v)] ++ mB).length = (mA ++ p :: mB).length := by simp
    rw [e4, ← e1, hn]
    exact s1) (fun k hk => Or.inl hk)
  refine (h2.perm p1.symm).perm ?_
  have := (List.perm_middle (l₁ := rowP 90 pb s.rack vh vf (.slice (some ⟨g, 0, none⟩) n c) :: rowH vh (hA ++ hB) :: rowF vf s.feeds :: rowM (.slice (some ⟨g, 0, none⟩) n c) (mA ++ [(p.1, v)] ++ mB) :: (hA.map rowL ++ mA.map rowQ)) (l₂ := []) (a := rowI v p.1.parents)).symm
  refine (List.Perm.trans ?_ this).trans ?_
  · simp
  have e5 : (mA ++ [(p.1, v)]).map rowQ = mA.map rowQ ++ [rowI v p.1.parents] := by rw [List.map_append]; rfl
  rw [e5]
  simp only [List.cons_append, List.append_assoc]
  exact List.Perm.refl _
theorem CopyAt.done (h : CopyAt w0 w pb s hA [] mA [] vh vf vm) : WorkX 90 w w0.heap.size pb s [] := by
  have := h.owns
  have h1 := h.hooks
  have h2 := h.made
  rw [List.append_nil] at h1 h2
  rw [List.append_nil, List.append_nil] at this
  exact ⟨hA, mA, vh, vf, vm, h1, h2, by rw [List.append_nil]; exact this⟩
end
end Go.Proofs.YtflpikickbellaaGreat
