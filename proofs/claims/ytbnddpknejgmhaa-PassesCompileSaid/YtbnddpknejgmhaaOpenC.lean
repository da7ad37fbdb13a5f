/- Arguments opened: a chart. -/
import Derived.Test.YtbnddpknejgmhaaOpen
import Derived.Test.YtbnddpknejgmhaaCh0
namespace Go.Proofs.Ytbnddpknejgmhaa
open Go.ChangeShapes Go.WideShapes Go.ChangeAt Go.RowKit Go.Deep
set_option maxRecDepth 100000

section
variable {H : Type} {enc : TypeId × Value → H} {w : World} {base : Nat} {held : Bool}
/-- A slice whose elements read, opened. -/
theorem open_elems {α : Type} [Inhabited α] {t e : TypeId} {k : Nat} (ht : Try.prog.underlying t = some (.slice e)) (hC : Try.prog.cellsOf e = k) (hk : 0 < k) (Q : α → List Value → Prop)
    (hread : ∀ (n : Nat) (cs : List Value) (x : DataW H × List MemPlace), DataW.trod enc Try.prog w base (fun _ => true) held n e cs = some x → ∃ r, Q r cs) {fuel : Nat} {cs : List Value} {x : DataW H × List MemPlace} (h : DataW.trod enc Try.prog w base (fun _ => true) held fuel t cs = some x) :
    ∃ (A : Option Addr) (l : List α) (cap : Nat), cs = [.slice A l.length cap] ∧ l.length ≤ cap ∧ l.length ≤ maxLen ∧ (∀ r ∈ l, ∃ c, Q r c) ∧ (l ≠ [] → ∃ b off, A = some ⟨b, off, none⟩ ∧ b < w.heap.size ∧ ∀ (j : Nat) (r : α), l[j]? = some r → ∃ cs' : List Value, Q r cs' ∧ cs'.length = k ∧ ∀ (i : Nat) (v : Value), cs'[i]? = some v → w.cell? ⟨b, off + j * k + i, none⟩ = some v) := by
  rcases open_slice ht h with ⟨hcs, _⟩ | ⟨a, len, cap, m, n, D, Pl, hcs, _, hl, hm, hmm, _, hr⟩
  · exact ⟨none, [], 0, hcs, Nat.le_refl _, Nat.zero_le _, by simp, fun h => absurd rfl h⟩
  · rw [hC] at hr
    simp only [if_true] at hmm
    have hone : ∀ j, j < len → ∃ r : α, ∃ cs' : List Value, Q r cs' ∧ cs'.length = k ∧ ∀ (i : Nat) (v : Value), cs'[i]? = some v → w.cell? ((a.add (j * k)).add i) = some v := fun j hj => by
      obtain ⟨cs', hc, ht⟩ := hr j (by omega)
      obtain ⟨_, hcl, hat⟩ := World.cells?_some hc
      obtain ⟨r, hq⟩ := hread _ _ _ ht
      exact ⟨r, cs', hq, hcl, fun i v hv => by
        have hi := (List.getElem?_eq_some_iff.1 hv).1
        rw [hat i (by omega)]; exact hv⟩
    refine ⟨some a, (List.range len).map fun j => if hj : j < len then Classical.choose (hone j hj) else default, cap, by rw [hcs]; simp, by simpa using hl, by simp; omega, fun r hr' => ?_, fun hn => ?_⟩
    · obtain ⟨j, hj, rfl⟩ := List.mem_map.1 hr'
      have hj' := List.mem_range.1 hj
      rw [dif_pos hj']
      obtain ⟨c, hc, _⟩ := Classical.choose_spec (hone j hj')
      exact ⟨c, hc⟩
    · have hpos : 0 < len := by
        rcases Nat.eq_zero_or_pos len with e | e
        · subst e; simp at hn
        · exact e
      obtain ⟨r0, cs0, -, hl0, h0'⟩ := hone 0 hpos
      have h0 := h0' 0 _ (List.getElem?_eq_getElem (by omega))
      rw [Nat.zero_mul] at h0
      have e0 : (a.add 0) = a := by simp [Addr.add]
      rw [e0] at h0
      obtain ⟨b, off, rfl, hB⟩ := addr_form h0
      refine ⟨b, off, rfl, hB, fun j r hz => ?_⟩
      rw [List.getElem?_map] at hz
      have hjl : j < len := by
        rcases Nat.lt_or_ge j len with e | e
        · exact e
        · rw [List.getElem?_eq_none (by simpa using e)] at hz; cases hz
      rw [List.getElem?_range hjl] at hz
      simp only [Option.map_some, Option.some.injEq] at hz
      rw [dif_pos hjl] at hz
      obtain ⟨c, h1, h2, h3⟩ := Classical.choose_spec (hone j hjl)
      subst hz
      refine ⟨c, h1, h2, fun i v hv => ?_⟩
      have := h3 i v hv
      rw [add_lit, add_lit] at this
      exact this
theorem stitch_one : ∃ fs, Try.prog.underlying 56 = some (.struct fs) ∧ oneCellFields Try.prog fs = true ∧ fs.size = 4 ∧ Try.prog.cellsOf 56 = 4 ∧
    (fs[0]?.map (·.type) = some 5 ∧ fs[1]?.map (·.type) = some 4 ∧ fs[2]?.map (·.type) = some 3 ∧ fs[3]?.map (·.type) = some 3) :=
  ⟨_, Try.underlying56, by kernel_rfl, by kernel_rfl, by kernel_rfl, by kernel_rfl, by kernel_rfl, by kernel_rfl, by kernel_rfl⟩
theorem stitch_read {n : Nat} {cs : List Value} {x : DataW H × List MemPlace} {spare : Nat → Bool} (h : DataW.trod enc Try.prog w base spare held n 56 cs = some x) : ∃ s : Stc, cs = s.cells ∧ s.wf := by
  obtain ⟨fs, hu, hone, hsz, hC, t0, t1, t2, t3⟩ := stitch_one
  obtain ⟨xs, n', _, _, hcl, hlen, hg⟩ := DataW.trod_struct hu h
  have hcl' : cs.length = fs.size := by rw [hcl, hC, hsz]
  obtain ⟨v0, y0, c0, r0⟩ := field_read hone hlen hcl' hg t0
  obtain ⟨v1, y1, c1, r1⟩ := field_read hone hlen hcl' hg t1
  obtain ⟨v2, y2, c2, r2⟩ := field_read hone hlen hcl' hg t2
  obtain ⟨v3, y3, c3, r3⟩ := field_read hone hlen hcl' hg t3
  obtain ⟨z0, e0, _, w0⟩ := DataW.trod_int Try.underlying5 r0
  obtain ⟨z1, e1, _⟩ := DataW.trod_bool Try.underlying4 r1
  obtain ⟨z2, e2, _, _⟩ := DataW.trod_int Try.underlying3 r2
  obtain ⟨z3, e3, _, _⟩ := DataW.trod_int Try.underlying3 r3
  simp only [List.cons.injEq, and_true] at e0 e1 e2 e3
  subst e0 e1 e2 e3
  refine ⟨⟨z0, z1, z2, z3⟩, ?_, (bounds_u8 w0).1, (bounds_u8 w0).2⟩
  rw [hsz] at hcl'
  match cs, hcl' with
  | [_, _, _, _], _ =>
    simp only [List.getElem?_cons_zero, List.getElem?_cons_succ, Option.some.injEq] at c0 c1 c2 c3
    subst c0 c1 c2 c3
    rfl
instance : Inhabited Stc := ⟨⟨0, false, 0, 0⟩⟩
theorem open_stitches {fuel : Nat} {cs : List Value} {x : DataW H × List MemPlace} (h : DataW.trod enc Try.prog w base (fun _ => true) held fuel 57 cs = some x) :
    ∃ (A : Option Addr) (l : List Stc) (cap : Nat), cs = [.slice A l.length cap] ∧ l.length ≤ cap ∧ (∀ s ∈ l, s.wf) ∧ SlT w w.heap.size A l := by
  obtain ⟨A, l, cap, e, hl, _, hq, hc⟩ := open_elems (α := Stc) Try.underlying57 (show Try.prog.cellsOf 56 = 4 by kernel_rfl) (by decide) (fun (s : Stc) cs => cs = s.cells ∧ s.wf) (fun _ _ _ h => stitch_read h) h
  refine ⟨A, l, cap, e, hl, fun s hs => ?_, fun hn => ?_⟩
  · obtain ⟨_, _, h⟩ := hq s hs
    exact h
  · obtain ⟨b, off, e, hB, hc⟩ := hc (by simpa using hn)
    refine ⟨b, off, e, hB, fun j cs hj i v hv => ?_⟩
    rw [List.getElem?_map] at hj
    cases hl : l[j]? with
    | none => rw [hl] at hj; cases hj
    | some s =>
      rw [hl] at hj
      simp only [Option.map_some, Option.some.injEq] at hj
      obtain ⟨cs', ⟨rfl, _⟩, _, hcc⟩ := hc j s hl
      subst hj
      exact hcc i v hv
theorem row_one : ∃ fs, Try.prog.underlying 59 = some (.struct fs) ∧ oneCellFields Try.prog fs = true ∧ fs.size = 2 ∧ Try.prog.cellsOf 59 = 2 ∧
    (fs[0]?.map (·.type) = some 4 ∧ fs[1]?.map (·.type) = some 57) :=
  ⟨_, Try.underlying59, by kernel_rfl, by kernel_rfl, by kernel_rfl, by kernel_rfl, by kernel_rfl⟩
def rowQ (w : World) (r : RowC) (cs : List Value) : Prop := ∃ A C, cs = [.bool r.1, .slice A r.2.length C] ∧ r.2.length ≤ C ∧ (∀ s ∈ r.2, s.wf) ∧ SlT w w.heap.size A r.2
theorem row_read {n : Nat} {cs : List Value} {x : DataW H × List MemPlace} (h : DataW.trod enc Try.prog w base (fun _ => true) held n 59 cs = some x) : ∃ r : RowC, rowQ w r cs := by
  obtain ⟨fs, hu, hone, hsz, hC, t0, t1⟩ := row_one
  obtain ⟨xs, n', _, _, hcl, hlen, hg⟩ := DataW.trod_struct hu h
  have hcl' : cs.length = fs.size := by rw [hcl, hC, hsz]
  obtain ⟨v0, y0, c0, r0⟩ := field_read hone hlen hcl' hg t0
  obtain ⟨v1, y1, c1, r1⟩ := field_read hone hlen hcl' hg t1
  obtain ⟨z0, e0, _⟩ := DataW.trod_bool Try.underlying4 r0
  obtain ⟨A, l, C, e1, hlc, hw, hs⟩ := open_stitches r1
  simp only [List.cons.injEq, and_true] at e0 e1
  subst e0 e1
  refine ⟨(z0, l), A, C, ?_, hlc, hw, hs⟩
  rw [hsz] at hcl'
  match cs, hcl' with
  | [_, _], _ =>
    simp only [List.getElem?_cons_zero, List.getElem?_cons_succ, Option.some.injEq] at c0 c1
    subst c0 c1
    rfl
theorem open_rowsC {fuel : Nat} {cs : List Value} {x : DataW H × List MemPlace} (h : DataW.trod enc Try.prog w base (fun _ => true) held fuel 38 cs = some x) :
    ∃ (A : Option Addr) (p : List RowC) (cap : Nat), cs = [.slice A p.length cap] ∧ RowsWf p ∧ SlC w w.heap.size A p := by
  obtain ⟨A, l, cap, e, hl, _, hq, hc⟩ := open_elems (α := RowC) Try.underlying38 (show Try.prog.cellsOf 59 = 2 by kernel_rfl) (by decide) (fun (r : RowC) cs => rowQ w r cs) (fun _ _ _ h => row_read h) h
  refine ⟨A, l, cap, e, fun r hr => ?_, fun hn => ?_⟩
  · obtain ⟨_, _, _, _, _, hw, _⟩ := hq r hr
    exact hw
  · obtain ⟨b, off, e, hB, hc⟩ := hc hn
    refine ⟨b, off, e, hB, fun j r hj => ?_⟩
    obtain ⟨cs', ⟨A', C', rfl, h1, _, h2⟩, _, hcc⟩ := hc j r hj
    exact ⟨A', C', hcc 0 _ rfl, hcc 1 _ rfl, h1, h2⟩
theorem chart_one : ∃ fs, Try.prog.underlying 40 = some (.struct fs) ∧ oneCellFields Try.prog fs = true ∧ fs.size = 2 ∧ Try.prog.cellsOf 40 = 2 ∧
    (fs[0]?.map (·.type) = some 3 ∧ fs[1]?.map (·.type) = some 38) :=
  ⟨_, Try.underlying40, by kernel_rfl, by kernel_rfl, by kernel_rfl, by kernel_rfl, by kernel_rfl⟩
/-- A chart that is an argument, opened. -/
theorem open_chart {r : Reach} {v : Value} {d : DataW H} {p0 : List MemPlace} (hok : Value.okWide Try.prog w r base 40 v) (h : DataW.Trod enc Try.prog w 0 (fun _ => true) held 40 v d p0) :
    ∃ (start : Int) (A : Option Addr) (p : List RowC) (cap : Nat), v = .agg #[.int .i64 start, .slice A p.length cap] ∧ RowsWf p ∧ SlC w w.heap.size A p := by
  obtain ⟨fs, hu, hone, hsz, hC, t0, t1⟩ := chart_one
  obtain ⟨cs, rfl, hcs⟩ := okWide_struct hu hok
  obtain ⟨fuel, h⟩ := h
  have h' : DataW.trod enc Try.prog w 0 (fun _ => true) held fuel 40 cs.toList = some (d, p0) := h
  obtain ⟨xs, n', _, _, hcl, hlen, hg⟩ := DataW.trod_struct hu h'
  have hcl' : cs.toList.length = fs.size := by rw [hcl, hC, hsz]
  obtain ⟨v0, y0, c0, r0⟩ := field_read hone hlen hcl' hg t0
  obtain ⟨v1, y1, c1, r1⟩ := field_read hone hlen hcl' hg t1
  obtain ⟨z0, e0, _, _⟩ := DataW.trod_int Try.underlying3 r0
  obtain ⟨A, l, C, e1, hw, hs⟩ := open_rowsC r1
  simp only [List.cons.injEq, and_true] at e0 e1
  subst e0 e1
  refine ⟨z0, A, l, C, ?_, hw, hs⟩
  rw [hsz] at hcl'
  congr 1
  apply Array.toList_inj.1
  generalize cs.toList = L at hcl' c0 c1
  match L, hcl' with
  | [_, _], _ =>
    simp only [List.getElem?_cons_zero, List.getElem?_cons_succ, Option.some.injEq] at c0 c1
    subst c0 c1
    rfl
end
end Go.Proofs.Ytbnddpknejgmhaa
