/- A stitch argument, opened. -/
import Derived.Test.YtodjkifcbgmckaaSt2
import Derived.Test.YtodjkifcbgmckaaOpen
import Derived.Test.YtodjkifcbgmckaaElems
namespace Go.Proofs.Ytodjkifcbgmckaa
open Go.ChangeShapes Go.WideShapes Go.ChangeAt Go.RowKit Go.Deep
set_option maxRecDepth 100000

section
variable {H : Type} {enc : TypeId × Value → H} {w : World} {base : Nat} {held : Bool}
theorem stitch_one : ∃ fs, Try.prog.underlying 35 = some (.struct fs) ∧ oneCellFields Try.prog fs = true ∧ fs.size = 4 ∧ Try.prog.cellsOf 35 = 4 ∧
    (fs[0]?.map (·.type) = some 5 ∧ fs[1]?.map (·.type) = some 4 ∧ fs[2]?.map (·.type) = some 3 ∧ fs[3]?.map (·.type) = some 3) :=
  ⟨_, Try.underlying35, by kernel_rfl, by kernel_rfl, by kernel_rfl, by kernel_rfl, by kernel_rfl, by kernel_rfl, by kernel_rfl⟩
theorem stitch_read {n : Nat} {cs : List Value} {x : DataW H × List MemPlace} {spare : Nat → Bool} (h : DataW.trod enc Try.prog w base spare held n 35 cs = some x) : ∃ s : Stc, cs = s.cells ∧ s.wf := by
  obtain ⟨fs, hu, hone, hsz, hC, t0, t1, t2, t3⟩ := stitch_one
  obtain ⟨xs, n', _, _, hcl, hlen, hg⟩ := DataW.trod_struct hu h
  have hcl' : cs.length = fs.size := by rw [hcl, hC, hsz]
  obtain ⟨v0, y0, c0, r0⟩ := field_read hone hlen hcl' hg t0
  obtain ⟨v1, y1, c1, r1⟩ := field_read hone hlen hcl' hg t1
  obtain ⟨v2, y2, c2, r2⟩ := field_read hone hlen hcl' hg t2
  obtain ⟨v3, y3, c3, r3⟩ := field_read hone hlen hcl' hg t3
  obtain ⟨z0, e0, _, w0⟩ := DataW.trod_int Try.underlying5 r0
  obtain ⟨z1, e1, _⟩ := DataW.trod_bool Try.underlying4 r1
  obtain ⟨z2, e2, _, _⟩ := DataW.trod_int Try.underlying3 r2
  obtain ⟨z3, e3, _, _⟩ := DataW.trod_int Try.underlying3 r3
  simp only [List.cons.injEq, and_true] at e0 e1 e2 e3
  subst e0 e1 e2 e3
  refine ⟨⟨z0, z1, z2, z3⟩, ?_, (bounds_u8 w0).1, (bounds_u8 w0).2⟩
  rw [hsz] at hcl'
  match cs, hcl' with
  | [_, _, _, _], _ =>
    simp only [List.getElem?_cons_zero, List.getElem?_cons_succ, Option.some.injEq] at c0 c1 c2 c3
    subst c0 c1 c2 c3
    rfl
instance : Inhabited Stc := ⟨⟨0, false, 0, 0⟩⟩
theorem open_stitch {r : Reach} {v : Value} {d : DataW H} {p0 : List MemPlace} (hok : Value.okWide Try.prog w r base 35 v) (h : DataW.Trod enc Try.prog w 0 (fun _ => true) held 35 v d p0) :
    ∃ s : Stc, v = s.val ∧ s.wf := by
  obtain ⟨fs, hu, -⟩ := stitch_one
  obtain ⟨cs, rfl, hcs⟩ := okWide_struct hu hok
  obtain ⟨fuel, h⟩ := h
  have h' : DataW.trod enc Try.prog w 0 (fun _ => true) held fuel 35 cs.toList = some (d, p0) := h
  obtain ⟨s, e, hw⟩ := stitch_read h'
  refine ⟨s, ?_, hw⟩
  unfold Stc.val
  congr 1
  exact Array.toList_inj.1 e
end
end Go.Proofs.Ytodjkifcbgmckaa
