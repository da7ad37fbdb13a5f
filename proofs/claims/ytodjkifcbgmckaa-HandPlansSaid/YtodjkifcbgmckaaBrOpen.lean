/- A braid argument, opened. -/
import Derived.Test.YtodjkifcbgmckaaMvOpen
import Derived.Test.YtodjkifcbgmckaaHsm
import Derived.Test.YtodjkifcbgmckaaElems
namespace Go.Proofs.Ytodjkifcbgmckaa
open Go.ChangeShapes Go.WideShapes Go.ChangeAt Go.RowKit Go.Deep
set_option maxRecDepth 100000

section
variable {H : Type} {enc : TypeId × Value → H} {w : World} {base : Nat} {held : Bool}
theorem pair_read {n : Nat} {cs : List Value} {x : DataW H × List MemPlace} {spare : Nat → Bool} (h : DataW.trod enc Try.prog w base spare held n 66 cs = some x) : ∃ p : Int × Int, cs = prC p := by
  obtain ⟨xs, m, _, _, hcl, hlen, hg⟩ := DataW.trod_array Try.underlying66 h
  rw [show Try.prog.cellsOf 66 = 2 by kernel_rfl] at hcl
  rw [show Try.prog.cellsOf 3 = 1 by kernel_rfl] at hg
  match cs, hcl with
  | [a, b], _ =>
    have h0 := hg 0 (by decide)
    have h1 := hg 1 (by decide)
    rw [List.getElem?_eq_getElem (by omega)] at h0 h1
    obtain ⟨z0, e0, _, _⟩ := DataW.trod_int Try.underlying3 h0
    obtain ⟨z1, e1, _, _⟩ := DataW.trod_int Try.underlying3 h1
    simp at e0 e1
    subst e0 e1
    exact ⟨(z0, z1), rfl⟩
theorem braid_one : ∃ fs, Try.prog.underlying 26 = some (.struct fs) ∧ oneCellFields Try.prog fs = true ∧ fs.size = 2 ∧ Try.prog.cellsOf 26 = 2 ∧
    (fs[0]?.map (·.type) = some 22 ∧ fs[1]?.map (·.type) = some 24) :=
  ⟨_, Try.underlying26, by kernel_rfl, by kernel_rfl, by kernel_rfl, by kernel_rfl, by kernel_rfl⟩
theorem open_braid {r : Reach} {v : Value} {d : DataW H} {p0 : List MemPlace} (hok : Value.okWide Try.prog w r base 26 v) (h : DataW.Trod enc Try.prog w 0 (fun _ => true) held 26 v d p0) :
    ∃ (b : Brd) (A F : Option Addr) (c fc : Nat), v = .agg #[.slice A b.to_.length c, .slice F b.fronts.length fc] ∧ b.to_.length ≤ maxLen ∧ b.fronts.length ≤ maxLen ∧ SlI w w.heap.size A b.to_ ∧ SlPr w w.heap.size F b.fronts := by
  obtain ⟨fs, hu, hone, hsz, hC, t0, t1⟩ := braid_one
  obtain ⟨cs, rfl, hcs⟩ := okWide_struct hu hok
  obtain ⟨fuel, h⟩ := h
  have h' : DataW.trod enc Try.prog w 0 (fun _ => true) held fuel 26 cs.toList = some (d, p0) := h
  obtain ⟨xs, n', _, _, hcl, hlen, hg⟩ := DataW.trod_struct hu h'
  have hcl' : cs.toList.length = fs.size := by rw [hcl, hC, hsz]
  obtain ⟨v0, y0, c0, r0⟩ := field_read hone hlen hcl' hg t0
  obtain ⟨v1, y1, c1, r1⟩ := field_read hone hlen hcl' hg t1
  obtain ⟨a0, l0, k0, e0, _, m0, -, q0⟩ := open_elems (α := Int) Try.underlying22 (show Try.prog.cellsOf 3 = 1 by kernel_rfl) (by decide) (fun (z : Int) cs => cs = [Value.int .i64 z]) (fun _ _ _ h => by
    obtain ⟨z, e, _⟩ := DataW.trod_int Try.underlying3 h
    exact ⟨z, e⟩) r0
  obtain ⟨a1, l1, k1, e1, _, m1, -, q1⟩ := open_elems (α := Int × Int) Try.underlying24 (show Try.prog.cellsOf 66 = 2 by kernel_rfl) (by decide) (fun (p : Int × Int) cs => cs = prC p) (fun _ _ _ h => pair_read h) r1
  simp only [List.cons.injEq, and_true] at e0 e1
  subst e0 e1
  refine ⟨⟨l0, l1⟩, a0, a1, k0, k1, ?_, m0, m1, fun hn => ?_, fun hn => ?_⟩
  · rw [hsz] at hcl'
    congr 1
    apply Array.toList_inj.1
    generalize cs.toList = L at hcl' c0 c1
    match L, hcl' with
    | [_, _], _ =>
      simp only [List.getElem?_cons_zero, List.getElem?_cons_succ, Option.some.injEq] at c0 c1
      subst c0 c1
      rfl
  · obtain ⟨b, off, e, hB, hc⟩ := q0 hn
    refine ⟨b, off, e, hB, fun j z hj => ?_⟩
    obtain ⟨cs', e', _, hcc⟩ := hc j z hj
    subst e'
    have := hcc 0 _ rfl
    simpa using this
  · obtain ⟨b, off, e, hB, hc⟩ := q1 (by simpa using hn)
    refine ⟨b, off, e, hB, fun j cs hj i v hv => ?_⟩
    rw [List.getElem?_map] at hj
    cases hl : l1[j]? with
    | none => rw [hl] at hj; cases hj
    | some p =>
      rw [hl] at hj
      simp only [Option.map_some, Option.some.injEq] at hj
      subst hj
      obtain ⟨cs', e', _, hcc⟩ := hc j p hl
      subst e'
      exact hcc i v hv
end
end Go.Proofs.Ytodjkifcbgmckaa
