/- Arguments opened: a state. -/
import Derived.Test.YtjoglkamhjcmhaaElems
import Derived.Test.YtjoglkamhjcmhaaBd0
namespace Go.Proofs.Ytjoglkamhjcmhaa
open Go.ChangeShapes Go.WideShapes Go.ChangeAt Go.RowKit Go.Deep
set_option maxRecDepth 100000

section
variable {H : Type} {enc : TypeId × Value → H} {w : World} {base : Nat} {held : Bool}
instance : Inhabited Hk := ⟨⟨0, 0, []⟩⟩
instance : Inhabited Fd := ⟨⟨0, false, 0⟩⟩
instance : Inhabited Mk := ⟨⟨[], 0, 0, 0⟩⟩
theorem feed_one : ∃ fs, Try.prog.underlying 35 = some (.struct fs) ∧ oneCellFields Try.prog fs = true ∧ fs.size = 3 ∧ Try.prog.cellsOf 35 = 3 ∧
    (fs[0]?.map (·.type) = some 3 ∧ fs[1]?.map (·.type) = some 4 ∧ fs[2]?.map (·.type) = some 3) :=
  ⟨_, Try.underlying35, by kernel_rfl, by kernel_rfl, by kernel_rfl, by kernel_rfl, by kernel_rfl, by kernel_rfl⟩
theorem feed_read {n : Nat} {cs : List Value} {x : DataW H × List MemPlace} {spare : Nat → Bool} (h : DataW.trod enc Try.prog w base spare held n 35 cs = some x) : ∃ f : Fd, cs = f.cells := by
  obtain ⟨fs, hu, hone, hsz, hC, t0, t1, t2⟩ := feed_one
  obtain ⟨xs, n', _, _, hcl, hlen, hg⟩ := DataW.trod_struct hu h
  have hcl' : cs.length = fs.size := by rw [hcl, hC, hsz]
  obtain ⟨v0, y0, c0, r0⟩ := field_read hone hlen hcl' hg t0
  obtain ⟨v1, y1, c1, r1⟩ := field_read hone hlen hcl' hg t1
  obtain ⟨v2, y2, c2, r2⟩ := field_read hone hlen hcl' hg t2
  obtain ⟨z0, e0, _, _⟩ := DataW.trod_int Try.underlying3 r0
  obtain ⟨z1, e1, _⟩ := DataW.trod_bool Try.underlying4 r1
  obtain ⟨z2, e2, _, _⟩ := DataW.trod_int Try.underlying3 r2
  simp only [List.cons.injEq, and_true] at e0 e1 e2
  subst e0 e1 e2
  refine ⟨⟨z0, z1, z2⟩, ?_⟩
  rw [hsz] at hcl'
  match cs, hcl' with
  | [_, _, _], _ =>
    simp only [List.getElem?_cons_zero, List.getElem?_cons_succ, Option.some.injEq] at c0 c1 c2
    subst c0 c1 c2
    rfl
theorem hook_one : ∃ fs, Try.prog.underlying 67 = some (.struct fs) ∧ oneCellFields Try.prog fs = true ∧ fs.size = 3 ∧ Try.prog.cellsOf 67 = 3 ∧
    (fs[0]?.map (·.type) = some 5 ∧ fs[1]?.map (·.type) = some 3 ∧ fs[2]?.map (·.type) = some 28) :=
  ⟨_, Try.underlying67, by kernel_rfl, by kernel_rfl, by kernel_rfl, by kernel_rfl, by kernel_rfl, by kernel_rfl⟩
def hookQ (w : World) (h : Hk) (cs : List Value) : Prop := ∃ A C, cs = [.int .u8 h.bed, .int .i64 h.at_, .slice A h.loops.length C] ∧ h.loops.length ≤ C ∧ h.wf ∧ SlI w w.heap.size A h.loops
theorem hook_read {n : Nat} {cs : List Value} {x : DataW H × List MemPlace} (h : DataW.trod enc Try.prog w base (fun _ => true) held n 67 cs = some x) : ∃ r : Hk, hookQ w r cs := by
  obtain ⟨fs, hu, hone, hsz, hC, t0, t1, t2⟩ := hook_one
  obtain ⟨xs, n', _, _, hcl, hlen, hg⟩ := DataW.trod_struct hu h
  have hcl' : cs.length = fs.size := by rw [hcl, hC, hsz]
  obtain ⟨v0, y0, c0, r0⟩ := field_read hone hlen hcl' hg t0
  obtain ⟨v1, y1, c1, r1⟩ := field_read hone hlen hcl' hg t1
  obtain ⟨v2, y2, c2, r2⟩ := field_read hone hlen hcl' hg t2
  obtain ⟨z0, e0, _, w0⟩ := DataW.trod_int Try.underlying5 r0
  obtain ⟨z1, e1, _, _⟩ := DataW.trod_int Try.underlying3 r1
  obtain ⟨A, l, C, e2, hlc, hs⟩ := open_ints2 r2
  simp only [List.cons.injEq, and_true] at e0 e1 e2
  subst e0 e1 e2
  refine ⟨⟨z0, z1, l⟩, A, C, ?_, hlc, ⟨(bounds_u8 w0).1, (bounds_u8 w0).2⟩, hs⟩
  rw [hsz] at hcl'
  match cs, hcl' with
  | [_, _, _], _ =>
    simp only [List.getElem?_cons_zero, List.getElem?_cons_succ, Option.some.injEq] at c0 c1 c2
    subst c0 c1 c2
    rfl
theorem made_one : ∃ fs, Try.prog.underlying 65 = some (.struct fs) ∧ oneCellFields Try.prog fs = true ∧ fs.size = 4 ∧ Try.prog.cellsOf 65 = 4 ∧
    (fs[0]?.map (·.type) = some 28 ∧ fs[1]?.map (·.type) = some 5 ∧ fs[2]?.map (·.type) = some 3 ∧ fs[3]?.map (·.type) = some 3) :=
  ⟨_, Try.underlying65, by kernel_rfl, by kernel_rfl, by kernel_rfl, by kernel_rfl, by kernel_rfl, by kernel_rfl, by kernel_rfl⟩
def madeQ (w : World) (m : Mk) (cs : List Value) : Prop := ∃ A C, cs = [.slice A m.parents.length C, .int .u8 m.bed, .int .i64 m.at_, .int .i64 m.car] ∧ m.parents.length ≤ C ∧ m.wf ∧ SlI w w.heap.size A m.parents
theorem made_read {n : Nat} {cs : List Value} {x : DataW H × List MemPlace} (h : DataW.trod enc Try.prog w base (fun _ => true) held n 65 cs = some x) : ∃ r : Mk, madeQ w r cs := by
  obtain ⟨fs, hu, hone, hsz, hC, t0, t1, t2, t3⟩ := made_one
  obtain ⟨xs, n', _, _, hcl, hlen, hg⟩ := DataW.trod_struct hu h
  have hcl' : cs.length = fs.size := by rw [hcl, hC, hsz]
  obtain ⟨v0, y0, c0, r0⟩ := field_read hone hlen hcl' hg t0
  obtain ⟨v1, y1, c1, r1⟩ := field_read hone hlen hcl' hg t1
  obtain ⟨v2, y2, c2, r2⟩ := field_read hone hlen hcl' hg t2
  obtain ⟨v3, y3, c3, r3⟩ := field_read hone hlen hcl' hg t3
  obtain ⟨A, l, C, e0, hlc, hs⟩ := open_ints2 r0
  obtain ⟨z1, e1, _, w1⟩ := DataW.trod_int Try.underlying5 r1
  obtain ⟨z2, e2, _, _⟩ := DataW.trod_int Try.underlying3 r2
  obtain ⟨z3, e3, _, _⟩ := DataW.trod_int Try.underlying3 r3
  simp only [List.cons.injEq, and_true] at e0 e1 e2 e3
  subst e0 e1 e2 e3
  refine ⟨⟨l, z1, z2, z3⟩, A, C, ?_, hlc, ⟨(bounds_u8 w1).1, (bounds_u8 w1).2⟩, hs⟩
  rw [hsz] at hcl'
  match cs, hcl' with
  | [_, _, _, _], _ =>
    simp only [List.getElem?_cons_zero, List.getElem?_cons_succ, Option.some.injEq] at c0 c1 c2 c3
    subst c0 c1 c2 c3
    rfl
theorem bed_one : ∃ fs, Try.prog.underlying 26 = some (.struct fs) ∧ oneCellFields Try.prog fs = true ∧ fs.size = 4 ∧ Try.prog.cellsOf 26 = 4 ∧
    (fs[0]?.map (·.type) = some 3 ∧ fs[1]?.map (·.type) = some 22 ∧ fs[2]?.map (·.type) = some 23 ∧ fs[3]?.map (·.type) = some 24) :=
  ⟨_, Try.underlying26, by kernel_rfl, by kernel_rfl, by kernel_rfl, by kernel_rfl, by kernel_rfl, by kernel_rfl, by kernel_rfl⟩
/-- A state that is an argument, opened. -/
theorem open_bed {r : Reach} {v : Value} {d : DataW H} {p0 : List MemPlace} (hok : Value.okWide Try.prog w r base 26 v) (h : DataW.Trod enc Try.prog w 0 (fun _ => true) held 26 v d p0) :
    ∃ (s : BedS) (p : BedP), v = s.val p ∧ s.wf ∧ BedAt w w.heap.size p s := by
  obtain ⟨fs, hu, hone, hsz, hC, t0, t1, t2, t3⟩ := bed_one
  obtain ⟨cs, rfl, hcs⟩ := okWide_struct hu hok
  obtain ⟨fuel, h⟩ := h
  have h' : DataW.trod enc Try.prog w 0 (fun _ => true) held fuel 26 cs.toList = some (d, p0) := h
  obtain ⟨xs, n', _, _, hcl, hlen, hg⟩ := DataW.trod_struct hu h'
  have hcl' : cs.toList.length = fs.size := by rw [hcl, hC, hsz]
  obtain ⟨v0, y0, c0, r0⟩ := field_read hone hlen hcl' hg t0
  obtain ⟨v1, y1, c1, r1⟩ := field_read hone hlen hcl' hg t1
  obtain ⟨v2, y2, c2, r2⟩ := field_read hone hlen hcl' hg t2
  obtain ⟨v3, y3, c3, r3⟩ := field_read hone hlen hcl' hg t3
  obtain ⟨z0, e0, _, _⟩ := DataW.trod_int Try.underlying3 r0
  obtain ⟨ah, lh, ch, e1, _, _, hqh, hch⟩ := open_elems (α := Hk) Try.underlying22 (show Try.prog.cellsOf 67 = 3 by kernel_rfl) (by decide) (fun (r : Hk) cs => hookQ w r cs) (fun _ _ _ h => hook_read h) r1
  obtain ⟨af, lf, cf, e2, _, _, _, hcf⟩ := open_elems (α := Fd) Try.underlying23 (show Try.prog.cellsOf 35 = 3 by kernel_rfl) (by decide) (fun (r : Fd) cs => cs = r.cells) (fun _ _ _ h => feed_read h) r2
  obtain ⟨am, lm, cm, e3, _, _, hqm, hcm⟩ := open_elems (α := Mk) Try.underlying24 (show Try.prog.cellsOf 65 = 4 by kernel_rfl) (by decide) (fun (r : Mk) cs => madeQ w r cs) (fun _ _ _ h => made_read h) r3
  simp only [List.cons.injEq, and_true] at e0 e1 e2 e3
  subst e0 e1 e2 e3
  refine ⟨⟨z0, lh, lf, lm⟩, ⟨ah, ch, af, cf, am, cm⟩, ?_, ⟨fun r hr => ?_, fun r hr => ?_⟩, fun hn => ?_, fun hn => ?_, fun hn => ?_⟩
  · unfold BedS.val
    rw [hsz] at hcl'
    congr 1
    apply Array.toList_inj.1
    generalize cs.toList = L at hcl' c0 c1 c2 c3
    match L, hcl' with
    | [_, _, _, _], _ =>
      simp only [List.getElem?_cons_zero, List.getElem?_cons_succ, Option.some.injEq] at c0 c1 c2 c3
      subst c0 c1 c2 c3
      rfl
  · obtain ⟨_, _, _, _, _, hw, _⟩ := hqh r hr
    exact hw
  · obtain ⟨_, _, _, _, _, hw, _⟩ := hqm r hr
    exact hw
  · obtain ⟨b, off, e, hB, hc⟩ := hch hn
    refine ⟨b, off, e, hB, fun j r hj => ?_⟩
    obtain ⟨cs', ⟨A', C', rfl, h1, _, h2⟩, _, hcc⟩ := hc j r hj
    exact ⟨A', C', hcc 0 _ rfl, hcc 1 _ rfl, hcc 2 _ rfl, h1, h2⟩
  · obtain ⟨b, off, e, hB, hc⟩ := hcf (by simpa using hn)
    refine ⟨b, off, e, hB, fun j cs hj i v hv => ?_⟩
    rw [List.getElem?_map] at hj
    cases hl : lf[j]? with
    | none => rw [hl] at hj; cases hj
    | some s =>
      rw [hl] at hj
      simp only [Option.map_some, Option.some.injEq] at hj
      obtain ⟨cs', rfl, _, hcc⟩ := hc j s hl
      subst hj
      exact hcc i v hv
  · obtain ⟨b, off, e, hB, hc⟩ := hcm hn
    refine ⟨b, off, e, hB, fun j r hj => ?_⟩
    obtain ⟨cs', ⟨A', C', rfl, h1, _, h2⟩, _, hcc⟩ := hc j r hj
    exact ⟨A', C', hcc 0 _ rfl, hcc 1 _ rfl, hcc 2 _ rfl, hcc 3 _ rfl, h1, h2⟩
end
end Go.Proofs.Ytjoglkamhjcmhaa
