/- Arguments opened: a slice of instructions, a slice of ints. -/
import Derived.Test.YtjoglkamhjcmhaaSlE
import Derived.Test.YtjoglkamhjcmhaaLaw
import Derived.Deep.Slices
import Derived.Deep.Fields
import Derived.ChangeSame
namespace Go.Proofs.Ytjoglkamhjcmhaa
open Go.ChangeShapes Go.WideShapes Go.ChangeAt Go.RowKit Go.Deep
set_option maxRecDepth 100000

section
variable {H : Type} {enc : TypeId × Value → H} {w : World} {base : Nat} {held : Bool} {spare : Nat → Bool}
theorem instr_one : ∃ fs, Try.prog.underlying 43 = some (.struct fs) ∧ oneCellFields Try.prog fs = true ∧ fs.size = 7 ∧ Try.prog.cellsOf 43 = 7 ∧
    (fs[0]?.map (·.type) = some 5 ∧ fs[1]?.map (·.type) = some 4 ∧ fs[2]?.map (·.type) = some 5 ∧ fs[3]?.map (·.type) = some 3 ∧ fs[4]?.map (·.type) = some 3 ∧ fs[5]?.map (·.type) = some 3 ∧ fs[6]?.map (·.type) = some 3) :=
  ⟨_, Try.underlying43, by kernel_rfl, by kernel_rfl, by kernel_rfl, by kernel_rfl, by kernel_rfl, by kernel_rfl, by kernel_rfl, by kernel_rfl, by kernel_rfl, by kernel_rfl⟩
theorem field_read {fs : Array Field} {n : Nat} {cs : List Value} {xs : List (DataW H × List MemPlace)} (hone : oneCellFields Try.prog fs = true) (hlen : xs.length = fs.size) (hc : cs.length = fs.size)
    (hg : ∀ (i : Nat) (f : Field), fs[i]? = some f → DataW.trod enc Try.prog w base spare held n f.type ((cs.drop f.offset).take (Try.prog.cellsOf f.type)) = xs[i]?) {j : Nat} {T : TypeId} (hT : fs[j]?.map (·.type) = some T) :
    ∃ v y, cs[j]? = some v ∧ DataW.trod enc Try.prog w base spare held n T [v] = some y := by
  obtain ⟨f, hf, rfl⟩ := Option.map_eq_some_iff.1 hT
  obtain ⟨ho, hk⟩ := hone_of hone j f hf
  have hj := (Array.getElem?_eq_some_iff.1 hf).1
  have h1 := hg j f hf
  have e : (cs.drop j).take 1 = [cs[j]'(by omega)] := by rw [List.drop_eq_getElem_cons (by omega)]; rfl
  rw [ho, hk, e, List.getElem?_eq_getElem (show j < xs.length by omega)] at h1
  exact ⟨_, _, List.getElem?_eq_getElem (by omega), h1⟩
theorem instr_read {n : Nat} {cs : List Value} {x : DataW H × List MemPlace} (h : DataW.trod enc Try.prog w base spare held n 43 cs = some x) : ∃ i : Ins, cs = i.cells ∧ i.wf := by
  obtain ⟨fs, hu, hone, hsz, hC, t0, t1, t2, t3, t4, t5, t6⟩ := instr_one
  obtain ⟨xs, n', _, _, hcl, hlen, hg⟩ := DataW.trod_struct hu h
  have hcl' : cs.length = fs.size := by rw [hcl, hC, hsz]
  obtain ⟨v0, y0, c0, r0⟩ := field_read hone hlen hcl' hg t0
  obtain ⟨v1, y1, c1, r1⟩ := field_read hone hlen hcl' hg t1
  obtain ⟨v2, y2, c2, r2⟩ := field_read hone hlen hcl' hg t2
  obtain ⟨v3, y3, c3, r3⟩ := field_read hone hlen hcl' hg t3
  obtain ⟨v4, y4, c4, r4⟩ := field_read hone hlen hcl' hg t4
  obtain ⟨v5, y5, c5, r5⟩ := field_read hone hlen hcl' hg t5
  obtain ⟨v6, y6, c6, r6⟩ := field_read hone hlen hcl' hg t6
  obtain ⟨z0, e0, _, w0⟩ := DataW.trod_int Try.underlying5 r0
  obtain ⟨z1, e1, _⟩ := DataW.trod_bool Try.underlying4 r1
  obtain ⟨z2, e2, _, w2⟩ := DataW.trod_int Try.underlying5 r2
  obtain ⟨z3, e3, _, _⟩ := DataW.trod_int Try.underlying3 r3
  obtain ⟨z4, e4, _, _⟩ := DataW.trod_int Try.underlying3 r4
  obtain ⟨z5, e5, _, _⟩ := DataW.trod_int Try.underlying3 r5
  obtain ⟨z6, e6, _, _⟩ := DataW.trod_int Try.underlying3 r6
  simp only [List.cons.injEq, and_true] at e0 e1 e2 e3 e4 e5 e6
  subst e0 e1 e2 e3 e4 e5 e6
  refine ⟨⟨z0, z1, z2, z3, z4, z5, z6⟩, ?_, (bounds_u8 w0).1, (bounds_u8 w0).2, (bounds_u8 w2).1, (bounds_u8 w2).2⟩
  rw [hsz] at hcl'
  match cs, hcl' with
  | [_, _, _, _, _, _, _], _ =>
    simp only [List.getElem?_cons_zero, List.getElem?_cons_succ, Option.some.injEq] at c0 c1 c2 c3 c4 c5 c6
    subst c0 c1 c2 c3 c4 c5 c6
    rfl
/-- A slice of instructions, opened. -/
theorem open_instrs {fuel : Nat} {A : Option Addr} {len cap : Nat} {x : DataW H × List MemPlace} (h : DataW.trod enc Try.prog w base (fun _ => true) held fuel 54 [.slice A len cap] = some x) :
    ∃ l : List Ins, l.length = len ∧ len ≤ cap ∧ len ≤ maxLen ∧ (∀ i ∈ l, i.wf) ∧ SlX w w.heap.size A l := by
  rcases open_slice Try.underlying54 h with ⟨hcs, _⟩ | ⟨a, len', cap', m, n, D, Pl, hcs, _, hl, hm, hmm, _, hr⟩
  · simp only [List.cons.injEq, Value.slice.injEq, and_true] at hcs
    obtain ⟨rfl, rfl, rfl⟩ := hcs
    exact ⟨[], rfl, Nat.le_refl _, Nat.zero_le _, by simp, SlX.nil⟩
  · simp only [List.cons.injEq, Value.slice.injEq, and_true] at hcs
    obtain ⟨rfl, rfl, rfl⟩ := hcs
    have hC : Try.prog.cellsOf 43 = 7 := by kernel_rfl
    rw [hC] at hr
    simp only [if_true] at hmm
    have hone : ∀ j, j < len → ∃ i : Ins, i.wf ∧ ∀ k v, i.cells[k]? = some v → w.cell? ((a.add (j * 7)).add k) = some v := fun j hj => by
      obtain ⟨cs', hc, ht⟩ := hr j (by omega)
      obtain ⟨_, hcl, hat⟩ := World.cells?_some hc
      obtain ⟨i, rfl, hi⟩ := instr_read ht
      exact ⟨i, hi, fun k v hv => by
        have hk := (List.getElem?_eq_some_iff.1 hv).1
        rw [Ins.cells_length] at hk
        rw [hat k (by omega)]; exact hv⟩
    refine ⟨(List.range len).map fun j => if hj : j < len then Classical.choose (hone j hj) else ⟨0, false, 0, 0, 0, 0, 0⟩, by simp, hl, by omega, fun i hi => ?_, fun hn => ?_⟩
    · obtain ⟨j, hj, rfl⟩ := List.mem_map.1 hi
      have hj' := List.mem_range.1 hj
      rw [dif_pos hj']
      exact (Classical.choose_spec (hone j hj')).1
    · have hpos : 0 < len := by
        rcases Nat.eq_zero_or_pos len with e | e
        · subst e; simp at hn
        · exact e
      obtain ⟨i0, -, h0'⟩ := hone 0 hpos
      have h0 := h0' 0 _ rfl
      rw [Nat.zero_mul] at h0
      have e0 : (a.add 0) = a := by simp [Addr.add]
      rw [e0] at h0
      obtain ⟨b, off, rfl, hB⟩ := addr_form h0
      refine ⟨b, off, rfl, hB, fun j cs hz k v hv => ?_⟩
      rw [List.getElem?_map, List.getElem?_map] at hz
      have hjl : j < len := by
        rcases Nat.lt_or_ge j len with e | e
        · exact e
        · rw [List.getElem?_eq_none (by simpa using e)] at hz; cases hz
      rw [List.getElem?_range hjl] at hz
      simp only [Option.map_some, Option.some.injEq] at hz
      subst hz
      rw [dif_pos hjl] at hv
      have := (Classical.choose_spec (hone j hjl)).2 k v hv
      rw [add_lit, add_lit] at this
      exact this
/-- A slice of ints, opened. -/
theorem open_ints_sl {fuel : Nat} {A : Option Addr} {len cap : Nat} {x : DataW H × List MemPlace} (h : DataW.trod enc Try.prog w base (fun _ => true) held fuel 28 [.slice A len cap] = some x) :
    ∃ l : List Int, l.length = len ∧ len ≤ cap ∧ len ≤ maxLen ∧ SlI w w.heap.size A l := by
  rcases open_ints Try.underlying28 Try.underlying3 (by kernel_rfl) h with ⟨hcs, _⟩ | ⟨a, len', cap', zs, hcs, _, hl, hm, hlen, _, hc, _⟩
  · simp only [List.cons.injEq, Value.slice.injEq, and_true] at hcs
    obtain ⟨rfl, rfl, rfl⟩ := hcs
    exact ⟨[], rfl, Nat.le_refl _, Nat.zero_le _, SlI.nil⟩
  · simp only [List.cons.injEq, Value.slice.injEq, and_true] at hcs
    obtain ⟨rfl, rfl, rfl⟩ := hcs
    simp only [if_true] at hlen
    refine ⟨zs.take len, by rw [List.length_take]; omega, hl, by omega, fun hn => ?_⟩
    have hpos : 0 < len := by
      rcases Nat.eq_zero_or_pos len with e | e
      · subst e; simp at hn
      · exact e
    obtain ⟨b, off, rfl, hB⟩ := addr_form (hc 0 (by omega))
    refine ⟨b, off, rfl, hB, fun j z hz => ?_⟩
    have hj := (List.getElem?_eq_some_iff.1 hz).1
    rw [List.length_take] at hj
    have := hc j (by omega)
    rw [add_lit] at this
    rw [this, List.getD]
    rw [List.getElem?_take, if_pos (by omega)] at hz
    rw [hz]; rfl
end
end Go.Proofs.Ytjoglkamhjcmhaa
