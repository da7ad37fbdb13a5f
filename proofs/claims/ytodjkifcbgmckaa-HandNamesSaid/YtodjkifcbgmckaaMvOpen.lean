/- Arguments opened: a list of moves. -/
import Derived.Test.YtodjkifcbgmckaaElems
import Derived.Test.YtodjkifcbgmckaaFlat
import Derived.Test.YtodjkifcbgmckaaHp0
namespace Go.Proofs.Ytodjkifcbgmckaa
open Go.ChangeShapes Go.WideShapes Go.ChangeAt Go.RowKit Go.Deep
set_option maxRecDepth 100000

def Mv.cells (m : Mv) : List Value := [.bool m.slip, .int .i64 m.nd]
/-- A slice of moves reads a list. -/
def SlMv (w : World) (B : Nat) (A : Option Addr) (l : List Mv) : Prop := SlS 2 w B A (l.map Mv.cells)
theorem SlMv.below {w w' : World} {B : Nat} {A : Option Addr} {l : List Mv} (h : SlMv w B A l) (hb : Below B w w') : SlMv w' B A l := SlS.below h hb
theorem SlMv.at_ {w : World} {B : Nat} {A : Option Addr} {l : List Mv} (h : SlMv w B A l) {k : Nat} (hk : k < l.length) :
    ∃ b off m, A = some ⟨b, off, none⟩ ∧ b < B ∧ l[k]? = some m ∧ w.cell? ⟨b, off + k * 2, none⟩ = some (.bool m.slip) ∧ w.cell? ⟨b, off + k * 2 + 1, none⟩ = some (.int .i64 m.nd) := by
  obtain ⟨b, off, cs, e, hB, hz, hc⟩ := SlS.at_ h (k := k) (by simpa using hk)
  rw [List.getElem?_map] at hz
  cases hl : l[k]? with
  | none => rw [hl] at hz; cases hz
  | some i =>
    rw [hl] at hz
    simp only [Option.map_some, Option.some.injEq] at hz
    subst hz
    exact ⟨b, off, i, e, hB, rfl, hc 0 _ rfl, hc 1 _ rfl⟩
section
variable {H : Type} {enc : TypeId × Value → H} {w : World} {base : Nat} {held : Bool}
instance : Inhabited Mv := ⟨⟨false, 0⟩⟩
theorem move_one : ∃ fs, Try.prog.underlying 69 = some (.struct fs) ∧ oneCellFields Try.prog fs = true ∧ fs.size = 2 ∧ Try.prog.cellsOf 69 = 2 ∧
    (fs[0]?.map (·.type) = some 4 ∧ fs[1]?.map (·.type) = some 3) :=
  ⟨_, Try.underlying69, by kernel_rfl, by kernel_rfl, by kernel_rfl, by kernel_rfl, by kernel_rfl⟩
theorem move_read {n : Nat} {cs : List Value} {x : DataW H × List MemPlace} {spare : Nat → Bool} (h : DataW.trod enc Try.prog w base spare held n 69 cs = some x) : ∃ f : Mv, cs = f.cells := by
  obtain ⟨fs, hu, hone, hsz, hC, t0, t1⟩ := move_one
  obtain ⟨xs, n', _, _, hcl, hlen, hg⟩ := DataW.trod_struct hu h
  have hcl' : cs.length = fs.size := by rw [hcl, hC, hsz]
  obtain ⟨v0, y0, c0, r0⟩ := field_read hone hlen hcl' hg t0
  obtain ⟨v1, y1, c1, r1⟩ := field_read hone hlen hcl' hg t1
  obtain ⟨z0, e0, _⟩ := DataW.trod_bool Try.underlying4 r0
  obtain ⟨z1, e1, _, _⟩ := DataW.trod_int Try.underlying3 r1
  simp only [List.cons.injEq, and_true] at e0 e1
  subst e0 e1
  refine ⟨⟨z0, z1⟩, ?_⟩
  rw [hsz] at hcl'
  match cs, hcl' with
  | [_, _], _ =>
    simp only [List.getElem?_cons_zero, List.getElem?_cons_succ, Option.some.injEq] at c0 c1
    subst c0 c1
    rfl
theorem open_moves {fuel : Nat} {cs : List Value} {x : DataW H × List MemPlace} (h : DataW.trod enc Try.prog w base (fun _ => true) held fuel 23 cs = some x) :
    ∃ (A : Option Addr) (l : List Mv) (cap : Nat), cs = [.slice A l.length cap] ∧ l.length ≤ cap ∧ l.length ≤ maxLen ∧ SlMv w w.heap.size A l := by
  obtain ⟨fs, hu, hone, hsz, hC, -⟩ := move_one
  obtain ⟨A, l, cap, e, h1, h2, -, h4⟩ := open_elems Try.underlying23 hC (by decide) (fun (m : Mv) cs => cs = m.cells) (fun n cs x hx => move_read hx) h
  refine ⟨A, l, cap, e, h1, h2, fun hn => ?_⟩
  obtain ⟨b, off, ea, hb, hat⟩ := h4 (by intro e; subst e; exact hn rfl)
  refine ⟨b, off, ea, hb, fun j cs hj i v hv => ?_⟩
  rw [List.getElem?_map] at hj
  cases hl : l[j]? with
  | none => rw [hl] at hj; cases hj
  | some m =>
    rw [hl] at hj
    simp only [Option.map_some, Option.some.injEq] at hj
    subst hj
    obtain ⟨c, rfl, -, hc⟩ := hat j m hl
    exact hc i v hv
end
end Go.Proofs.Ytodjkifcbgmckaa
