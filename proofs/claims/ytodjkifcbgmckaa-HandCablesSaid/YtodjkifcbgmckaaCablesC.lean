/- HandCables: a cable can be worked with one cable needle, and more cable needles never make a braid impossible, for every stitch, braid, list of depths and number. -/
import Derived.Test.YtodjkifcbgmckaaMvOpen
import Derived.Test.YtodjkifcbgmckaaHsm
import Derived.Test.YtodjkifcbgmckaaElems
import Derived.Test.YtodjkifcbgmckaaSt2
import Derived.Test.YtodjkifcbgmckaaOpen
import Derived.Test.YtodjkifcbgmckaaCablesB
import Derived.Test.YtodjkifcbgmckaaLaw
import Derived.SizedLaws
namespace Go.Proofs.Ytodjkifcbgmckaa
open Go.ChangeShapes Go.WideShapes Go.ChangeAt Go.RowKit Go.Deep
set_option maxRecDepth 100000

section
variable {H : Type} {enc : TypeId × Value → H} {w : World} {base : Nat} {held : Bool}
theorem pair_read {n : Nat} {cs : List Value} {x : DataW H × List MemPlace} {spare : Nat → Bool} (h : DataW.trod enc Try.prog w base spare held n 66 cs = some x) : ∃ p : Int × Int, cs = prC p := by
  obtain ⟨xs, m, _, _, hcl, hlen, hg⟩ := DataW.trod_array Try.underlying66 h
  rw [show Try.prog.cellsOf 66 = 2 by kernel_rfl] at hcl
  rw [show Try.prog.cellsOf 3 = 1 by kernel_rfl] at hg
  match cs, hcl with
  | [a, b], _ =>
    have h0 := hg 0 (by decide)
    have h1 := hg 1 (by decide)
    rw [List.getElem?_eq_getElem (by omega)] at h0 h1
    obtain ⟨z0, e0, _, _⟩ := DataW.trod_int Try.underlying3 h0
    obtain ⟨z1, e1, _, _⟩ := DataW.trod_int Try.underlying3 h1
    simp at e0 e1
    subst e0 e1
    exact ⟨(z0, z1), rfl⟩
theorem braid_one : ∃ fs, Try.prog.underlying 26 = some (.struct fs) ∧ oneCellFields Try.prog fs = true ∧ fs.size = 2 ∧ Try.prog.cellsOf 26 = 2 ∧
    (fs[0]?.map (·.type) = some 22 ∧ fs[1]?.map (·.type) = some 24) :=
  ⟨_, Try.underlying26, by kernel_rfl, by kernel_rfl, by kernel_rfl, by kernel_rfl, by kernel_rfl⟩
theorem open_braid {r : Reach} {v : Value} {d : DataW H} {p0 : List MemPlace} (hok : Value.okWide Try.prog w r base 26 v) (h : DataW.Trod enc Try.prog w 0 (fun _ => true) held 26 v d p0) :
    ∃ (b : Brd) (A F : Option Addr) (c fc : Nat), v = .agg #[.slice A b.to_.length c, .slice F b.fronts.length fc] ∧ b.to_.length ≤ maxLen ∧ b.fronts.length ≤ maxLen ∧ SlI w w.heap.size A b.to_ ∧ SlPr w w.heap.size F b.fronts := by
  obtain ⟨fs, hu, hone, hsz, hC, t0, t1⟩ := braid_one
  obtain ⟨cs, rfl, hcs⟩ := okWide_struct hu hok
  obtain ⟨fuel, h⟩ := h
  have h' : DataW.trod enc Try.prog w 0 (fun _ => true) held fuel 26 cs.toList = some (d, p0) := h
  obtain ⟨xs, n', _, _, hcl, hlen, hg⟩ := DataW.trod_struct hu h'
  have hcl' : cs.toList.length = fs.size := by rw [hcl, hC, hsz]
  obtain ⟨v0, y0, c0, r0⟩ := field_read hone hlen hcl' hg t0
  obtain ⟨v1, y1, c1, r1⟩ := field_read hone hlen hcl' hg t1
  obtain ⟨a0, l0, k0, e0, _, m0, -, q0⟩ := open_elems (α := Int) Try.underlying22 (show Try.prog.cellsOf 3 = 1 by kernel_rfl) (by decide) (fun (z : Int) cs => cs = [Value.int .i64 z]) (fun _ _ _ h => by
    obtain ⟨z, e, _⟩ := DataW.trod_int Try.underlying3 h
    exact ⟨z, e⟩) r0
  obtain ⟨a1, l1, k1, e1, _, m1, -, q1⟩ := open_elems (α := Int × Int) Try.underlying24 (show Try.prog.cellsOf 66 = 2 by kernel_rfl) (by decide) (fun (p : Int × Int) cs => cs = prC p) (fun _ _ _ h => pair_read h) r1
  simp only [List.cons.injEq, and_true] at e0 e1
  subst e0 e1
  refine ⟨⟨l0, l1⟩, a0, a1, k0, k1, ?_, m0, m1, fun hn => ?_, fun hn => ?_⟩
  · rw [hsz] at hcl'
    congr 1
    apply Array.toList_inj.1
    generalize cs.toList = L at hcl' c0 c1
    match L, hcl' with
    | [_, _], _ =>
      simp only [List.getElem?_cons_zero, List.getElem?_cons_succ, Option.some.injEq] at c0 c1
      subst c0 c1
      rfl
  · obtain ⟨b, off, e, hB, hc⟩ := q0 hn
    refine ⟨b, off, e, hB, fun j z hj => ?_⟩
    obtain ⟨cs', e', _, hcc⟩ := hc j z hj
    subst e'
    have := hcc 0 _ rfl
    simpa using this
  · obtain ⟨b, off, e, hB, hc⟩ := q1 (by simpa using hn)
    refine ⟨b, off, e, hB, fun j cs hj i v hv => ?_⟩
    rw [List.getElem?_map] at hj
    cases hl : l1[j]? with
    | none => rw [hl] at hj; cases hj
    | some p =>
      rw [hl] at hj
      simp only [Option.map_some, Option.some.injEq] at hj
      subst hj
      obtain ⟨cs', e', _, hcc⟩ := hc j p hl
      subst e'
      exact hcc i v hv
end
end Go.Proofs.Ytodjkifcbgmckaa
namespace Go.Proofs.Ytodjkifcbgmckaa
open Go.ChangeShapes Go.WideShapes Go.ChangeAt Go.RowKit Go.Deep
set_option maxRecDepth 100000

section
variable {H : Type} {enc : TypeId × Value → H} {w : World} {base : Nat} {held : Bool}
theorem stitch_one : ∃ fs, Try.prog.underlying 35 = some (.struct fs) ∧ oneCellFields Try.prog fs = true ∧ fs.size = 4 ∧ Try.prog.cellsOf 35 = 4 ∧
    (fs[0]?.map (·.type) = some 5 ∧ fs[1]?.map (·.type) = some 4 ∧ fs[2]?.map (·.type) = some 3 ∧ fs[3]?.map (·.type) = some 3) :=
  ⟨_, Try.underlying35, by kernel_rfl, by kernel_rfl, by kernel_rfl, by kernel_rfl, by kernel_rfl, by kernel_rfl, by kernel_rfl⟩
theorem stitch_read {n : Nat} {cs : List Value} {x : DataW H × List MemPlace} {spare : Nat → Bool} (h : DataW.trod enc Try.prog w base spare held n 35 cs = some x) : ∃ s : Stc, cs = s.cells ∧ s.wf := by
  obtain ⟨fs, hu, hone, hsz, hC, t0, t1, t2, t3⟩ := stitch_one
  obtain ⟨xs, n', _, _, hcl, hlen, hg⟩ := DataW.trod_struct hu h
  have hcl' : cs.length = fs.size := by rw [hcl, hC, hsz]
  obtain ⟨v0, y0, c0, r0⟩ := field_read hone hlen hcl' hg t0
  obtain ⟨v1, y1, c1, r1⟩ := field_read hone hlen hcl' hg t1
  obtain ⟨v2, y2, c2, r2⟩ := field_read hone hlen hcl' hg t2
  obtain ⟨v3, y3, c3, r3⟩ := field_read hone hlen hcl' hg t3
  obtain ⟨z0, e0, _, w0⟩ := DataW.trod_int Try.underlying5 r0
  obtain ⟨z1, e1, _⟩ := DataW.trod_bool Try.underlying4 r1
  obtain ⟨z2, e2, _, _⟩ := DataW.trod_int Try.underlying3 r2
  obtain ⟨z3, e3, _, _⟩ := DataW.trod_int Try.underlying3 r3
  simp only [List.cons.injEq, and_true] at e0 e1 e2 e3
  subst e0 e1 e2 e3
  refine ⟨⟨z0, z1, z2, z3⟩, ?_, (bounds_u8 w0).1, (bounds_u8 w0).2⟩
  rw [hsz] at hcl'
  match cs, hcl' with
  | [_, _, _, _], _ =>
    simp only [List.getElem?_cons_zero, List.getElem?_cons_succ, Option.some.injEq] at c0 c1 c2 c3
    subst c0 c1 c2 c3
    rfl
instance : Inhabited Stc := ⟨⟨0, false, 0, 0⟩⟩
theorem open_stitch {r : Reach} {v : Value} {d : DataW H} {p0 : List MemPlace} (hok : Value.okWide Try.prog w r base 35 v) (h : DataW.Trod enc Try.prog w 0 (fun _ => true) held 35 v d p0) :
    ∃ s : Stc, v = s.val ∧ s.wf := by
  obtain ⟨fs, hu, -⟩ := stitch_one
  obtain ⟨cs, rfl, hcs⟩ := okWide_struct hu hok
  obtain ⟨fuel, h⟩ := h
  have h' : DataW.trod enc Try.prog w 0 (fun _ => true) held fuel 35 cs.toList = some (d, p0) := h
  obtain ⟨s, e, hw⟩ := stitch_read h'
  refine ⟨s, ?_, hw⟩
  unfold Stc.val
  congr 1
  exact Array.toList_inj.1 e
end
end Go.Proofs.Ytodjkifcbgmckaa
namespace Go.Proofs.Ytodjkifcbgmckaa.lawCables
open Go.ChangeShapes Go.WideShapes Go.ChangeAt Go.RowKit

theorem ints_reach {H : Type} {enc : TypeId × Value → H} {w : World} {base fuel : Nat} {held : Bool} {A : Option Addr} {len cap : Nat} {x : DataW H × List MemPlace} {ts : List TypeId} {ds : List (DataW H)} {j : Nat}
    (h : DataW.trod enc Try.prog w base (fun _ => true) held fuel 22 [.slice A len cap] = some x) (hsz : (DataW.weightsEach Try.prog ts ds).all (· ≤ reachBytes) = true) (ht : ts[j]? = some 22) (hd : ds[j]? = some x.1) : len * 8 ≤ 140737488351232 := by
  rcases open_ints Try.underlying22 Try.underlying3 (by kernel_rfl) h with ⟨hcs, _⟩ | ⟨a, len', cap', zs, hcs, _, hl, hm, hz, hx, _, _⟩
  · simp only [List.cons.injEq, Value.slice.injEq, and_true] at hcs
    obtain ⟨rfl, rfl, rfl⟩ := hcs
    decide
  · simp only [List.cons.injEq, Value.slice.injEq, and_true] at hcs
    obtain ⟨rfl, rfl, rfl⟩ := hcs
    simp only [if_true] at hz
    subst hx
    have := sized_slice hsz ht hd Try.underlying22
    have hb : Try.prog.bytesOf 3 = 8 := by kernel_rfl
    rw [hb] at this
    simp only [lits, List.length_map, List.length_take, List.length_drop, reachBytes] at this
    omega

theorem own : ownKnob Try.prog.godebug = none := by kernel_rfl
theorem laidOut : laidOutB Try.prog = true := by kernel_rfl
theorem reads : ∀ t ∈ Try.f7.params.toList, Try.prog.readableRec t = true ∧ t < Try.prog.types.size := by
  have h0 : Try.prog.readableRec 35 = true := by kernel_rfl
  have g0 : 35 < Try.prog.types.size := of_decide_eq_true (by kernel_rfl)
  have h1 : Try.prog.readableRec 26 = true := by kernel_rfl
  have g1 : 26 < Try.prog.types.size := of_decide_eq_true (by kernel_rfl)
  have h2 : Try.prog.readableRec 22 = true := by kernel_rfl
  have g2 : 22 < Try.prog.types.size := of_decide_eq_true (by kernel_rfl)
  have h3 : Try.prog.readableRec 3 = true := by kernel_rfl
  have g3 : 3 < Try.prog.types.size := of_decide_eq_true (by kernel_rfl)
  intro t ht
  rw [Try.params7] at ht
  replace ht : t ∈ [35, 26, 22, 3] := ht
  simp only [List.mem_cons, List.not_mem_nil, or_false] at ht
  rcases ht with rfl | rfl | rfl | rfl
  · exact ⟨h0, g0⟩
  · exact ⟨h1, g1⟩
  · exact ⟨h2, g2⟩
  · exact ⟨h3, g3⟩

set_option maxRecDepth 100000 in
theorem contract (H : Type) (enc : TypeId × Value → H) (W : World) (base : Nat) (args : Array Value) (ds gs : List (DataW H)) (before : List MemPlace)
    (hval : ∀ (j : Nat) t v, Try.f7.params[j]? = some t → args[j]? = some v → Value.okWide Try.prog W .any base t v)
    (hW : DataW.Whole enc Try.prog Try.f7.params.toList Rows.handCablesSpec.vars false W args.toList ds gs before)
    (hsz : (DataW.weightsEach Try.prog (Try.f7.params.toList ++ Rows.handCablesSpec.plain.varTypes Try.prog) (ds ++ gs)).all (· ≤ reachBytes) = true) :
    Calls Try.prog 7 args W fun e W' => ∃ v, e = .returned v ∧ Rows.handCablesSpec.post enc Try.prog Try.f7 false true false false W args v W' := by
  have hW' := hW
  obtain ⟨p, q, hA0, hV, rfl, hfz, hnd⟩ := hW
  have hA : DataW.TrodAll enc Try.prog W 0 (fun _ => true) true Try.f7.params.toList args.toList ds p := hA0
  rw [Try.params7] at hA hval hsz
  obtain ⟨v0, v1, v2, v3, d0, d1, d2, d3, p0, p1, p2, p3, rfl, rfl, rfl, h0, h1, h2, h3⟩ := trodAll_four hA
  obtain ⟨rfl, rfl⟩ := trodVars_none hV
  obtain ⟨s0, rfl, hws0⟩ := open_stitch (hval 0 35 v0 rfl rfl) h0
  obtain ⟨b1, A1, F1, c1, fc1, rfl, ht1, hf1, hsa1, hsf1⟩ := open_braid (hval 1 26 v1 rfl rfl) h1
  obtain ⟨a2, len2, cap2, rfl⟩ := okWide_slice Try.underlying22 (hval 2 22 v2 rfl rfl)
  obtain ⟨fuel2, hf2⟩ := h2
  obtain ⟨l2, rfl, hlc2, hlm2, hsl2⟩ := open_ints_sl hf2
  obtain ⟨x3, rfl, rfl, rfl, w3⟩ := open_int Try.underlying3 (hval 3 3 v3 rfl rfl) h3
  have hr2 := ints_reach (j := 2) hf2 hsz rfl rfl
  refine (cables_walk s0 hws0 A1 F1 c1 fc1 b1 hf1 a2 cap2 l2 hr2 x3 W hsa1 hsf1 hsl2).mono fun e W' ⟨he, hb⟩ => ?_
  subst he
  exact ⟨_, rfl, law_post laidOut Try.underlying4 (by kernel_rfl) rfl reads hW' rfl hb⟩

set_option maxRecDepth 100000 in
theorem lifted (os : Os) (started : os.Started) (H : Type) (enc : TypeId × Value → H) :
    ReturnsInHanded {} Try.checked os 7 .any (Rows.handCablesSpec.pre6 enc Try.prog Try.f7 Rows.handCablesRow.domain false) (Rows.handCablesSpec.post enc Try.prog Try.f7 false true false false) := by
  refine returnsInHanded_of_change_sized (C := Try.checked) own started (by kernel_rfl) Try.func7
    (ChangeSpec.witness6 (enc := enc) (C := Try.checked) false ⟨#[], #[.agg #[.int .u8 0, .bool false, .int .i64 0, .int .i64 0], .agg #[.slice none 0 0, .slice none 0 0], .slice none 0 0, .int .i64 0], []⟩ 8 (by kernel_rfl) (by kernel_rfl) (by kernel_rfl) (by kernel_rfl)) ?_
  intro W base args ds gs before hval hW _ hsz _
  exact contract H enc W base args ds gs before hval hW hsz

theorem proved : Rows.HandCablesSaid :=
  OpenClaim.holds_of_wide 7 Try.f7 rfl rfl rfl rfl rfl rfl rfl ⟨rfl, rfl, rfl, rfl, rfl⟩ rfl rfl rfl rfl rfl (by kernel_rfl) Try.func7 (by kernel_rfl)
    (of_decide_eq_true (by kernel_rfl)) (by unfold Func.isWrapper; rw [if_neg (of_decide_eq_false (by kernel_rfl))]; exact ⟨rfl, rfl⟩)
    (fun os started H enc _ => lifted os started H enc)
end Go.Proofs.Ytodjkifcbgmckaa.lawCables
