/- The frame of every law: a call that answers true and turns nothing that lay gives the row's post; arguments opened. Arguments opened: a slice of instructions, a slice of ints. Arguments opened: a chart. -/
import Derived.Test.YtbnddpknejgmhaaGreatKP1
import Derived.Test.YtbnddpknejgmhaaGreatKP17
import Derived.ProofKit
import Derived.OpenShut
import Derived.Deep.Matrix
import Derived.Deep.Slices
import Derived.Deep.Fields
import Derived.ChangeSame
namespace Go.Proofs.YtbnddpknejgmhaaGreat
open Go.ChangeShapes Go.WideShapes Go.ChangeAt Go.RowKit Go.Deep

section
variable {H : Type} {enc : TypeId × Value → H} {P : Program}
theorem post_of_below {f : Func} {s : ChangeSpec} {apart fresh handsOn again : Bool} {W W' : World} {args : Array Value} {v : Value} {ds gs : List (DataW H)} {before pa pv : List MemPlace}
    (hW : DataW.Whole enc P f.params.toList s.vars apart W args.toList ds gs before)
    (hres : ∀ (b : Nat) (sp : Nat → Bool) (hd : Bool), DataW.TrodAll enc P W' b sp hd f.resultTypes.toList (v.resultList f.resultTypes.size) (s.fn H (ds ++ gs)).results [])
    (hargs : ∀ sp : Nat → Bool, (∀ p ∈ before, sp p.block = true) → DataW.TrodAll enc P W' 0 sp true f.params.toList args.toList (s.fn H (ds ++ gs)).args pa)
    (hvars : ∀ sp : Nat → Bool, (∀ p ∈ before, sp p.block = true) → DataW.TrodVars enc P W' sp s.vars (s.fn H (ds ++ gs)).vars pv)
    (hps : before = pa ++ pv) (hb : Below W.heap.size W W')
    (hok : ∀ (j : Nat) (t : TypeId) (r : Value), f.resultTypes[j]? = some t → (v.resultList f.resultTypes.size)[j]? = some r → Value.okWide P W' .any 0 t r) :
    s.post enc P f apart fresh handsOn again W args v W' := by
  have hlt : ∀ p ∈ before, p.block < W.heap.size := fun p hp => hW.lt p hp
  have hold : ∀ p ∈ before, (fun b => decide (b < W.heap.size)) p.block = true := fun p hp => by simpa using hlt p hp
  refine ⟨ds, gs, before, [], pa, pv, hW, hres _ _ _, hargs _ hold, hvars _ hold, World.keptBut_mono (fun p hp => ⟨hp, ?_⟩) (hb.frame (· ∈ before)), fun _ => ?_⟩
  · rw [hps, List.mem_append] at hp
    exact Or.inr hp
  · obtain ⟨_, _, _, _, _, hz, hn⟩ := hW
    refine ⟨hok, _, _, ([] ++ pa) ++ pv, ⟨[] ++ pa, pv, trodAll_append (hargs _ (fun _ _ => rfl)) (hres _ _ _), hvars _ (fun _ _ => rfl), rfl, ?_, ?_⟩, ?_⟩
    · intro b off hp
      have hin : MemPlace.cell b off ∈ before := by rw [hps]; simpa using hp
      rw [hb.frozen (hlt _ hin)]
      exact hz b off hin
    · intro ha
      have := hn ha
      rw [hps] at this
      simpa using this
    · intro p hp _
      rw [hps]
      simpa using hp

/-- Arguments read again behind a call that turned nothing that lay. -/
theorem trodAll_stays (hl : laidOutB P = true) {W W' : World} {sp : Nat → Bool} (hb : Below W.heap.size W W') : ∀ (ts : List TypeId) (vs : List Value) (ds : List (DataW H)) (ps : List MemPlace),
    DataW.TrodAll enc P W 0 (fun _ => true) true ts vs ds ps → (∀ x ∈ ps, x.block < W.heap.size) → (∀ x ∈ ps, sp x.block = true) → (∀ t ∈ ts, P.readableRec t = true ∧ t < P.types.size) →
    DataW.TrodAll enc P W' 0 sp true ts vs ds ps
  | [], vs, ds, ps, h, _, _, _ => by
    obtain ⟨rfl, rfl, rfl⟩ := trodAll_nil h
    exact trodAll_mk0
  | t :: ts, vs, ds, ps, h, hlt, hsp, hr => by
    obtain ⟨v0, vs0, d0, ds0, p0, q0, rfl, rfl, rfl, h0, r0⟩ := trodAll_cons h
    have hr0 := hr t (List.mem_cons_self ..)
    exact trodAll_cons_mk (WideElems.Trod_stays hl hr0.1 hr0.2 h0 (fun x hx => hb.same (hlt x (List.mem_append_left _ hx))) (fun x hx => hsp x (List.mem_append_left _ hx)))
      (trodAll_stays hl hb ts vs0 ds0 q0 r0 (fun x hx => hlt x (List.mem_append_right _ hx)) (fun x hx => hsp x (List.mem_append_right _ hx)) (fun t ht => hr t (List.mem_cons_of_mem _ ht)))

/-- THE LAW's POST: true is handed back, nothing that lay has turned. -/
theorem law_post (hl : laidOutB P = true) {f : Func} {s : ChangeSpec} {T : TypeId} (hT : P.underlying T = some .bool) (hrt : f.resultTypes = #[T]) (hvs : s.vars = []) (hr : ∀ t ∈ f.params.toList, P.readableRec t = true ∧ t < P.types.size)
    {W W' : World} {args : Array Value} {ds gs : List (DataW H)} {before : List MemPlace}
    (hW : DataW.Whole enc P f.params.toList s.vars false W args.toList ds gs before)
    (hfn : s.fn H (ds ++ gs) = { results := [.lit (.bool true)], args := ds }) (hb : Below W.heap.size W W') :
    s.post enc P f false true false false W args (.bool true) W' := by
  have hW' := hW
  obtain ⟨p, q, hA, hV, rfl, hfz, hnd⟩ := hW
  rw [hvs] at hV
  obtain ⟨rfl, rfl⟩ := trodVars_none hV
  simp only [List.append_nil] at hW' hfn
  refine post_of_below (pa := p) (pv := []) hW' ?_ ?_ ?_ (by simp) hb (ok_one hrt rfl (okWide_bool_mk hT true))
  · intro b sp hd
    rw [hrt]
    simp only [List.append_nil, hfn]
    exact trodAll_cons_mk (shut_bool hT true) trodAll_mk0
  · intro sp hsp
    simp only [List.append_nil, hfn]
    exact trodAll_stays hl hb _ _ _ _ hA (fun x hx => hW'.lt x hx) hsp hr
  · intro sp hsp
    rw [hvs]
    simp only [List.append_nil, hfn]
    exact rfl
end

/-- An address that bears a cell stands in a block that lies, and points at no spot within a cell. -/
theorem addr_of_cell {w : World} {a : Addr} {v : Value} (h : w.cell? a = some v) : a.block < w.heap.size ∧ a.spot = none := by
  unfold World.cell? at h
  cases ho : w.heap[a.block]? with
  | none => simp [ho] at h
  | some o =>
    refine ⟨(Array.getElem?_eq_some_iff.1 ho).1, ?_⟩
    cases o with
    | cells cs t f =>
      simp only [ho] at h
      cases hs : a.spot with
      | none => rfl
      | some s => simp [hs] at h
    | _ => simp [ho] at h
theorem addr_form {w : World} {a : Addr} {v : Value} (h : w.cell? (a.add 0) = some v) : ∃ b off, a = ⟨b, off, none⟩ ∧ b < w.heap.size := by
  have e : a.add 0 = a := by simp [Addr.add]
  rw [e] at h
  obtain ⟨h1, h2⟩ := addr_of_cell h
  exact ⟨a.block, a.off, by cases a; simp_all, h1⟩
theorem add_lit (b off j : Nat) : (⟨b, off, none⟩ : Addr).add j = ⟨b, off + j, none⟩ := by
  unfold Addr.add; split <;> simp_all

section
variable {H : Type} {enc : TypeId × Value → H} {P : Program} {w : World} {base : Nat} {held : Bool}
/-- An argument that is a slice of slices of ints, opened. -/
theorem open_rows_sl {t e q : TypeId} {fuel : Nat} {A : Option Addr} {len cap : Nat} {x : DataW H × List MemPlace} (ht : P.underlying t = some (.slice e)) (he : P.underlying e = some (.slice q)) (hq : P.underlying q = some (.int .i64))
    (ce : P.cellsOf e = 1) (cq : P.cellsOf q = 1) (h : DataW.trod enc P w base (fun _ => true) held fuel t [.slice A len cap] = some x) :
    ∃ p : List (List Int), p.length = len ∧ SlRows w w.heap.size A p := by
  rcases open_int_rows ht he hq ce cq h with ⟨hcs, _⟩ | ⟨a, len', cap', A', L, C, Z, hcs, _, hl, _, _, hr⟩
  · simp only [List.cons.injEq, Value.slice.injEq, and_true] at hcs
    obtain ⟨rfl, rfl, rfl⟩ := hcs
    exact ⟨[], rfl, fun h => absurd rfl h⟩
  · simp only [List.cons.injEq, Value.slice.injEq, and_true] at hcs
    obtain ⟨rfl, rfl, rfl⟩ := hcs
    refine ⟨(List.range len).map fun r => (Z r).take (L r), by simp, fun hn => ?_⟩
    have hpos : 0 < len := by
      rcases Nat.eq_zero_or_pos len with e | e
      · subst e; simp at hn
      · exact e
    obtain ⟨b, off, rfl, hB⟩ := addr_form (hr 0 (by omega)).1
    refine ⟨b, off, rfl, hB, fun j row hj => ?_⟩
    rw [List.getElem?_map] at hj
    have hjl : j < len := by
      rcases Nat.lt_or_ge j len with e | e
      · exact e
      · rw [List.getElem?_eq_none (by simpa using e)] at hj; cases hj
    rw [List.getElem?_range hjl] at hj
    simp only [Option.map_some, Option.some.injEq] at hj
    subst hj
    obtain ⟨hc, hLC, _, hZ, _, hnil, hcell⟩ := hr j (by omega)
    rw [add_lit] at hc
    have hlen : ((Z j).take (L j)).length = L j := by rw [List.length_take]; omega
    refine ⟨A' j, C j, by rw [hlen]; exact hc, by omega, fun hne => ?_⟩
    have hLpos : 0 < L j := by
      rcases Nat.eq_zero_or_pos (L j) with e | e
      · rw [e] at hne; simp at hne
      · exact e
    cases hA : A' j with
    | none => have := hnil hA; omega
    | some a' =>
      have hcl := (hcell a' hA).2
      obtain ⟨b', off', rfl, hB'⟩ := addr_form (hcl 0 (by omega))
      refine ⟨b', off', rfl, hB', fun i z hz => ?_⟩
      have hi : i < L j := by
        have := (List.getElem?_eq_some_iff.1 hz).1
        omega
      have := hcl i (by omega)
      rw [add_lit] at this
      rw [this]
      rw [List.getElem?_take, if_pos hi] at hz
      rw [List.getD, hz]; rfl
end
end Go.Proofs.YtbnddpknejgmhaaGreat
namespace Go.Proofs.YtbnddpknejgmhaaGreat
open Go.ChangeShapes Go.WideShapes Go.ChangeAt Go.RowKit Go.Deep
set_option maxRecDepth 100000

section
variable {H : Type} {enc : TypeId × Value → H} {w : World} {base : Nat} {held : Bool} {spare : Nat → Bool}
theorem instr_one : ∃ fs, Tryz.prog.underlying 64 = some (.struct fs) ∧ oneCellFields Tryz.prog fs = true ∧ fs.size = 7 ∧ Tryz.prog.cellsOf 64 = 7 ∧
    (fs[0]?.map (·.type) = some 5 ∧ fs[1]?.map (·.type) = some 4 ∧ fs[2]?.map (·.type) = some 5 ∧ fs[3]?.map (·.type) = some 3 ∧ fs[4]?.map (·.type) = some 3 ∧ fs[5]?.map (·.type) = some 3 ∧ fs[6]?.map (·.type) = some 3) :=
  ⟨_, Tryz.underlying64, by kernel_rfl, by kernel_rfl, by kernel_rfl, by kernel_rfl, by kernel_rfl, by kernel_rfl, by kernel_rfl, by kernel_rfl, by kernel_rfl, by kernel_rfl⟩
theorem field_read {fs : Array Field} {n : Nat} {cs : List Value} {xs : List (DataW H × List MemPlace)} (hone : oneCellFields Tryz.prog fs = true) (hlen : xs.length = fs.size) (hc : cs.length = fs.size)
    (hg : ∀ (i : Nat) (f : Field), fs[i]? = some f → DataW.trod enc Tryz.prog w base spare held n f.type ((cs.drop f.offset).take (Tryz.prog.cellsOf f.type)) = xs[i]?) {j : Nat} {T : TypeId} (hT : fs[j]?.map (·.type) = some T) :
    ∃ v y, cs[j]? = some v ∧ DataW.trod enc Tryz.prog w base spare held n T [v] = some y := by
  obtain ⟨f, hf, rfl⟩ := Option.map_eq_some_iff.1 hT
  obtain ⟨ho, hk⟩ := hone_of hone j f hf
  have hj := (Array.getElem?_eq_some_iff.1 hf).1
  have h1 := hg j f hf
  have e : (cs.drop j).take 1 = [cs[j]'(by omega)] := by rw [List.drop_eq_getElem_cons (by omega)]; rfl
  rw [ho, hk, e, List.getElem?_eq_getElem (show j < xs.length by omega)] at h1
  exact ⟨_, _, List.getElem?_eq_getElem (by omega), h1⟩
theorem instr_read {n : Nat} {cs : List Value} {x : DataW H × List MemPlace} (h : DataW.trod enc Tryz.prog w base spare held n 64 cs = some x) : ∃ i : Ins, cs = i.cells ∧ i.wf := by
  obtain ⟨fs, hu, hone, hsz, hC, t0, t1, t2, t3, t4, t5, t6⟩ := instr_one
  obtain ⟨xs, n', _, _, hcl, hlen, hg⟩ := DataW.trod_struct hu h
  have hcl' : cs.length = fs.size := by rw [hcl, hC, hsz]
  obtain ⟨v0, y0, c0, r0⟩ := field_read hone hlen hcl' hg t0
  obtain ⟨v1, y1, c1, r1⟩ := field_read hone hlen hcl' hg t1
  obtain ⟨v2, y2, c2, r2⟩ := field_read hone hlen hcl' hg t2
  obtain ⟨v3, y3, c3, r3⟩ := field_read hone hlen hcl' hg t3
  obtain ⟨v4, y4, c4, r4⟩ := field_read hone hlen hcl' hg t4
  obtain ⟨v5, y5, c5, r5⟩ := field_read hone hlen hcl' hg t5
  obtain ⟨v6, y6, c6, r6⟩ := field_read hone hlen hcl' hg t6
  obtain ⟨z0, e0, _, w0⟩ := DataW.trod_int Tryz.underlying5 r0
  obtain ⟨z1, e1, _⟩ := DataW.trod_bool Tryz.underlying4 r1
  obtain ⟨z2, e2, _, w2⟩ := DataW.trod_int Tryz.underlying5 r2
  obtain ⟨z3, e3, _, _⟩ := DataW.trod_int Tryz.underlying3 r3
  obtain ⟨z4, e4, _, _⟩ := DataW.trod_int Tryz.underlying3 r4
  obtain ⟨z5, e5, _, _⟩ := DataW.trod_int Tryz.underlying3 r5
  obtain ⟨z6, e6, _, _⟩ := DataW.trod_int Tryz.underlying3 r6
  simp only [List.cons.injEq, and_true] at e0 e1 e2 e3 e4 e5 e6
  subst e0 e1 e2 e3 e4 e5 e6
  refine ⟨⟨z0, z1, z2, z3, z4, z5, z6⟩, ?_, (bounds_u8 w0).1, (bounds_u8 w0).2, (bounds_u8 w2).1, (bounds_u8 w2).2⟩
  rw [hsz] at hcl'
  match cs, hcl' with
  | [_, _, _, _, _, _, _], _ =>
    simp only [List.getElem?_cons_zero, List.getElem?_cons_succ, Option.some.injEq] at c0 c1 c2 c3 c4 c5 c6
    subst c0 c1 c2 c3 c4 c5 c6
    rfl
/-- A slice of instructions, opened. -/
theorem open_instrs {fuel : Nat} {A : Option Addr} {len cap : Nat} {x : DataW H × List MemPlace} (h : DataW.trod enc Tryz.prog w base (fun _ => true) held fuel 28 [.slice A len cap] = some x) :
    ∃ l : List Ins, l.length = len ∧ len ≤ cap ∧ len ≤ maxLen ∧ (∀ i ∈ l, i.wf) ∧ SlX w w.heap.size A l := by
  rcases open_slice Tryz.underlying28 h with ⟨hcs, _⟩ | ⟨a, len', cap', m, n, D, Pl, hcs, _, hl, hm, hmm, _, hr⟩
  · simp only [List.cons.injEq, Value.slice.injEq, and_true] at hcs
    obtain ⟨rfl, rfl, rfl⟩ := hcs
    exact ⟨[], rfl, Nat.le_refl _, Nat.zero_le _, by simp, SlX.nil⟩
  · simp only [List.cons.injEq, Value.slice.injEq, and_true] at hcs
    obtain ⟨rfl, rfl, rfl⟩ := hcs
    have hC : Tryz.prog.cellsOf 64 = 7 := by kernel_rfl
    rw [hC] at hr
    simp only [if_true] at hmm
    have hone : ∀ j, j < len → ∃ i : Ins, i.wf ∧ ∀ k v, i.cells[k]? = some v → w.cell? ((a.add (j * 7)).add k) = some v := fun j hj => by
      obtain ⟨cs', hc, ht⟩ := hr j (by omega)
      obtain ⟨_, hcl, hat⟩ := World.cells?_some hc
      obtain ⟨i, rfl, hi⟩ := instr_read ht
      exact ⟨i, hi, fun k v hv => by
        have hk := (List.getElem?_eq_some_iff.1 hv).1
        rw [Ins.cells_length] at hk
        rw [hat k (by omega)]; exact hv⟩
    refine ⟨(List.range len).map fun j => if hj : j < len then Classical.choose (hone j hj) else ⟨0, false, 0, 0, 0, 0, 0⟩, by simp, hl, by omega, fun i hi => ?_, fun hn => ?_⟩
    · obtain ⟨j, hj, rfl⟩ := List.mem_map.1 hi
      have hj' := List.mem_range.1 hj
      rw [dif_pos hj']
      exact (Classical.choose_spec (hone j hj')).1
    · have hpos : 0 < len := by
        rcases Nat.eq_zero_or_pos len with e | e
        · subst e; simp at hn
        · exact e
      obtain ⟨i0, -, h0'⟩ := hone 0 hpos
      have h0 := h0' 0 _ rfl
      rw [Nat.zero_mul] at h0
      have e0 : (a.add 0) = a := by simp [Addr.add]
      rw [e0] at h0
      obtain ⟨b, off, rfl, hB⟩ := addr_form h0
      refine ⟨b, off, rfl, hB, fun j cs hz k v hv => ?_⟩
      rw [List.getElem?_map, List.getElem?_map] at hz
      have hjl : j < len := by
        rcases Nat.lt_or_ge j len with e | e
        · exact e
        · rw [List.getElem?_eq_none (by simpa using e)] at hz; cases hz
      rw [List.getElem?_range hjl] at hz
      simp only [Option.map_some, Option.some.injEq] at hz
      subst hz
      rw [dif_pos hjl] at hv
      have := (Classical.choose_spec (hone j hjl)).2 k v hv
      rw [add_lit, add_lit] at this
      exact this
/-- A slice of ints, opened. -/
theorem open_ints_sl {fuel : Nat} {A : Option Addr} {len cap : Nat} {x : DataW H × List MemPlace} (h : DataW.trod enc Tryz.prog w base (fun _ => true) held fuel 43 [.slice A len cap] = some x) :
    ∃ l : List Int, l.length = len ∧ len ≤ cap ∧ len ≤ maxLen ∧ SlI w w.heap.size A l := by
  rcases open_ints Tryz.underlying43 Tryz.underlying3 (by kernel_rfl) h with ⟨hcs, _⟩ | ⟨a, len', cap', zs, hcs, _, hl, hm, hlen, _, hc, _⟩
  · simp only [List.cons.injEq, Value.slice.injEq, and_true] at hcs
    obtain ⟨rfl, rfl, rfl⟩ := hcs
    exact ⟨[], rfl, Nat.le_refl _, Nat.zero_le _, SlI.nil⟩
  · simp only [List.cons.injEq, Value.slice.injEq, and_true] at hcs
    obtain ⟨rfl, rfl, rfl⟩ := hcs
    simp only [if_true] at hlen
    refine ⟨zs.take len, by rw [List.length_take]; omega, hl, by omega, fun hn => ?_⟩
    have hpos : 0 < len := by
      rcases Nat.eq_zero_or_pos len with e | e
      · subst e; simp at hn
      · exact e
    obtain ⟨b, off, rfl, hB⟩ := addr_form (hc 0 (by omega))
    refine ⟨b, off, rfl, hB, fun j z hz => ?_⟩
    have hj := (List.getElem?_eq_some_iff.1 hz).1
    rw [List.length_take] at hj
    have := hc j (by omega)
    rw [add_lit] at this
    rw [this, List.getD]
    rw [List.getElem?_take, if_pos (by omega)] at hz
    rw [hz]; rfl
end
end Go.Proofs.YtbnddpknejgmhaaGreat
namespace Go.Proofs.YtbnddpknejgmhaaGreat
open Go.ChangeShapes Go.WideShapes Go.ChangeAt Go.RowKit Go.Deep
set_option maxRecDepth 100000

section
variable {H : Type} {enc : TypeId × Value → H} {w : World} {base : Nat} {held : Bool}
/-- A slice whose elements read, opened. -/
theorem open_elems {α : Type} [Inhabited α] {t e : TypeId} {k : Nat} (ht : Tryz.prog.underlying t = some (.slice e)) (hC : Tryz.prog.cellsOf e = k) (hk : 0 < k) (Q : α → List Value → Prop)
    (hread : ∀ (n : Nat) (cs : List Value) (x : DataW H × List MemPlace), DataW.trod enc Tryz.prog w base (fun _ => true) held n e cs = some x → ∃ r, Q r cs) {fuel : Nat} {cs : List Value} {x : DataW H × List MemPlace} (h : DataW.trod enc Tryz.prog w base (fun _ => true) held fuel t cs = some x) :
    ∃ (A : Option Addr) (l : List α) (cap : Nat), cs = [.slice A l.length cap] ∧ l.length ≤ cap ∧ l.length ≤ maxLen ∧ (∀ r ∈ l, ∃ c, Q r c) ∧ (l ≠ [] → ∃ b off, A = some ⟨b, off, none⟩ ∧ b < w.heap.size ∧ ∀ (j : Nat) (r : α), l[j]? = some r → ∃ cs' : List Value, Q r cs' ∧ cs'.length = k ∧ ∀ (i : Nat) (v : Value), cs'[i]? = some v → w.cell? ⟨b, off + j * k + i, none⟩ = some v) := by
  rcases open_slice ht h with ⟨hcs, _⟩ | ⟨a, len, cap, m, n, D, Pl, hcs, _, hl, hm, hmm, _, hr⟩
  · exact ⟨none, [], 0, hcs, Nat.le_refl _, Nat.zero_le _, by simp, fun h => absurd rfl h⟩
  · rw [hC] at hr
    simp only [if_true] at hmm
    have hone : ∀ j, j < len → ∃ r : α, ∃ cs' : List Value, Q r cs' ∧ cs'.length = k ∧ ∀ (i : Nat) (v : Value), cs'[i]? = some v → w.cell? ((a.add (j * k)).add i) = some v := fun j hj => by
      obtain ⟨cs', hc, ht⟩ := hr j (by omega)
      obtain ⟨_, hcl, hat⟩ := World.cells?_some hc
      obtain ⟨r, hq⟩ := hread _ _ _ ht
      exact ⟨r, cs', hq, hcl, fun i v hv => by
        have hi := (List.getElem?_eq_some_iff.1 hv).1
        rw [hat i (by omega)]; exact hv⟩
    refine ⟨some a, (List.range len).map fun j => if hj : j < len then Classical.choose (hone j hj) else default, cap, by rw [hcs]; simp, by simpa using hl, by simp; omega, fun r hr' => ?_, fun hn => ?_⟩
    · obtain ⟨j, hj, rfl⟩ := List.mem_map.1 hr'
      have hj' := List.mem_range.1 hj
      rw [dif_pos hj']
      obtain ⟨c, hc, _⟩ := Classical.choose_spec (hone j hj')
      exact ⟨c, hc⟩
    · have hpos : 0 < len := by
        rcases Nat.eq_zero_or_pos len with e | e
        · subst e; simp at hn
        · exact e
      obtain ⟨r0, cs0, -, hl0, h0'⟩ := hone 0 hpos
      have h0 := h0' 0 _ (List.getElem?_eq_getElem (by omega))
      rw [Nat.zero_mul] at h0
      have e0 : (a.add 0) = a := by simp [Addr.add]
      rw [e0] at h0
      obtain ⟨b, off, rfl, hB⟩ := addr_form h0
      refine ⟨b, off, rfl, hB, fun j r hz => ?_⟩
      rw [List.getElem?_map] at hz
      have hjl : j < len := by
        rcases Nat.lt_or_ge j len with e | e
        · exact e
        · rw [List.getElem?_eq_none (by simpa using e)] at hz; cases hz
      rw [List.getElem?_range hjl] at hz
      simp only [Option.map_some, Option.some.injEq] at hz
      rw [dif_pos hjl] at hz
      obtain ⟨c, h1, h2, h3⟩ := Classical.choose_spec (hone j hjl)
      subst hz
      refine ⟨c, h1, h2, fun i v hv => ?_⟩
      have := h3 i v hv
      rw [add_lit, add_lit] at this
      exact this
theorem stitch_one : ∃ fs, Tryz.prog.underlying 51 = some (.struct fs) ∧ oneCellFields Tryz.prog fs = true ∧ fs.size = 4 ∧ Tryz.prog.cellsOf 51 = 4 ∧
    (fs[0]?.map (·.type) = some 5 ∧ fs[1]?.map (·.type) = some 4 ∧ fs[2]?.map (·.type) = some 3 ∧ fs[3]?.map (·.type) = some 3) :=
  ⟨_, Tryz.underlying51, by kernel_rfl, by kernel_rfl, by kernel_rfl, by kernel_rfl, by kernel_rfl, by kernel_rfl, by kernel_rfl⟩
theorem stitch_read {n : Nat} {cs : List Value} {x : DataW H × List MemPlace} {spare : Nat → Bool} (h : DataW.trod enc Tryz.prog w base spare held n 51 cs = some x) : ∃ s : Stc, cs = s.cells ∧ s.wf := by
  obtain ⟨fs, hu, hone, hsz, hC, t0, t1, t2, t3⟩ := stitch_one
  obtain ⟨xs, n', _, _, hcl, hlen, hg⟩ := DataW.trod_struct hu h
  have hcl' : cs.length = fs.size := by rw [hcl, hC, hsz]
  obtain ⟨v0, y0, c0, r0⟩ := field_read hone hlen hcl' hg t0
  obtain ⟨v1, y1, c1, r1⟩ := field_read hone hlen hcl' hg t1
  obtain ⟨v2, y2, c2, r2⟩ := field_read hone hlen hcl' hg t2
  obtain ⟨v3, y3, c3, r3⟩ := field_read hone hlen hcl' hg t3
  obtain ⟨z0, e0, _, w0⟩ := DataW.trod_int Tryz.underlying5 r0
  obtain ⟨z1, e1, _⟩ := DataW.trod_bool Tryz.underlying4 r1
  obtain ⟨z2, e2, _, _⟩ := DataW.trod_int Tryz.underlying3 r2
  obtain ⟨z3, e3, _, _⟩ := DataW.trod_int Tryz.underlying3 r3
  simp only [List.cons.injEq, and_true] at e0 e1 e2 e3
  subst e0 e1 e2 e3
  refine ⟨⟨z0, z1, z2, z3⟩, ?_, (bounds_u8 w0).1, (bounds_u8 w0).2⟩
  rw [hsz] at hcl'
  match cs, hcl' with
  | [_, _, _, _], _ =>
    simp only [List.getElem?_cons_zero, List.getElem?_cons_succ, Option.some.injEq] at c0 c1 c2 c3
    subst c0 c1 c2 c3
    rfl
instance : Inhabited Stc := ⟨⟨0, false, 0, 0⟩⟩
theorem open_stitches {fuel : Nat} {cs : List Value} {x : DataW H × List MemPlace} (h : DataW.trod enc Tryz.prog w base (fun _ => true) held fuel 52 cs = some x) :
    ∃ (A : Option Addr) (l : List Stc) (cap : Nat), cs = [.slice A l.length cap] ∧ l.length ≤ cap ∧ (∀ s ∈ l, s.wf) ∧ SlT w w.heap.size A l := by
  obtain ⟨A, l, cap, e, hl, _, hq, hc⟩ := open_elems (α := Stc) Tryz.underlying52 (show Tryz.prog.cellsOf 51 = 4 by kernel_rfl) (by decide) (fun (s : Stc) cs => cs = s.cells ∧ s.wf) (fun _ _ _ h => stitch_read h) h
  refine ⟨A, l, cap, e, hl, fun s hs => ?_, fun hn => ?_⟩
  · obtain ⟨_, _, h⟩ := hq s hs
    exact h
  · obtain ⟨b, off, e, hB, hc⟩ := hc (by simpa using hn)
    refine ⟨b, off, e, hB, fun j cs hj i v hv => ?_⟩
    rw [List.getElem?_map] at hj
    cases hl : l[j]? with
    | none => rw [hl] at hj; cases hj
    | some s =>
      rw [hl] at hj
      simp only [Option.map_some, Option.some.injEq] at hj
      obtain ⟨cs', ⟨rfl, _⟩, _, hcc⟩ := hc j s hl
      subst hj
      exact hcc i v hv
theorem row_one : ∃ fs, Tryz.prog.underlying 55 = some (.struct fs) ∧ oneCellFields Tryz.prog fs = true ∧ fs.size = 2 ∧ Tryz.prog.cellsOf 55 = 2 ∧
    (fs[0]?.map (·.type) = some 4 ∧ fs[1]?.map (·.type) = some 52) :=
  ⟨_, Tryz.underlying55, by kernel_rfl, by kernel_rfl, by kernel_rfl, by kernel_rfl, by kernel_rfl⟩
def rowQC (w : World) (r : RowC) (cs : List Value) : Prop := ∃ A C, cs = [.bool r.1, .slice A r.2.length C] ∧ r.2.length ≤ C ∧ (∀ s ∈ r.2, s.wf) ∧ SlT w w.heap.size A r.2
theorem row_read {n : Nat} {cs : List Value} {x : DataW H × List MemPlace} (h : DataW.trod enc Tryz.prog w base (fun _ => true) held n 55 cs = some x) : ∃ r : RowC, rowQC w r cs := by
  obtain ⟨fs, hu, hone, hsz, hC, t0, t1⟩ := row_one
  obtain ⟨xs, n', _, _, hcl, hlen, hg⟩ := DataW.trod_struct hu h
  have hcl' : cs.length = fs.size := by rw [hcl, hC, hsz]
  obtain ⟨v0, y0, c0, r0⟩ := field_read hone hlen hcl' hg t0
  obtain ⟨v1, y1, c1, r1⟩ := field_read hone hlen hcl' hg t1
  obtain ⟨z0, e0, _⟩ := DataW.trod_bool Tryz.underlying4 r0
  obtain ⟨A, l, C, e1, hlc, hw, hs⟩ := open_stitches r1
  simp only [List.cons.injEq, and_true] at e0 e1
  subst e0 e1
  refine ⟨(z0, l), A, C, ?_, hlc, hw, hs⟩
  rw [hsz] at hcl'
  match cs, hcl' with
  | [_, _], _ =>
    simp only [List.getElem?_cons_zero, List.getElem?_cons_succ, Option.some.injEq] at c0 c1
    subst c0 c1
    rfl
theorem open_rowsC {fuel : Nat} {cs : List Value} {x : DataW H × List MemPlace} (h : DataW.trod enc Tryz.prog w base (fun _ => true) held fuel 22 cs = some x) :
    ∃ (A : Option Addr) (p : List RowC) (cap : Nat), cs = [.slice A p.length cap] ∧ RowsWf p ∧ SlC w w.heap.size A p := by
  obtain ⟨A, l, cap, e, hl, _, hq, hc⟩ := open_elems (α := RowC) Tryz.underlying22 (show Tryz.prog.cellsOf 55 = 2 by kernel_rfl) (by decide) (fun (r : RowC) cs => rowQC w r cs) (fun _ _ _ h => row_read h) h
  refine ⟨A, l, cap, e, fun r hr => ?_, fun hn => ?_⟩
  · obtain ⟨_, _, _, _, _, hw, _⟩ := hq r hr
    exact hw
  · obtain ⟨b, off, e, hB, hc⟩ := hc hn
    refine ⟨b, off, e, hB, fun j r hj => ?_⟩
    obtain ⟨cs', ⟨A', C', rfl, h1, _, h2⟩, _, hcc⟩ := hc j r hj
    exact ⟨A', C', hcc 0 _ rfl, hcc 1 _ rfl, h1, h2⟩
theorem chart_one : ∃ fs, Tryz.prog.underlying 24 = some (.struct fs) ∧ oneCellFields Tryz.prog fs = true ∧ fs.size = 2 ∧ Tryz.prog.cellsOf 24 = 2 ∧
    (fs[0]?.map (·.type) = some 3 ∧ fs[1]?.map (·.type) = some 22) :=
  ⟨_, Tryz.underlying24, by kernel_rfl, by kernel_rfl, by kernel_rfl, by kernel_rfl, by kernel_rfl⟩
/-- A chart that is an argument, opened. -/
theorem open_chart {r : Reach} {v : Value} {d : DataW H} {p0 : List MemPlace} (hok : Value.okWide Tryz.prog w r base 24 v) (h : DataW.Trod enc Tryz.prog w 0 (fun _ => true) held 24 v d p0) :
    ∃ (start : Int) (A : Option Addr) (p : List RowC) (cap : Nat), v = .agg #[.int .i64 start, .slice A p.length cap] ∧ RowsWf p ∧ SlC w w.heap.size A p := by
  obtain ⟨fs, hu, hone, hsz, hC, t0, t1⟩ := chart_one
  obtain ⟨cs, rfl, hcs⟩ := okWide_struct hu hok
  obtain ⟨fuel, h⟩ := h
  have h' : DataW.trod enc Tryz.prog w 0 (fun _ => true) held fuel 24 cs.toList = some (d, p0) := h
  obtain ⟨xs, n', _, _, hcl, hlen, hg⟩ := DataW.trod_struct hu h'
  have hcl' : cs.toList.length = fs.size := by rw [hcl, hC, hsz]
  obtain ⟨v0, y0, c0, r0⟩ := field_read hone hlen hcl' hg t0
  obtain ⟨v1, y1, c1, r1⟩ := field_read hone hlen hcl' hg t1
  obtain ⟨z0, e0, _, _⟩ := DataW.trod_int Tryz.underlying3 r0
  obtain ⟨A, l, C, e1, hw, hs⟩ := open_rowsC r1
  simp only [List.cons.injEq, and_true] at e0 e1
  subst e0 e1
  refine ⟨z0, A, l, C, ?_, hw, hs⟩
  rw [hsz] at hcl'
  congr 1
  apply Array.toList_inj.1
  generalize cs.toList = L at hcl' c0 c1
  match L, hcl' with
  | [_, _], _ =>
    simp only [List.getElem?_cons_zero, List.getElem?_cons_succ, Option.some.injEq] at c0 c1
    subst c0 c1
    rfl
end
end Go.Proofs.YtbnddpknejgmhaaGreat
