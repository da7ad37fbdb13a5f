/- The reference's feeds, plain: a carrier is put into a sorted list; an append of any slice, as a run. The reference's Twin: a copy of a state, in rows of its own. -/
import Derived.Test.YthedmiilkeclaaaGreatKQc
import Derived.Test.YthedmiilkeclaaaGreatKRd
import Derived.Maps.AppendAt
namespace Go.Proofs.YthedmiilkeclaaaGreat
open Go.RowKit Go.Shelf
set_option maxRecDepth 100000

def anyF (c : Int) (l : List Fd) : Bool := l.any fun f => decide (c < f.car)
def insF (x : Fd) (l : List Fd) : List Fd := if anyF x.car l then loF (keyF x.car) l ++ x :: hiF (keyF x.car) l else l
theorem take_snocF {l : List Fd} {k : Nat} {f : Fd} (h : l[k]? = some f) : l.take (k + 1) = l.take k ++ [f] := by
  rw [List.take_add_one, h]; rfl
theorem anyF_snoc {c : Int} {l : List Fd} {f : Fd} : anyF c (l ++ [f]) = (anyF c l || decide (c < f.car)) := by unfold anyF; simp
theorem anyF_false {c : Int} {l : List Fd} (h : anyF c l = false) : ∀ f ∈ l, f.car ≤ c := fun f hf => by
  unfold anyF at h
  rw [List.any_eq_false] at h
  have := h f hf
  simp at this
  omega
theorem insF_a {x : Fd} {l : List Fd} (hr : risB ltF l = true) {k : Nat} {f : Fd} (h : l[k]? = some f) (ha : anyF x.car (l.take k) = true) : insF x (l.take (k + 1)) = insF x (l.take k) ++ [f] ∧ anyF x.car (l.take (k + 1)) = true := by
  have hf : x.car < f.car := by
    unfold anyF at ha
    obtain ⟨y, hy, hc⟩ := List.any_eq_true.1 ha
    have hc := of_decide_eq_true hc
    obtain ⟨j, hj, hjy⟩ := mem_take_at hy
    obtain ⟨hjl, rfl⟩ := List.getElem?_eq_some_iff.1 hjy
    obtain ⟨hkl, rfl⟩ := List.getElem?_eq_some_iff.1 h
    have := of_decide_eq_true (List.pairwise_iff_getElem.1 (ris_pair ltF_tr hr) j k hjl hkl hj)
    omega
  have h2 : anyF x.car (l.take (k + 1)) = true := by rw [take_snocF h, anyF_snoc, ha]; rfl
  refine ⟨?_, h2⟩
  unfold insF
  rw [if_pos h2, if_pos ha, take_snocF h, loF_app, hiF_app]
  have e1 : loF (keyF x.car) [f] = [] := loF_none fun y hy => by rw [List.mem_singleton.1 hy]; unfold keyF; omega
  have e2 : hiF (keyF x.car) [f] = [f] := hiF_all fun y hy => by rw [List.mem_singleton.1 hy]; unfold keyF; omega
  rw [e1, e2]
  simp
theorem insF_c {x : Fd} {l : List Fd} {k : Nat} {f : Fd} (h : l[k]? = some f) (ha : anyF x.car (l.take k) = false) (hf : f.car ≤ x.car) : insF x (l.take (k + 1)) = insF x (l.take k) ++ [f] ∧ anyF x.car (l.take (k + 1)) = false := by
  have h2 : anyF x.car (l.take (k + 1)) = false := by rw [take_snocF h, anyF_snoc, ha, decide_eq_false (by omega)]; rfl
  refine ⟨?_, h2⟩
  unfold insF
  rw [if_neg (by rw [h2]; decide), if_neg (by rw [ha]; decide), take_snocF h]
theorem insF_lo {x : Fd} {l : List Fd} (hne : ∀ f ∈ l, f.car ≠ x.car) (ha : anyF x.car l = false) : loF (keyF x.car) l = l ∧ hiF (keyF x.car) l = [] :=
  ⟨loF_all fun y hy => by have := anyF_false ha y hy; have := hne y hy; unfold keyF; omega, hiF_none fun y hy => by have := anyF_false ha y hy; unfold keyF; omega⟩
theorem insF_b {x : Fd} {l : List Fd} (hne : ∀ f ∈ l, f.car ≠ x.car) {k : Nat} {f : Fd} (h : l[k]? = some f) (ha : anyF x.car (l.take k) = false) (hf : x.car < f.car) : insF x (l.take (k + 1)) = (insF x (l.take k) ++ [x]) ++ [f] ∧ anyF x.car (l.take (k + 1)) = true := by
  have h2 : anyF x.car (l.take (k + 1)) = true := by rw [take_snocF h, anyF_snoc, decide_eq_true hf, Bool.or_true]
  refine ⟨?_, h2⟩
  obtain ⟨e3, e4⟩ := insF_lo (fun y hy => hne y (List.mem_of_mem_take hy)) ha
  unfold insF
  rw [if_pos h2, if_neg (by rw [ha]; decide), take_snocF h, loF_app, hiF_app, e3, e4]
  have e1 : loF (keyF x.car) [f] = [] := loF_none fun y hy => by rw [List.mem_singleton.1 hy]; unfold keyF; omega
  have e2 : hiF (keyF x.car) [f] = [f] := hiF_all fun y hy => by rw [List.mem_singleton.1 hy]; unfold keyF; omega
  rw [e1, e2]
  simp
theorem insF_end {x : Fd} {l : List Fd} (hne : ∀ f ∈ l, f.car ≠ x.car) : (anyF x.car l = true → insF x l = setF (keyF x.car) [x] l) ∧ (anyF x.car l = false → insF x l ++ [x] = setF (keyF x.car) [x] l) := by
  refine ⟨fun h => ?_, fun h => ?_⟩
  · unfold insF setF
    rw [if_pos h]
    rfl
  · obtain ⟨e3, e4⟩ := insF_lo hne h
    unfold insF setF
    rw [if_neg (by rw [h]; decide), e3, e4]
    simp
theorem insF_len (x : Fd) (l : List Fd) : (insF x l).length ≤ l.length + l.length + 1 := by
  unfold insF
  split
  · rw [List.length_append, List.length_cons]
    have h1 : (loF (keyF x.car) l).length ≤ l.length := List.length_filter_le _ _
    have h2 : (hiF (keyF x.car) l).length ≤ l.length := List.length_filter_le _ _
    omega
  · omega
theorem feed_none {l : List Fd} {c : Int} (h : feedAt l c = none) : ∀ f ∈ l, f.car ≠ c := fun f hf e => by
  unfold feedAt at h
  rw [List.find?_eq_none] at h
  have := h f hf
  simp [e] at this
theorem flat_snocF (l : List Fd) (p : Fd) : ((l ++ [p]).map Fd.cells).flatten = (l.map Fd.cells).flatten ++ p.cells := by simp
theorem one3F (x y : Int) (b : Bool) : ∀ v ∈ ([.int .i64 x, .bool b, .int .i64 y] : List Value), v.oneCell' = true := by
  intro v hv
  simp only [List.mem_cons, List.not_mem_nil, or_false] at hv
  rcases hv with rfl | rfl | rfl <;> rfl
theorem info_feed : (Tryz.prog.info? 94).map (fun i => (i.zero, i.size, i.bytes)) = some (some (.agg #[.int .i64 0, .bool false, .int .i64 0]), 3, 24) := by kernel_rfl
/-- The carrier that is left out. -/
theorem setF_out {l : List Fd} {c : Int} {k : Nat} {x : Fd} (h : ∀ x : Fd, setF (keyF c) [x] l = l.take k ++ x :: l.drop (k + 1)) (h1 : loF (keyF c) l = l.take k) : setF (keyF c) [] l = l.take k ++ l.drop (k + 1) := by
  have h2 := h x
  unfold setF at h2 ⊢
  rw [h1] at h2 ⊢
  have h3 := List.append_cancel_left h2
  simp only [List.singleton_append, List.cons.injEq, true_and] at h3
  rw [List.nil_append, h3]
/-- What a function that hands back a code ends in. -/
def codOut (B pb : Nat) (r : BedS × Int) (X : List Own) (w : World) (e : Ending) (w' : World) : Prop :=
  e = .returned (.int .i64 r.2) ∧ (r.2 = 0 → WorkX 48 w' B pb r.1 X) ∧ Below B w w'
theorem codOut.stop {B pb : Nat} {r : BedS × Int} {X : List Own} {w w' : World} {c : Int} (h : r = (bed0, c)) (hc : c ≠ 0) (hb : Below B w w') : codOut B pb r X w (.returned (.int .i64 c)) w' := by
  subst h
  exact ⟨rfl, fun h => absurd h hc, hb⟩
theorem codOut.go {B pb : Nat} {r : BedS × Int} {t : BedS} {X : List Own} {w w' : World} (h : r = (t, 0)) (hw : WorkX 48 w' B pb t X) (hb : Below B w w') : codOut B pb r X w (.returned (.int .i64 0)) w' := by
  subst h
  exact ⟨rfl, fun _ => hw, hb⟩
end Go.Proofs.YthedmiilkeclaaaGreat
namespace Go.Proofs.YthedmiilkeclaaaGreat
open Go.RowKit Go.Shelf Go.Sort
set_option maxRecDepth 100000

theorem SlI.news {w : World} {B : Nat} {A : Option Addr} {l : List Int} (h : SlI w B A l) {W : World} (hb : Below B w W) : (A = none → l.length = 0) ∧ ∀ ad, A = some ad → ∀ j u, (intV l)[j]? = some u → W.cell? (ad.add j) = some u := by
  by_cases hl : l = []
  · subst hl
    exact ⟨fun _ => rfl, fun ad _ j u hu => by simp [intV] at hu⟩
  · have h3 := h
    obtain ⟨b, off, e, hB, hc⟩ := h3 hl
    subst e
    refine ⟨fun e => (by cases e), fun ad e => ?_⟩
    cases e
    exact slI_news (h.below hb)
theorem SlF.news {w : World} {B : Nat} {A : Option Addr} {l : List Fd} (h : SlF w B A l) {W : World} (hb : Below B w W) : (A = none → l.length = 0) ∧ ∀ ad, A = some ad → ∀ j u, ((l.map Fd.cells).flatten)[j]? = some u → W.cell? (ad.add j) = some u := by
  by_cases hl : l = []
  · subst hl
    exact ⟨fun _ => rfl, fun ad _ j u hu => by simp at hu⟩
  · have h2 := h.below hb
    have h3 := h
    obtain ⟨b, off, e, -⟩ := h3 (by simpa using hl)
    subst e
    refine ⟨fun e => (by cases e), fun ad e => ?_⟩
    cases e
    exact SlS.flat (cells3f l) h2
theorem WorkAt.moreHook {T : TypeId} {w w' : World} {B pb : Nat} {s : BedS} {hv : List (Hk × Value)} {mv : List (Mk × Value)} {vh vf vm v1 v2 : Value} {X : List Own} {h : Hk} (hw : WorkAt T w B pb s hv mv vh vf vm (rowI v1 h.loops :: X)) (hg : w.grownBy w' vh.ownBlock)
    (ho : w'.ownsRow B 92 3 v2 (hv.length + 1) ((hv.map hookCells).flatten ++ [.int .u8 h.bed, .int .i64 h.at_, v1])) (hn : ∀ k, v2.ownBlock = some k → vh.ownBlock = some k ∨ w.heap.size ≤ k) :
    WorkAt T (w'.setCell ⟨pb, 1, none⟩ v2) B pb { s with hooks := s.hooks ++ [h] } (hv ++ [(h, v1)]) mv v2 vf vm X := by
  refine hw.setHooks hg ?_ hn (by rw [List.map_append, hw.hooks]; rfl) ?_
  · unfold rowH Own.lies
    rw [List.length_append, flat_snocH]
    exact ho
  · rw [List.map_append, List.append_assoc]
    exact List.Perm.refl _
theorem flat_snocM (l : List (Mk × Value)) (p : Mk × Value) : ((l ++ [p]).map makeCells).flatten = (l.map makeCells).flatten ++ makeCells p := by simp
theorem WorkAt.moreMade {T : TypeId} {w w' : World} {B pb : Nat} {s : BedS} {hv : List (Hk × Value)} {mv : List (Mk × Value)} {vh vf vm v1 v2 : Value} {X : List Own} {h : Mk} (hw : WorkAt T w B pb s hv mv vh vf vm (rowI v1 h.parents :: X)) (hg : w.grownBy w' vm.ownBlock)
    (ho : w'.ownsRow B 52 4 v2 (mv.length + 1) ((mv.map makeCells).flatten ++ [v1, .int .u8 h.bed, .int .i64 h.at_, .int .i64 h.car])) (hn : ∀ k, v2.ownBlock = some k → vm.ownBlock = some k ∨ w.heap.size ≤ k) :
    WorkAt T (w'.setCell ⟨pb, 3, none⟩ v2) B pb { s with made := s.made ++ [h] } hv (mv ++ [(h, v1)]) vh vf v2 X := by
  refine hw.setMade hg ?_ hn (by rw [List.map_append, hw.made]; rfl) ?_
  · unfold rowM Own.lies
    rw [List.length_append, flat_snocM]
    exact ho
  · rw [List.map_append, List.append_assoc]
    exact List.Perm.refl _
theorem info_made : (Tryz.prog.info? 52).map (fun i => (i.zero, i.size, i.bytes)) = some (some (.agg #[.slice none 0 0, .int .u8 0, .int .i64 0, .int .i64 0]), 4, 48) := by kernel_rfl
theorem one4 (x y z : Int) (A : Option Addr) (m c : Nat) : ∀ v ∈ ([.slice A m c, .int .u8 x, .int .i64 y, .int .i64 z] : List Value), v.oneCell' = true := by
  intro v hv
  simp only [List.mem_cons, List.not_mem_nil, or_false] at hv
  rcases hv with rfl | rfl | rfl | rfl <;> rfl
def twinOut (s : BedS) (w : World) (e : Ending) (w' : World) : Prop := ∃ hv mv vh vf vm, e = .returned (.agg #[.int .i64 s.rack, vh, vf, vm]) ∧ hv.map Prod.fst = s.hooks ∧ mv.map Prod.fst = s.made ∧ Owns w' w.heap.size (rowH vh hv :: rowF vf s.feeds :: rowM vm mv :: (hv.map rowL ++ (mv.map rowQ ++ []))) ∧ Below w.heap.size w w'
/-- The copy's state as it grows: k needles, j loops. -/
abbrev twinS (s : BedS) (k j : Nat) : BedS := ⟨s.rack, s.hooks.take k, s.feeds, s.made.take j⟩
/-- The box of the parameter and the result's, the copy. -/
structure TwB (w : World) (s : BedS) (p : BedP) (pb k j : Nat) (hv : List (Hk × Value)) (mv : List (Mk × Value)) (vh vf vm : Value) (W : World) : Prop where
  bx : PuB w s.rack (.slice p.ah s.hooks.length p.ch) (.slice p.af s.feeds.length p.cf) (.slice p.am s.made.length p.cm) W
  wk : WorkAt 48 W (w.heap.size + 2) pb (twinS s k j) hv mv vh vf vm []
theorem TwB.to {w : World} {s : BedS} {p : BedP} {pb k j : Nat} {hv : List (Hk × Value)} {mv : List (Mk × Value)} {vh vf vm : Value} {W W' : World} (h : TwB w s p pb k j hv mv vh vf vm W) (hb : Below W.heap.size W W') : TwB w s p pb k j hv mv vh vf vm W' := ⟨h.bx.to (hb.mono h.bx.sz), h.wk.to hb⟩
theorem rowP_at {T : TypeId} {w : World} {B pb : Nat} {r : Int} {vh vf vm : Value} (h : (rowP T pb r vh vf vm).lies w B) : w.cell? ⟨pb, 0, none⟩ = some (.int .i64 r) ∧ w.cell? ⟨pb, 1, none⟩ = some vh ∧ w.cell? ⟨pb, 2, none⟩ = some vf ∧ w.cell? ⟨pb, 3, none⟩ = some vm ∧ ∀ k, w.frozen? ⟨pb, k, none⟩ = false := by
  have this : w.ownsRow B T 4 (.slice (some ⟨pb, 0, none⟩) 1 1) 1 [.int .i64 r, vh, vf, vm] := h
  exact ⟨this.cellAt 0 (by decide), this.cellAt 1 (by decide), this.cellAt 2 (by decide), this.cellAt 3 (by decide), fun k => this.frozenAt k⟩
theorem keepT {W1 W W' : World} {b : Nat} {v0 v2 : Value} (h : W.cell? ⟨b, 0, none⟩ = some v0 ∧ W.cell? ⟨b, 2, none⟩ = some v2 ∧ Below W1.heap.size W1 W) (hb : Below W.heap.size W W') : W'.cell? ⟨b, 0, none⟩ = some v0 ∧ W'.cell? ⟨b, 2, none⟩ = some v2 ∧ Below W1.heap.size W1 W' :=
  ⟨(bcell hb (lt_of_cell h.1) _).trans h.1, (bcell hb (lt_of_cell h.2.1) _).trans h.2.1, h.2.2.trans (hb.mono h.2.2.size)⟩
theorem at_world {P : Program} {ops : Array Oper} {o : Oper} {a : Act} {K : Act → World → Prop} {Q : Exit → Act → World → Prop} {E : Prop} (w : World) (h : if Region.wanted o (yielded ops a.tmps) = true then Oper.wp P o a w K Q else E) : if Region.wanted o (yielded ops a.tmps) = true then Oper.wp P o a w K Q else E := h
theorem cell_grown {w w' : World} {row : Option Nat} (hg : w.grownBy w' row) {b : Nat} (hlt : b < w.heap.size) (hne : row ≠ some b) (j : Nat) : w'.cell? ⟨b, j, none⟩ = w.cell? ⟨b, j, none⟩ := World.cell?_of_block (a := ⟨b, j, none⟩) (hg.block b hlt (fun e => hne e.symm))
/-- A needle is copied: the worlds on the way. -/
theorem twin_hook {w wr W : World} {s : BedS} {p : BedP} {pb k : Nat} {hv : List (Hk × Value)} {ah : Option Addr} {ch : Nat} {vf : Value} {h : Hk} {A' : Option Addr} {C' : Nat} (T : TwB w s p pb k 0 hv [] (.slice ah k ch) vf (.slice none 0 0) wr) (hk : s.hooks[k]? = some h) (hk9 : k < 9000) (hll : h.loops.length ≤ 1000000)
    (hb : Below wr.heap.size wr W) (hsi : SlI w w.heap.size A' h.loops) (c0 : W.cell? ⟨wr.heap.size, 0, none⟩ = some (.int .u8 h.bed)) (c1 : W.cell? ⟨wr.heap.size, 1, none⟩ = some (.int .i64 h.at_)) (c2 : W.cell? ⟨wr.heap.size, 2, none⟩ = some (.slice A' h.loops.length C')) :
    ∃ A1 C1 w2 A2 C2 w5, (Builtin.append_ #[22, 22] 22 #[.slice (some ⟨W.heap.size, 0, none⟩) 0 0, .slice A' h.loops.length C']).run Tryz.prog (W.alloc (.cells #[] 3)).drew = .ok (.slice A1 h.loops.length C1) w2 ∧
      (Builtin.append_ #[44, 44] 44 #[.slice ah k ch, .slice (some ⟨w2.heap.size, 0, none⟩) 1 1]).run Tryz.prog (w2.alloc (.cells #[.int .u8 h.bed, .int .i64 h.at_, .slice A1 h.loops.length C1] 92)) = .ok (.slice A2 (k + 1) C2) w5 ∧
      Hid (∀ X, Below W.heap.size W X → X.cell? ⟨wr.heap.size, 0, none⟩ = some (.int .u8 h.bed) ∧ X.cell? ⟨wr.heap.size, 1, none⟩ = some (.int .i64 h.at_) ∧ X.cell? ⟨wr.heap.size, 2, none⟩ = some (.slice A' h.loops.length C')) ∧
      Hid (Below W.heap.size W w2) ∧
      Hid (∀ v, (w5.setCell ⟨pb, 1, none⟩ v).cell? ⟨wr.heap.size, 0, none⟩ = some (.int .u8 h.bed) ∧ (w5.setCell ⟨pb, 1, none⟩ v).cell? ⟨wr.heap.size, 1, none⟩ = some (.int .i64 h.at_) ∧ (w5.setCell ⟨pb, 1, none⟩ v).cell? ⟨wr.heap.size, 2, none⟩ = some (.slice A' h.loops.length C')) ∧
      Hid (w5.cell? ⟨wr.heap.size, 0, none⟩ = some (.int .u8 h.bed) ∧ w5.cell? ⟨wr.heap.size, 1, none⟩ = some (.int .i64 h.at_) ∧ w5.cell? ⟨wr.heap.size, 2, none⟩ = some (.slice A' h.loops.length C')) ∧
      W.cell? ⟨pb, 1, none⟩ = some (.slice ah k ch) ∧ w2.cell? ⟨pb, 1, none⟩ = some (.slice ah k ch) ∧ w5.cell? ⟨pb, 1, none⟩ = some (.slice ah k ch) ∧ (∀ j, w5.frozen? ⟨pb, j, none⟩ = false) ∧
      Hid (TwB w s p pb (k + 1) 0 (hv ++ [(h, .slice A1 h.loops.length C1)]) [] (.slice A2 (k + 1) C2) vf (.slice none 0 0) (w5.setCell ⟨pb, 1, none⟩ (.slice A2 (k + 1) C2))) := by
  obtain ⟨ii, hii, hii0, hii1, hii2⟩ := info_parts info_int'
  obtain ⟨ih, hih, hih0, hih1, hih2⟩ := info_parts info_hook
  have T6 := T.to hb
  have hbx : wr.heap.size < W.heap.size := lt_of_cell c0
  have hba : Below W.heap.size W (W.alloc (.cells #[] 3)).drew := ((Below.refl _ W).alloc (Nat.le_refl _) _).drew
  have hNw := hsi.news (T6.bx.lo.trans (hba.mono T6.bx.lo.size))
  have ho0 : (W.alloc (.cells #[] 3)).drew.ownsRow W.heap.size 3 1 (.slice (some ⟨W.heap.size, 0, none⟩) 0 0) 0 [] :=
    (Owns.to (L := [rowI (.slice (some ⟨W.heap.size, 0, none⟩) 0 0) []]) (Owns.nil.add ((Below.refl _ W).alloc (Nat.le_refl _) _) (Nat.le_refl _) (World.ownsRow_lit (e := 3) W #[] 0 (base := W.heap.size) (size := 1) (Nat.le_refl _) (by decide) rfl)) (Below.drew (Below.refl _ _))).head
  obtain ⟨A1, C1, w2, hr1, ho1, hg1, hn1⟩ := run_app_any Tryz.underlying22 hii hii0 hii1 hii2 rfl (by decide) ho0 A' h.loops.length C' (intV h.loops) (by rw [intV_len, Nat.mul_one]) hNw.1 hNw.2 (intV_one' _) (by unfold maxLen; omega) (by omega) hba.size
  rw [Nat.zero_add] at ho1 hr1 hn1
  rw [List.nil_append] at ho1
  have hb2 : Below W.heap.size W w2 := hba.grown hg1 hba.size (fun g e => (World.ownsRow.lt ho0 g e).1)
  have hw2 := T6.wk.add (o := rowI (.slice A1 h.loops.length C1) h.loops) hb2 ho1
  have hw3 := hw2.to ((Below.refl _ w2).alloc (Nat.le_refl _) (.cells #[.int .u8 h.bed, .int .i64 h.at_, .slice A1 h.loops.length C1] 92))
  have hlen : hv.length = k := by
    rw [hw2.hlen]
    show (s.hooks.take k).length = k
    have := (List.getElem?_eq_some_iff.1 hk).1
    rw [List.length_take]; omega
  have hrh : (w2.alloc (.cells #[.int .u8 h.bed, .int .i64 h.at_, .slice A1 h.loops.length C1] 92)).ownsRow (w.heap.size + 2) 92 3 (.slice ah k ch) k (hv.map hookCells).flatten := by
    have h0 := hw3.rh
    unfold rowH Own.lies at h0
    simp only [hlen] at h0
    exact h0
  have hsz2 : w.heap.size + 2 ≤ w2.heap.size := by have := T6.bx.sz; have := hb2.size; omega
  obtain ⟨A2, C2, w5, hr2, ho2, hg2, hn2⟩ := run_app_any Tryz.underlying44 hih hih0 hih1 hih2 rfl (by decide) hrh (some ⟨w2.heap.size, 0, none⟩) 1 1 [.int .u8 h.bed, .int .i64 h.at_, .slice A1 h.loops.length C1] rfl (fun e => by cases e) (fun ad e => by cases e; exact newsT w2 _ _ _ rfl) (one3 _ _ _ _ _) (by unfold maxLen; omega) (by omega) (by simp; omega)
  have hlt3 : ∀ g, (Value.slice ah k ch).ownBlock = some g → w.heap.size + 2 ≤ g ∧ g < wr.heap.size := fun g e => by
    have h1 := T.wk.rh
    unfold rowH Own.lies at h1
    exact World.ownsRow.lt h1 g e
  have hpb := T.wk.base
  have hS : ∀ X, Below W.heap.size W X → X.cell? ⟨wr.heap.size, 0, none⟩ = some (.int .u8 h.bed) ∧ X.cell? ⟨wr.heap.size, 1, none⟩ = some (.int .i64 h.at_) ∧ X.cell? ⟨wr.heap.size, 2, none⟩ = some (.slice A' h.loops.length C') := fun X hx => ⟨(bcell hx hbx _).trans c0, (bcell hx hbx _).trans c1, (bcell hx hbx _).trans c2⟩
  have hb3 := hb2.alloc hb2.size (.cells #[.int .u8 h.bed, .int .i64 h.at_, .slice A1 h.loops.length C1] 92)
  have hS3 := hS _ hb3
  have hfar : ∀ j, w5.cell? ⟨wr.heap.size, j, none⟩ = (w2.alloc (.cells #[.int .u8 h.bed, .int .i64 h.at_, .slice A1 h.loops.length C1] 92)).cell? ⟨wr.heap.size, j, none⟩ := fun j => cell_grown hg2 (by have := hb3.size; omega) (fun e => by have := (hlt3 _ e).2; omega) j
  have hS5 : w5.cell? ⟨wr.heap.size, 0, none⟩ = some (.int .u8 h.bed) ∧ w5.cell? ⟨wr.heap.size, 1, none⟩ = some (.int .i64 h.at_) ∧ w5.cell? ⟨wr.heap.size, 2, none⟩ = some (.slice A' h.loops.length C') := ⟨(hfar 0).trans hS3.1, (hfar 1).trans hS3.2.1, (hfar 2).trans hS3.2.2⟩
  have hso : ∀ j v, (w5.setCell ⟨pb, 1, none⟩ v).cell? ⟨wr.heap.size, j, none⟩ = w5.cell? ⟨wr.heap.size, j, none⟩ := fun j v => World.cell?_setCell_other w5 _ _ _ (fun e => by have := (Addr.mk.inj e).1; omega)
  obtain ⟨-, e1, -, -, e4⟩ := hw3.struct hg2 hw3.pbH
  refine ⟨A1, C1, w2, A2, C2, w5, hr1, hr2, hS, hb2, fun v => ⟨(hso 0 v).trans hS5.1, (hso 1 v).trans hS5.2.1, (hso 2 v).trans hS5.2.2⟩, hS5, T6.wk.cells.2.1, hw2.cells.2.1, e1, e4, ?_⟩
  have hm := hw3.moreHook (h := h) hg2 (by rw [hlen]; exact ho2) hn2
  have es : (twinS s (k + 1) 0) = { (twinS s k 0) with hooks := (twinS s k 0).hooks ++ [h] } := by
    show (⟨s.rack, s.hooks.take (k + 1), s.feeds, s.made.take 0⟩ : BedS) = ⟨s.rack, s.hooks.take k ++ [h], s.feeds, s.made.take 0⟩
    rw [take_snoc2 hk]
  refine ⟨T6.bx.to ?_, by rw [es]; exact hm⟩
  exact ((hb3.mono T6.bx.sz).trans (Below.of_grown hg2 (by simp; omega) (fun g e => (hlt3 g e).1))).setCell (p := ⟨pb, 1, none⟩) hpb.1 _
/-- The box of a loop that is made or copied. -/
def rowK (b : Nat) (v : Value) (m : Mk) : Own := ⟨52, 4, 1, .slice (some ⟨b, 0, none⟩) 1 1, [v, .int .u8 m.bed, .int .i64 m.at_, .int .i64 m.car]⟩
theorem rowK_at {w : World} {B b : Nat} {v : Value} {m : Mk} (h : (rowK b v m).lies w B) : w.cell? ⟨b, 0, none⟩ = some v ∧ w.cell? ⟨b, 1, none⟩ = some (.int .u8 m.bed) ∧ w.cell? ⟨b, 2, none⟩ = some (.int .i64 m.at_) ∧ w.cell? ⟨b, 3, none⟩ = some (.int .i64 m.car) ∧ ∀ k, w.frozen? ⟨b, k, none⟩ = false := by
  have this : w.ownsRow B 52 4 (.slice (some ⟨b, 0, none⟩) 1 1) 1 [v, .int .u8 m.bed, .int .i64 m.at_, .int .i64 m.car] := h
  exact ⟨this.cellAt 0 (by decide), this.cellAt 1 (by decide), this.cellAt 2 (by decide), this.cellAt 3 (by decide), fun k => this.frozenAt k⟩
theorem WorkAt.setK {T : TypeId} {w : World} {B pb b : Nat} {s : BedS} {hv : List (Hk × Value)} {mv : List (Mk × Value)} {vh vf vm v : Value} {X : List Own} {m : Mk} (h : WorkAt T w B pb s hv mv vh vf vm (rowK b v m :: X)) (u : Value) : WorkAt T (w.setCell ⟨b, 0, none⟩ u) B pb s hv mv vh vf vm (rowK b u m :: X) := by
  have h0 : w.ownsRow B 52 4 (.slice (some ⟨b, 0, none⟩) 1 1) 1 [v, .int .u8 m.bed, .int .i64 m.at_, .int .i64 m.car] := h.row
  obtain ⟨h1, h2⟩ := World.ownsRow.stored h0 0 u
  exact h.turn h2 h1 (fun k hk => Or.inl hk)
theorem WorkAt.swap2 {T : TypeId} {w : World} {B pb : Nat} {s : BedS} {hv : List (Hk × Value)} {mv : List (Mk × Value)} {vh vf vm : Value} {a b : Own} {X : List Own} (h : WorkAt T w B pb s hv mv vh vf vm (a :: b :: X)) : WorkAt T w B pb s hv mv vh vf vm (b :: a :: X) := by
  refine ⟨h.hooks, h.made, h.owns.perm ?_⟩
  exact List.Perm.cons _ (List.Perm.cons _ (List.Perm.cons _ (List.Perm.cons _ (List.Perm.append_left _ (List.Perm.append_left _ (List.Perm.swap _ _ _))))))
/-- A loop is copied: the worlds on the way. -/
theorem twin_made {w wr : World} {s : BedS} {p : BedP} {pb n j : Nat} {hv : List (Hk × Value)} {mv : List (Mk × Value)} {vh vf : Value} {am : Option Addr} {cm : Nat} {m : Mk} {A' : Option Addr} {C' : Nat} (T : TwB w s p pb n j hv mv vh vf (.slice am j cm) wr) (hm : s.made[j]? = some m) (hj9 : j < 9000) (hll : m.parents.length ≤ 1000000) (hsi : SlI w w.heap.size A' m.parents)
    (W : World) (hW : W = wr.alloc (.cells #[.slice A' m.parents.length C', .int .u8 m.bed, .int .i64 m.at_, .int .i64 m.car] 52)) :
    ∃ A1 C1 w2 A2 C2 w5, (Builtin.append_ #[22, 22] 22 #[.slice (some ⟨W.heap.size, 0, none⟩) 0 0, .slice A' m.parents.length C']).run Tryz.prog (W.alloc (.cells #[] 3)) = .ok (.slice A1 m.parents.length C1) w2 ∧
      (Builtin.append_ #[46, 46] 46 #[.slice am j cm, .slice (some ⟨w2.heap.size, 0, none⟩) 1 1]).run Tryz.prog ((w2.setCell ⟨wr.heap.size, 0, none⟩ (.slice A1 m.parents.length C1)).alloc (.cells #[.slice A1 m.parents.length C1, .int .u8 m.bed, .int .i64 m.at_, .int .i64 m.car] 52)) = .ok (.slice A2 (j + 1) C2) w5 ∧
      (W.cell? ⟨wr.heap.size, 0, none⟩ = some (.slice A' m.parents.length C') ∧ w2.cell? ⟨wr.heap.size, 0, none⟩ = some (.slice A' m.parents.length C') ∧ w2.frozen? ⟨wr.heap.size, 0, none⟩ = false) ∧
      ((w2.setCell ⟨wr.heap.size, 0, none⟩ (.slice A1 m.parents.length C1)).cell? ⟨wr.heap.size, 0, none⟩ = some (.slice A1 m.parents.length C1) ∧ (w2.setCell ⟨wr.heap.size, 0, none⟩ (.slice A1 m.parents.length C1)).cell? ⟨wr.heap.size, 1, none⟩ = some (.int .u8 m.bed) ∧ (w2.setCell ⟨wr.heap.size, 0, none⟩ (.slice A1 m.parents.length C1)).cell? ⟨wr.heap.size, 2, none⟩ = some (.int .i64 m.at_) ∧ (w2.setCell ⟨wr.heap.size, 0, none⟩ (.slice A1 m.parents.length C1)).cell? ⟨wr.heap.size, 3, none⟩ = some (.int .i64 m.car)) ∧
      (w2.setCell ⟨wr.heap.size, 0, none⟩ (.slice A1 m.parents.length C1)).cell? ⟨pb, 3, none⟩ = some (.slice am j cm) ∧ w5.cell? ⟨pb, 3, none⟩ = some (.slice am j cm) ∧ (∀ k, w5.frozen? ⟨pb, k, none⟩ = false) ∧
      Hid (TwB w s p pb n (j + 1) hv (mv ++ [(m, .slice A1 m.parents.length C1)]) vh vf (.slice A2 (j + 1) C2) (w5.setCell ⟨pb, 3, none⟩ (.slice A2 (j + 1) C2))) := by
  obtain ⟨ii, hii, hii0, hii1, hii2⟩ := info_parts info_int'
  obtain ⟨im, him, him0, him1, him2⟩ := info_parts info_made
  have hb : Below wr.heap.size wr W := by rw [hW]; exact (Below.refl _ wr).alloc (Nat.le_refl _) _
  have T6 := T.to hb
  have hsz := T.bx.sz
  have hWs : W.heap.size = wr.heap.size + 1 := by rw [hW]; simp
  have hK : (rowK wr.heap.size (.slice A' m.parents.length C') m).lies W wr.heap.size := by
    rw [hW]
    exact World.ownsRow_lit (e := 52) wr #[.slice A' m.parents.length C', .int .u8 m.bed, .int .i64 m.at_, .int .i64 m.car] 1 (base := wr.heap.size) (size := 4) (Nat.le_refl _) (by decide) rfl
  have hw0 := T.wk.add (o := rowK wr.heap.size (.slice A' m.parents.length C') m) hb hK
  have hba : Below W.heap.size W (W.alloc (.cells #[] 3)) := (Below.refl _ W).alloc (Nat.le_refl _) _
  have hNw := hsi.news (T6.bx.lo.trans (hba.mono T6.bx.lo.size))
  have ho0 : (W.alloc (.cells #[] 3)).ownsRow W.heap.size 3 1 (.slice (some ⟨W.heap.size, 0, none⟩) 0 0) 0 [] := World.ownsRow_lit (e := 3) W #[] 0 (base := W.heap.size) (size := 1) (Nat.le_refl _) (by decide) rfl
  obtain ⟨A1, C1, w2, hr1, ho1, hg1, hn1⟩ := run_app_any Tryz.underlying22 hii hii0 hii1 hii2 rfl (by decide) ho0 A' m.parents.length C' (intV m.parents) (by rw [intV_len, Nat.mul_one]) hNw.1 hNw.2 (intV_one' _) (by unfold maxLen; omega) (by omega) hba.size
  rw [Nat.zero_add] at ho1 hr1 hn1
  rw [List.nil_append] at ho1
  have hb2 : Below W.heap.size W w2 := hba.grown hg1 hba.size (fun g e => (World.ownsRow.lt ho0 g e).1)
  have hw2 := (hw0.add (o := rowI (.slice A1 m.parents.length C1) m.parents) hb2 ho1).swap2
  have k2 := rowK_at (B := w.heap.size + 2) hw2.row
  have hw2s := hw2.setK (.slice A1 m.parents.length C1)
  have k2s := rowK_at (B := w.heap.size + 2) hw2s.row
  have p2s := hw2s.cells
  have hw3 := (hw2s.to ((Below.refl _ _).alloc (Nat.le_refl _) (.cells #[.slice A1 m.parents.length C1, .int .u8 m.bed, .int .i64 m.at_, .int .i64 m.car] 52))).less
  have hlen : mv.length = j := by
    rw [hw2.mlen]
    show (s.made.take j).length = j
    have := (List.getElem?_eq_some_iff.1 hm).1
    rw [List.length_take]; omega
  have hrm : ((w2.setCell ⟨wr.heap.size, 0, none⟩ (.slice A1 m.parents.length C1)).alloc (.cells #[.slice A1 m.parents.length C1, .int .u8 m.bed, .int .i64 m.at_, .int .i64 m.car] 52)).ownsRow (w.heap.size + 2) 52 4 (.slice am j cm) j (mv.map makeCells).flatten := by
    have h0 := hw3.rm
    unfold rowM Own.lies at h0
    simp only [hlen] at h0
    exact h0
  have hsz2 : w.heap.size + 2 ≤ w2.heap.size := by have := hb2.size; omega
  have hs2 : (w2.setCell ⟨wr.heap.size, 0, none⟩ (.slice A1 m.parents.length C1)).heap.size = w2.heap.size := by simp
  obtain ⟨A2, C2, w5, hr2, ho2, hg2, hn2⟩ := run_app_any Tryz.underlying46 him him0 him1 him2 rfl (by decide) hrm (some ⟨w2.heap.size, 0, none⟩) 1 1 [.slice A1 m.parents.length C1, .int .u8 m.bed, .int .i64 m.at_, .int .i64 m.car] rfl (fun e => by cases e) (fun ad e => by cases e; exact newsT (w2.setCell ⟨wr.heap.size, 0, none⟩ (.slice A1 m.parents.length C1)) _ _ _ hs2.symm) (one4 _ _ _ _ _ _) (by unfold maxLen; omega) (by omega) (by simp; omega)
  obtain ⟨-, -, -, e3, e4⟩ := hw3.struct hg2 hw3.pbM
  refine ⟨A1, C1, w2, A2, C2, w5, hr1, hr2, ⟨(rowK_at hK).1, k2.1, k2.2.2.2.2 0⟩, ⟨k2s.1, k2s.2.1, k2s.2.2.1, k2s.2.2.2.1⟩, p2s.2.2.2.1, e3, e4, ?_⟩
  have hmm := hw3.moreMade (h := m) hg2 (by rw [hlen]; exact ho2) hn2
  have es : (twinS s n (j + 1)) = { (twinS s n j) with made := (twinS s n j).made ++ [m] } := by
    show (⟨s.rack, s.hooks.take n, s.feeds, s.made.take (j + 1)⟩ : BedS) = ⟨s.rack, s.hooks.take n, s.feeds, s.made.take j ++ [m]⟩
    rw [take_snoc2 hm]
  refine ⟨T6.bx.to ?_, by rw [es]; exact hmm⟩
  have hpb := T.wk.base
  have hb2s : Below (w.heap.size + 2) W (w2.setCell ⟨wr.heap.size, 0, none⟩ (.slice A1 m.parents.length C1)) := (hb2.mono (by omega)).setCell (p := ⟨wr.heap.size, 0, none⟩) hsz _
  exact (((hb2s.alloc (by rw [hs2]; exact hsz2) _)).trans (Below.of_grown hg2 (by simp; omega) (fun g e => (World.ownsRow.lt hrm g e).1))).setCell (p := ⟨pb, 3, none⟩) hpb.1 _
theorem rtwin_close {W : World} {tmps : Array Value} {r : Int} {v0 v1 v2 : Value} {b : Nat} {R : Ending → World → Prop} (c0 : W.cell? ⟨b, 0, none⟩ = some (.int .i64 r)) (c1 : W.cell? ⟨b, 1, none⟩ = some v0) (c2 : W.cell? ⟨b, 2, none⟩ = some v1) (c3 : W.cell? ⟨b, 3, none⟩ = some v2) (h8 : tmps[2]?.getD undef = .pointer (some ⟨b, 0, none⟩)) (hR : R (.returned (.agg #[.int .i64 r, v0, v1, v2])) W) :
    bodyPost Tryz.prog Tryz.f94 R .ret { tmps := tmps, defers := [] } W := by
  refine bodyPost_ret (v := .agg #[.int .i64 r, v0, v1, v2]) ?_ rfl hR
  simp [results, Tryz.results94, go_sem, h8, c0, c1, c2, c3]
theorem twin_end {w W : World} {s : BedS} {p : BedP} {pb : Nat} {hv : List (Hk × Value)} {mv : List (Mk × Value)} {vh vf vm : Value} (T : TwB w s p pb s.hooks.length s.made.length hv mv vh vf vm W) :
    let W' := stW W (w.heap.size + 1) (.int .i64 s.rack) vh vf vm
    W'.cell? ⟨w.heap.size + 1, 0, none⟩ = some (.int .i64 s.rack) ∧ W'.cell? ⟨w.heap.size + 1, 1, none⟩ = some vh ∧ W'.cell? ⟨w.heap.size + 1, 2, none⟩ = some vf ∧ W'.cell? ⟨w.heap.size + 1, 3, none⟩ = some vm ∧ twinOut s w (.returned (.agg #[.int .i64 s.rack, vh, vf, vm])) W' := by
  obtain ⟨z0, z1, z2, z3⟩ := T.bx.out
  have es : twinS s s.hooks.length s.made.length = s := by
    show (⟨s.rack, s.hooks.take s.hooks.length, s.feeds, s.made.take s.made.length⟩ : BedS) = s
    rw [List.take_length, List.take_length]
  have wk := T.wk
  rw [es] at wk
  refine ⟨?_, ?_, ?_, ?_, hv, mv, vh, vf, vm, rfl, wk.hooks, wk.made, ?_, ?_⟩
  · exact set_other (by simp) (set_other (by simp) (set_other (by simp) (set_same z0)))
  · exact set_other (by simp) (set_other (by simp) (set_same (set_other (by simp) z1)))
  · exact set_other (by simp) (set_same (set_other (by simp) (set_other (by simp) z2)))
  · exact set_same (set_other (by simp) (set_other (by simp) (set_other (by simp) z3)))
  · have hmv : ∀ {X : World} {k : Nat} {u : Value} (i : Nat), w.heap.size + 2 ≤ i → (X.setCell ⟨w.heap.size + 1, k, none⟩ u).heap[i]? = X.heap[i]? := fun {X k u} i hi => Below.heap_setCell _ _ _ i (show i ≠ w.heap.size + 1 by omega)
    have h2 := wk.move (W := stW W (w.heap.size + 1) (.int .i64 s.rack) vh vf vm) (fun j h1 _ => (hmv j h1).trans ((hmv j h1).trans ((hmv j h1).trans (hmv j h1))))
    have h3 := h2.owns.tail
    exact ⟨fun o ho => World.ownsRow.mono (h3.all o ho) (by omega), h3.apart⟩
  · exact (((T.bx.lo.setCell (p := ⟨w.heap.size + 1, 0, none⟩) (by simp) _).setCell (p := ⟨w.heap.size + 1, 1, none⟩) (by simp) _).setCell (p := ⟨w.heap.size + 1, 2, none⟩) (by simp) _).setCell (p := ⟨w.heap.size + 1, 3, none⟩) (by simp) _
/-- A load that a walk is not to take first. -/
def ldOp (t : TypeId) (x : Operand) : Op := Op.load t x
theorem perm4 {α : Type} (a b c d : α) : [a, b, c, d].Perm [c, a, d, b] := ((List.Perm.cons a (List.Perm.swap c b [d])).trans (List.Perm.swap c a [b, d])).trans (List.Perm.cons c (List.Perm.cons a (List.Perm.swap d b [])))
theorem tw_set {T : TypeId} {w : World} {B pb : Nat} {r0 : Int} {a0 b0 c0 : Value} {L : List Own} (h : Owns w B (rowP T pb r0 a0 b0 c0 :: L)) (r : Int) (a b c : Value) : Owns (stW w pb (.int .i64 r) a b c) B (rowP T pb r a b c :: L) := rowP_set (rowP_set (rowP_set (rowP_set h 0 (.int .i64 r)) 1 a) 2 b) 3 c
theorem tw_fin {w W1 W : World} {s : BedS} {p : BedP} {pb : Nat} {vf : Value} (hp : PuB w s.rack (.slice p.ah s.hooks.length p.ch) (.slice p.af s.feeds.length p.cf) (.slice p.am s.made.length p.cm) W1) (hb : Below W1.heap.size W1 W) (ho : Owns W W1.heap.size [rowP 48 pb s.rack (.slice none 0 0) vf (.slice none 0 0), rowF vf s.feeds]) :
    TwB w s p pb 0 0 [] [] (.slice none 0 0) vf (.slice none 0 0) W := by
  have h2 : Owns W (w.heap.size + 2) [rowP 48 pb s.rack (.slice none 0 0) vf (.slice none 0 0), rowF vf s.feeds] := ⟨fun o h => World.ownsRow.mono (ho.all o h) hp.sz, ho.apart⟩
  have h3 := (h2.none 52 4).none 92 3
  exact ⟨hp.to (hb.mono hp.sz), ⟨rfl, rfl, h3.perm (perm4 _ _ _ _)⟩⟩
set_option maxHeartbeats 16000000 in
theorem rtwin_any (s : BedS) (p : BedP) (hn : s.hooks.length ≤ 9000 ∧ s.feeds.length ≤ 9000 ∧ s.made.length ≤ 9000) (hl : ∀ h ∈ s.hooks, h.loops.length ≤ 1000000) (hm : ∀ m ∈ s.made, m.parents.length ≤ 1000000) (w : World) (hs : BedAt w w.heap.size p s) :
    Calls Tryz.prog 94 #[s.val p] w fun e w' => twinOut s w e w' := by
  obtain ⟨ii, hii, hii0, hii1, hii2⟩ := info_parts info_int'
  obtain ⟨ih, hih, hih0, hih1, hih2⟩ := info_parts info_hook
  obtain ⟨if_, hif, hif0, hif1, hif2⟩ := info_parts info_feed
  obtain ⟨im, him, him0, him1, him2⟩ := info_parts info_made
  have HP0 := Lib.hid (PuB.new w s.rack p.ah s.hooks.length p.ch (.slice p.af s.feeds.length p.cf) (.slice p.am s.made.length p.cm))
  have HS := Lib.hid hs
  have HL := Lib.hid (show _ ∧ _ from ⟨hl, hm⟩)
  obtain ⟨hn1, hn2, hn3⟩ := hn
  unfold BedS.val
  clear hs hl hm
  go_enter Tryz.func94, Tryz.ntmps94
  go_upto_region 1 with fail
  refine abs_world (Q := fun W => Code.wp _ _ _ _ W) (F := PuB w s.rack (.slice p.ah s.hooks.length p.ch) (.slice p.af s.feeds.length p.cf) (.slice p.am s.made.length p.cm)) _ HP0.out ?_
  clear HP0
  intro W1 hP1
  have HP1 := Lib.hid hP1
  clear hP1
  obtain ⟨c0, c1, c2, c3⟩ := HP1.out.st
  have HRun : Hid (∀ (Wx : World) (b : Nat) (L : List Own), Below W1.heap.size W1 Wx → Owns Wx W1.heap.size (rowF (.slice (some ⟨b, 0, none⟩) 0 0) [] :: L) → ∃ A c w2, (Builtin.append_ #[45, 45] 45 #[.slice (some ⟨b, 0, none⟩) 0 0, .slice p.af s.feeds.length p.cf]).run Tryz.prog Wx = .ok (.slice A s.feeds.length c) w2 ∧ Owns w2 W1.heap.size (rowF (.slice A s.feeds.length c) s.feeds :: L) ∧ Below W1.heap.size W1 w2) := by
    intro Wx b L hb hL
    have HNf := HS.out.feeds.news (W := Wx) (HP1.out.lo.trans (hb.mono (by have := HP1.out.lo.size; omega)))
    have hsz := hb.size
    have hF := hL.head
    obtain ⟨A, c, w2, hr, ho, hg, hnb⟩ := run_app_any Tryz.underlying45 hif hif0 hif1 hif2 rfl (by decide) (show Wx.ownsRow W1.heap.size 94 3 (.slice (some ⟨b, 0, none⟩) 0 0) 0 [] from hF) p.af s.feeds.length p.cf (s.feeds.map Fd.cells).flatten (by rw [flat_len (cells3f _), List.length_map]) HNf.1 HNf.2 (one3f _) (by unfold maxLen; omega) (by omega) hsz
    rw [Nat.zero_add] at ho hr hnb
    rw [List.nil_append] at ho
    exact ⟨A, c, w2, hr, hL.turn hg ho hnb, hb.grown hg hsz (fun k e => (World.ownsRow.lt hF k e).1)⟩
  have HO1 : Hid (Owns (W1.alloc (.cells #[] 94)) W1.heap.size [rowF (.slice (some ⟨W1.heap.size, 0, none⟩) 0 0) []]) := Owns.nil.add ((Below.refl _ W1).alloc (Nat.le_refl _) _) (Nat.le_refl _) (World.ownsRow_lit (e := 94) W1 #[] 0 (base := W1.heap.size) (size := 3) (Nat.le_refl _) (by decide) rfl)
  have HO2 : Hid (Owns (W1.alloc bedZero) W1.heap.size [rowP 48 W1.heap.size 0 (.slice none 0 0) (.slice none 0 0) (.slice none 0 0)]) := Owns.nil.add ((Below.refl _ W1).alloc (Nat.le_refl _) _) (Nat.le_refl _) (World.ownsRow_lit (e := 48) W1 #[.int .i64 0, .slice none 0 0, .slice none 0 0, .slice none 0 0] 1 (base := W1.heap.size) (size := 4) (Nat.le_refl _) (by decide) rfl)
  have hbA := (Below.refl W1.heap.size W1).alloc (Nat.le_refl _) (.cells #[] 94)
  have hbB := (Below.refl W1.heap.size W1).alloc (Nat.le_refl _) bedZero
  have HO3 : Hid (Owns ((W1.alloc (.cells #[] 94)).alloc bedZero).drew W1.heap.size (rowF (.slice (some ⟨W1.heap.size, 0, none⟩) 0 0) [] :: [rowP 48 (W1.heap.size + 1) 0 (.slice none 0 0) (.slice none 0 0) (.slice none 0 0)])) := by
    have h := HO1.out.add ((Below.refl _ _).alloc (Nat.le_refl _) bedZero) (by simp) (o := rowP 48 (W1.alloc (.cells #[] 94)).heap.size 0 (.slice none 0 0) (.slice none 0 0) (.slice none 0 0)) (World.ownsRow_lit (e := 48) (W1.alloc (.cells #[] 94)) #[.int .i64 0, .slice none 0 0, .slice none 0 0, .slice none 0 0] 1 (base := (W1.alloc (.cells #[] 94)).heap.size) (size := 4) (Nat.le_refl _) (by decide) rfl)
    have h2 := h.swap.to (Below.drew (Below.refl _ _))
    rw [show (W1.alloc (.cells #[] 94)).heap.size = W1.heap.size + 1 by simp] at h2
    exact h2
  have HO4 : Hid (Owns ((W1.alloc bedZero).alloc (.cells #[] 94)).drew W1.heap.size (rowF (.slice (some ⟨W1.heap.size + 1, 0, none⟩) 0 0) [] :: [rowP 48 W1.heap.size 0 (.slice none 0 0) (.slice none 0 0) (.slice none 0 0)])) := by
    have h := HO2.out.add ((Below.refl _ _).alloc (Nat.le_refl _) (.cells #[] 94)) (by simp) (o := rowF (.slice (some ⟨(W1.alloc bedZero).heap.size, 0, none⟩) 0 0) []) (World.ownsRow_lit (e := 94) (W1.alloc bedZero) #[] 0 (base := (W1.alloc bedZero).heap.size) (size := 3) (Nat.le_refl _) (by decide) rfl)
    have h2 := h.to (Below.drew (Below.refl _ _))
    rw [show (W1.alloc bedZero).heap.size = W1.heap.size + 1 by simp] at h2
    exact h2
  have HO5 := Lib.hid (HO1.out.to (Below.drew (Below.refl _ _)))
  obtain ⟨A1, e1, v1, hr1, ho1, hb1⟩ := HRun.out _ _ _ hbA.drew HO5.out
  obtain ⟨A2, e2, v2, hr2, ho2, hb2⟩ := HRun.out _ _ _ (hbA.alloc (by simp) bedZero).drew HO3.out
  obtain ⟨A3, e3, v3, hr3, ho3, hb3⟩ := HRun.out _ _ _ (hbB.alloc (by simp) (.cells #[] 94)).drew HO4.out
  clear HO1 HO2 HO3 HO4 HO5 HRun
  unfold bedZero at hr2 hr3
  have hbD : Below W1.heap.size W1 W1.drew := Below.drew (Below.refl _ _)
  have HSb : Hid (∀ W', Below W1.heap.size W1 W' → W'.cell? ⟨w.heap.size, 0, none⟩ = some (.int .i64 s.rack) ∧ W'.cell? ⟨w.heap.size, 2, none⟩ = some (.slice p.af s.feeds.length p.cf) ∧ Below W1.heap.size W1 W') := fun W' hb => ⟨(bcell hb (lt_of_cell c0) _).trans c0, (bcell hb (lt_of_cell c2) _).trans c2, hb⟩
  have q2 := rowP_at (ho2.all _ (List.mem_cons_of_mem _ List.mem_cons_self))
  have q3 := rowP_at (ho3.all _ (List.mem_cons_of_mem _ List.mem_cons_self))
  obtain ⟨g0, g1, g2, g3, gf⟩ := q2
  obtain ⟨l0, l1, l2, l3, lf⟩ := q3
  have hb1a := fun o => hb1.alloc hb1.size o
  have hst2 : ∀ a b c d, Below W1.heap.size W1 (stW v2 (W1.heap.size + 1) a b c d) := fun a b c d => (((hb2.setCell (p := ⟨W1.heap.size + 1, 0, none⟩) (by simp) _).setCell (p := ⟨W1.heap.size + 1, 1, none⟩) (by simp) _).setCell (p := ⟨W1.heap.size + 1, 2, none⟩) (by simp) _).setCell (p := ⟨W1.heap.size + 1, 3, none⟩) (by simp) _
  have hst3 : ∀ a b c d, Below W1.heap.size W1 (stW v3 W1.heap.size a b c d) := fun a b c d => (((hb3.setCell (p := ⟨W1.heap.size, 0, none⟩) (by simp) _).setCell (p := ⟨W1.heap.size, 1, none⟩) (by simp) _).setCell (p := ⟨W1.heap.size, 2, none⟩) (by simp) _).setCell (p := ⟨W1.heap.size, 3, none⟩) (by simp) _
  go_cut [3] (fun s3 wr => ∃ pb vf, s3 = .pointer (some ⟨pb, 0, none⟩) ∧ Hid (TwB w s p pb 0 0 [] [] (.slice none 0 0) vf (.slice none 0 0) wr))
  case first =>
    go_region_held3 (fun W' => W'.cell? ⟨w.heap.size, 0, none⟩ = some (.int .i64 s.rack) ∧ W'.cell? ⟨w.heap.size, 2, none⟩ = some (.slice p.af s.feeds.length p.cf) ∧ Below W1.heap.size W1 W')
      (first | (with_reducible exact HSb.out _ (by assumption)) | (with_reducible exact keepT (by assumption) ((Below.refl _ _).alloc (Nat.le_refl _) _)) | (with_reducible exact HSb.out _ (hb1a _)) | (with_reducible exact HSb.out _ (hst2 _ _ _ _)) | (with_reducible exact HSb.out _ (hst3 _ _ _ _)) | fail)
      (first | ((with_reducible refine at_world ((W1.alloc (.cells #[] 94)).drew) ?_); refine step_append_run (by rfl) _ _ _ _ (by rfl) _ _ (by rfl) (by rfl) hr1 ?_) | ((with_reducible refine at_world (((W1.alloc (.cells #[] 94)).alloc (.cells #[.int .i64 0, .slice none 0 0, .slice none 0 0, .slice none 0 0] 48)).drew) ?_); refine step_append_run (by rfl) _ _ _ _ (by rfl) _ _ (by rfl) (by rfl) hr2 ?_) | ((with_reducible refine at_world (((W1.alloc (.cells #[.int .i64 0, .slice none 0 0, .slice none 0 0, .slice none 0 0] 48)).alloc (.cells #[] 94)).drew) ?_); refine step_append_run (by rfl) _ _ _ _ (by rfl) _ _ (by rfl) (by rfl) hr3 ?_) | fail)
    · go_wp2_with fail
      go_meet
      exact ⟨_, _, rfl, tw_fin HP1.out (hb1a _) (ho1.add ((Below.refl _ v1).alloc (Nat.le_refl _) _) hb1.size (o := rowP 48 v1.heap.size s.rack (.slice none 0 0) (.slice A1 s.feeds.length e1) (.slice none 0 0)) (World.ownsRow_lit (e := 48) v1 #[.int .i64 s.rack, .slice none 0 0, .slice A1 s.feeds.length e1, .slice none 0 0] 1 (base := v1.heap.size) (size := 4) (Nat.le_refl _) (by decide) rfl))⟩
    · go_wp2_with fail
      go_meet
      exact ⟨_, _, rfl, tw_fin HP1.out (hst2 _ _ _ _) (tw_set ho2.swap _ _ _ _)⟩
    · go_wp2_with fail
      go_meet
      exact ⟨_, _, rfl, tw_fin HP1.out (hst3 _ _ _ _) (tw_set ho3.swap _ _ _ _)⟩
  case rest =>
    obtain ⟨pb, vf, rfl, HT⟩ := hcut
    clear hr1 hr2 hr3 ho1 ho2 ho3 hb1 hb2 hb3 hst2 hst3 hb1a hbA hbB hbD HSb c0 c1 c2 c3 g0 g1 g2 g3 gf l0 l1 l2 l3 lf HP1
    obtain ⟨w4, rfl⟩ : ∃ x : World, x = wc := ⟨_, rfl⟩
    go_wp2
    go_loopw [4] (fun s4 wr => ∃ (k : Nat) (hv : List (Hk × Value)) (ah : Option Addr) (ch : Nat), k ≤ s.hooks.length ∧ s4 = .int .i64 (k : Int) ∧ Hid (TwB w s p pb k 0 hv [] (.slice ah k ch) vf (.slice none 0 0) wr)) (fun s4 _ => s.hooks.length - (intOf s4).toNat)
    case atStart => exact ⟨0, [], none, 0, Nat.zero_le _, rfl, HT.out⟩
    case round =>
      clear HT
      obtain ⟨k, hv, ah, ch, hk, rfl, HT⟩ := hrel
      obtain ⟨c0, c1, c2, c3⟩ := HT.out.bx.st
      by_cases hlt : k < s.hooks.length
      case pos =>
        obtain ⟨bb, off, h, A', C', hA, hB, hr, q0, q1, q2, hC, hsi⟩ := HS.out.hooks.at_ hlt
        have d0 := (bcell HT.out.bx.lo hB _).trans q0
        have d1 := (bcell HT.out.bx.lo hB _).trans q1
        have d2 := (bcell HT.out.bx.lo hB _).trans q2
        rw [hA] at c1
        have HR := Lib.hid hr
        have hll := HL.out.1 h (List.mem_of_getElem? hr)
        have HSi := Lib.hid hsi
        clear q0 q1 q2 hA hB hr hsi
        go_upto_region 6 with fail
        refine abs_world (Q := fun W => Code.wp _ _ _ _ W) (F := fun W => Below wr.heap.size wr W ∧ W.cell? ⟨wr.heap.size, 0, none⟩ = some (.int .u8 h.bed) ∧ W.cell? ⟨wr.heap.size, 1, none⟩ = some (.int .i64 h.at_) ∧ W.cell? ⟨wr.heap.size, 2, none⟩ = some (.slice A' h.loops.length C')) _ ⟨(Below.refl _ wr).alloc (Nat.le_refl _) _, cell_new rfl rfl rfl, cell_new rfl rfl rfl, cell_new rfl rfl rfl⟩ ?_
        clear c0 c1 c2 c3 d0 d1 d2
        rintro W6 ⟨hb6, b0, b1, b2⟩
        obtain ⟨A1, C1, w2, A2, C2, w5, hr1, hr2, HSx, HB2, HSs, HS5, e6, e2, e5, ef, HTn⟩ := twin_hook HT.out HR.out (by omega) hll hb6 HSi.out b0 b1 b2
        have hs0 := Lib.hid (HSx.out W6.drew (Below.drew (Below.refl _ _)))
        have hs1 := Lib.hid (HSx.out (W6.alloc (.cells #[] 3)).drew (((Below.refl _ W6).alloc (Nat.le_refl _) _).drew))
        have hs2 := Lib.hid (HSx.out w2 HB2.out)
        have hs3 := Lib.hid (HSx.out (w2.alloc (.cells #[.int .u8 h.bed, .int .i64 h.at_, .slice A1 h.loops.length C1] 92)) (HB2.out.alloc HB2.out.size _))
        have e61 := fun o => cell_al e6 o
        have e21 := fun o => cell_al e2 o
        clear b0 b1 b2 hb6 HT HR HSi HB2 HSx
        obtain ⟨hb, hhb⟩ : ∃ hb, hb = wr.heap.size := ⟨_, rfl⟩
        rw [← hhb] at hs0 hs1 hs2 hs3 HS5 HSs ⊢
        clear hhb
        have hld : ∀ (t : TypeId) (x : Operand), ldOp t x = Op.load t x := fun _ _ => rfl
        rw [show Op.load 44 (Operand.tmp 27) = ldOp 44 (Operand.tmp 27) from rfl]
        go_region_held3 (fun W' => W'.cell? ⟨hb, 0, none⟩ = some (.int .u8 h.bed) ∧ W'.cell? ⟨hb, 1, none⟩ = some (.int .i64 h.at_) ∧ W'.cell? ⟨hb, 2, none⟩ = some (.slice A' h.loops.length C'))
          (first | (with_reducible exact hs0.out) | (with_reducible exact hs1.out) | (with_reducible exact hs2.out) | (with_reducible exact hs3.out) | (with_reducible exact HS5.out) | (with_reducible exact HSs.out _) | fail)
          (first | ((with_reducible refine at_world ((W6.alloc (.cells #[] 3)).drew) ?_); refine step_append_run (by rfl) _ _ _ _ (by rfl) _ _ (by rfl) (by rfl) hr1 ?_) | ((with_reducible refine at_world (w2.alloc (.cells #[.int .u8 h.bed, .int .i64 h.at_, .slice A1 h.loops.length C1] 92)) ?_); refine step_append_run (by rfl) _ _ _ _ (by rfl) _ _ (by rfl) (by rfl) hr2 ?_) | fail)
        all_goals
          clear hld hs0 hs1 hs2 hs3 HS5 HSs e61 e21 e6 e2 e5 ef hr1 hr2
          go_wp2
          go_roundw
          case rel => exact ⟨k + 1, _, _, _, by omega, by go_num, HTn.out⟩
          case measure => simp [intOf]; omega
      case neg =>
        have hke : k = s.hooks.length := by omega
        subst hke
        go_wp2
        go_loopw [6] (fun s6 wr => ∃ (j : Nat) (mv : List (Mk × Value)) (am : Option Addr) (cm : Nat), j ≤ s.made.length ∧ s6 = .int .i64 (j : Int) ∧ Hid (TwB w s p pb s.hooks.length j hv mv (.slice ah s.hooks.length ch) vf (.slice am j cm) wr)) (fun s6 _ => s.made.length - (intOf s6).toNat)
        case atStart => exact ⟨0, [], none, 0, Nat.zero_le _, rfl, HT.out⟩
        case round =>
          clear HT c0 c1 c2 c3
          obtain ⟨j, mv, am, cm, hj, rfl, HT⟩ := hrel
          obtain ⟨c0, c1, c2, c3⟩ := HT.out.bx.st
          by_cases hlt : j < s.made.length
          case pos =>
            obtain ⟨bb, off, m, A', C', hA, hB, hr, q0, q1, q2, q3, hC, hsi⟩ := HS.out.made.at_ hlt
            have d0 := (bcell HT.out.bx.lo hB _).trans q0
            have d1 := (bcell HT.out.bx.lo hB _).trans q1
            have d2 := (bcell HT.out.bx.lo hB _).trans q2
            have d3 := (bcell HT.out.bx.lo hB _).trans q3
            rw [hA] at c3
            have HSi := Lib.hid hsi
            have HR := Lib.hid hr
            clear hsi
            have hll := HL.out.2 m (List.mem_of_getElem? hr)
            clear hr
            obtain ⟨A1, C1, w2, A2, C2, w5, hr1, hr2, ⟨e1, e2, e3⟩, ⟨g0, g1, g2, g3⟩, gp, g5, gf, HTn⟩ := twin_made (C' := C') HT.out HR.out (by omega) hll HSi.out _ rfl
            have hb2 := lt_of_cell e2
            have e1' := fun o => cell_al e1 o
            have gp' := fun o => cell_al gp o
            simp only [World.size_alloc] at hr1
            clear q0 q1 q2 q3 hA hB
            go_wp2_with (first | (at_builtin; refine wpList_append_run _ rfl _ _ _ _ rfl _ _ (by rfl) (by rfl) hr1 ?_) | (at_builtin; refine wpList_append_run _ rfl _ _ _ _ rfl _ _ (by rfl) (by rfl) hr2 ?_))
            clear hr1 hr2 e1 e2 e3 e1' gp' g0 g1 g2 g3 gp g5 gf hb2 d0 d1 d2 d3 c0 c1 c2 c3
            go_roundw
            case rel => exact ⟨j + 1, _, _, _, by omega, by go_num, HTn.out⟩
            case measure => simp [intOf]; omega
          case neg =>
            have hje : j = s.made.length := by omega
            subst hje
            obtain ⟨b0, b1, b2, b3, bf⟩ := HT.out.wk.cells
            obtain ⟨af, cf, hf, -⟩ := own_slice HT.out.wk.rf
            have hf' : vf = .slice af s.feeds.length cf := hf
            subst hf'
            obtain ⟨k0, k1, k2, k3, HR⟩ := twin_end HT.out
            have HR2 := Lib.hid HR
            have HK := Lib.hid (show _ ∧ _ ∧ _ ∧ _ from ⟨k0, k1, k2, k3⟩)
            obtain ⟨z0, z1, z2, z3⟩ := HT.out.bx.out
            have zf := HT.out.bx.frz2
            have l1 := lt_of_cell z0
            clear k0 k1 k2 k3 HR HT hf
            go_wp2
            exact rtwin_close HK.out.1 HK.out.2.1 HK.out.2.2.1 HK.out.2.2.2 rfl HR2.out
end Go.Proofs.YthedmiilkeclaaaGreat
