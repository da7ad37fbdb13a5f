/- Rows of numbers and of pairs that a call owns (layer 32: they lie in other texts). Layer 27: a piece in memory. Layer 27: the reference's put. Layer 27: the reference's cell. Layer 27: the reference's cell: cables. -/
import Derived.Test.YtflpikickbellaaKOf0
import Derived.Test.YtflpikickbellaaKG17
import Derived.Test.YtflpikickbellaaKG3
import Derived.Deep.RegionHeld3
import Derived.Deep.DeepCutAuto

namespace Go.Proofs.Ytflpikickbellaa
open Go.RowKit Go.Shelf Go.Sort
set_option maxRecDepth 100000

theorem info_lpT : (Try.prog.info? 111).map (fun i => (i.zero, i.size, i.bytes)) = some (some (.agg #[.int .i64 0, .int .i64 0, .slice none 0 0, .bool false]), 4, 48) := by kernel_rfl
/-! A box that a call owns. -/
def bxT (T : TypeId) (pb : Nat) (vals : List Value) : Own := ⟨T, vals.length, 1, .slice (some ⟨pb, 0, none⟩) 1 1, vals⟩
theorem bxT_at {w : World} {B pb : Nat} {T : TypeId} {vals : List Value} (h : (bxT T pb vals).lies w B) : (∀ k v, vals[k]? = some v → w.cell? ⟨pb, k, none⟩ = some v) ∧ (∀ k, w.frozen? ⟨pb, k, none⟩ = false) ∧ B ≤ pb ∧ pb < w.heap.size := by
  have h0 : w.ownsRow B T vals.length (.slice (some ⟨pb, 0, none⟩) 1 1) 1 vals := h
  obtain ⟨h1, h2⟩ := World.ownsRow.lt h0 pb rfl
  exact ⟨fun k v hk => by rw [h0.cellAt k (by rw [Nat.one_mul]; exact (List.getElem?_eq_some_iff.1 hk).1)]; exact hk, fun k => h0.frozenAt k, h1, h2⟩
theorem bxT_set {w : World} {B pb : Nat} {T : TypeId} {vals : List Value} {L : List Own} (h : Owns w B (bxT T pb vals :: L)) (k : Nat) (y : Value) : Owns (w.setCell ⟨pb, k, none⟩ y) B (bxT T pb (vals.set k y) :: L) := by
  have h0 : w.ownsRow B T vals.length (.slice (some ⟨pb, 0, none⟩) 1 1) 1 vals := h.head
  obtain ⟨h1, h2⟩ := World.ownsRow.stored h0 k y
  refine h.turn (o' := bxT T pb (vals.set k y)) h2 ?_ (fun k hk => Or.inl hk)
  unfold bxT Own.lies
  rw [List.length_set]
  exact h1
theorem bxT_below {w : World} {B pb : Nat} {T : TypeId} {vals : List Value} {L : List Own} (h : Owns w B (bxT T pb vals :: L)) (hB : B ≤ w.heap.size) (k : Nat) (y : Value) : Below B w (w.setCell ⟨pb, k, none⟩ y) :=
  Below.of_grown (grown_setAt w pb k y) hB (fun k e => by cases e; exact (bxT_at h.head).2.2.1)
theorem bxT_new (w : World) (T : TypeId) (vals : List Value) : (bxT T w.heap.size vals).lies (w.alloc (.cells vals.toArray T)) w.heap.size := box_new w T vals rfl
/-! The loops. -/
abbrev lpC (l : Lp) (v : Value) : List Value := [.int .i64 l.row, .int .i64 l.cell, v, .bool l.purl]
abbrev lpB (l : Lp) (v : Value) : Obj := .cells #[.int .i64 l.row, .int .i64 l.cell, v, .bool l.purl] 111
def lpCs (L : List Lp) (vs : List Value) : List (List Value) := List.zipWith lpC L vs
theorem lpCs_four (L : List Lp) (vs : List Value) : ∀ cs ∈ lpCs L vs, cs.length = 4 := fun cs h => by
  unfold lpCs at h
  rw [← List.map_uncurry_zip_eq_zipWith] at h
  obtain ⟨p, -, rfl⟩ := List.mem_map.1 h
  rfl
theorem lpCs_len {L : List Lp} {vs : List Value} (h : vs.length = L.length) : (lpCs L vs).length = L.length := by unfold lpCs; rw [List.length_zipWith, h, Nat.min_self]
theorem lpCs_app {L : List Lp} {vs : List Value} (h : vs.length = L.length) (l : Lp) (v : Value) : lpCs (L ++ [l]) (vs ++ [v]) = lpCs L vs ++ [lpC l v] := by unfold lpCs; rw [List.zipWith_append h.symm]; rfl
def pxL (v : Value) (L : List Lp) (vs : List Value) : Own := ⟨111, 4, L.length, v, (lpCs L vs).flatten⟩
def parO (L : List Lp) (vs : List Value) : List Own := List.zipWith (fun l v => pxJ v l.par) L vs
theorem parO_app {L : List Lp} {vs : List Value} (h : vs.length = L.length) (l : Lp) (v : Value) : parO (L ++ [l]) (vs ++ [v]) = parO L vs ++ [pxJ v l.par] := by unfold parO; rw [List.zipWith_append h.symm]; rfl
theorem pxL_form {w : World} {B : Nat} {v : Value} {L : List Lp} {vs : List Value} {R : List Own} (h : Owns w B (pxL v L vs :: R)) : ∃ a c, v = .slice a L.length c := by
  obtain ⟨a, c, e, -⟩ := own_slice h.head
  exact ⟨a, c, e⟩
theorem pxL_app {w : World} {B c : Nat} {a : Option Addr} {L : List Lp} {vs : List Value} {R : List Own} (h : Owns w B (pxL (.slice a L.length c) L vs :: R)) (hv : vs.length = L.length) (hB : B ≤ w.heap.size) (hl : L.length ≤ 100000) (l : Lp) (pa : Option Addr) (pn pc : Nat) :
    ∃ A' c' w', (Builtin.append_ #[100, 100] 100 #[.slice a L.length c, .slice (some ⟨w.heap.size, 0, none⟩) 1 1]).run Try.prog (w.alloc (lpB l (.slice pa pn pc))) = .ok (.slice A' (L.length + 1) c') w' ∧ Owns w' B (pxL (.slice A' (L.length + 1) c') (L ++ [l]) (vs ++ [.slice pa pn pc]) :: R) ∧ Below B w w' := by
  obtain ⟨ii, hii, hii0, hii1, hii2⟩ := info_parts info_lpT
  have hal := al_t w (lpB l (.slice pa pn pc))
  have h9 := h.to hal
  have h0 : (w.alloc (lpB l (.slice pa pn pc))).ownsRow B 111 4 (.slice a L.length c) L.length (lpCs L vs).flatten := h9.head
  have hsz := hal.size
  have hnew : ∀ j u, (lpC l (.slice pa pn pc))[j]? = some u → (w.alloc (lpB l (.slice pa pn pc))).cell? ((⟨w.heap.size, 0, none⟩ : Addr).add j) = some u := newsT w _ _ _ rfl
  obtain ⟨A', c', w', hr, ho, hg, hn⟩ := run_app_any Try.underlying100 hii hii0 hii1 hii2 rfl (by decide) h0 (some ⟨w.heap.size, 0, none⟩) 1 1 (lpC l (.slice pa pn pc)) rfl (fun e => by cases e) (fun ad e => by cases e; exact hnew) (fun u hu => by
    simp only [List.mem_cons, List.not_mem_nil, or_false] at hu
    rcases hu with rfl | rfl | rfl | rfl <;> rfl) (by unfold maxLen; omega) (by omega) (by omega)
  refine ⟨A', c', w', hr, ?_, (hal.mono hB).trans (Below.of_grown hg (by omega) (fun k e => (World.ownsRow.lt h0 k e).1))⟩
  refine h9.turn (o' := pxL (.slice A' (L.length + 1) c') (L ++ [l]) (vs ++ [.slice pa pn pc])) hg ?_ hn
  unfold pxL Own.lies
  rw [List.length_append, lpCs_app hv, List.flatten_append]
  simpa using ho
/-- A loop's cells. -/
theorem pxL_at {w : World} {B : Nat} {v : Value} {L : List Lp} {vs : List Value} {R : List Own} (h : Owns w B (pxL v L vs :: R)) (hv : vs.length = L.length) {j : Nat} {l : Lp} (hj : L[j]? = some l) :
    ∃ g c u, v = .slice (some ⟨g, 0, none⟩) L.length c ∧ vs[j]? = some u ∧ w.cell? ⟨g, j * 4, none⟩ = some (.int .i64 l.row) ∧ w.cell? ⟨g, j * 4 + 1, none⟩ = some (.int .i64 l.cell) ∧ w.cell? ⟨g, j * 4 + 2, none⟩ = some u ∧ w.cell? ⟨g, j * 4 + 3, none⟩ = some (.bool l.purl) := by
  have h0 : w.ownsRow B 111 4 v L.length (lpCs L vs).flatten := h.head
  have hl := (List.getElem?_eq_some_iff.1 hj).1
  have hu : vs[j]? = some (vs[j]'(by omega)) := List.getElem?_eq_getElem (by omega)
  rcases h0.2 with ⟨-, e⟩ | ⟨g, cap, cur, hvv, hg, hh, -⟩
  · omega
  · have hc : (lpCs L vs)[j]? = some (lpC l (vs[j]'(by omega))) := by
      unfold lpCs
      rw [List.getElem?_zipWith, hj, hu]
    subst hvv
    have hx : ∀ i x, (lpC l (vs[j]'(by omega)))[i]? = some x → w.cell? ⟨g, j * 4 + i, none⟩ = some x := fun i x hi => by
      have h4 := flat_at (lpCs_four L vs) hc hi
      have h5 := (List.getElem?_eq_some_iff.1 h4).1
      rw [flat_len (lpCs_four L vs), lpCs_len hv] at h5
      exact (h0.cellAt _ h5).trans h4
    exact ⟨g, cap, _, rfl, hu, hx 0 _ rfl, hx 1 _ rfl, hx 2 _ rfl, hx 3 _ rfl⟩
/-- A loop's parents. -/
theorem parO_at {L : List Lp} {vs : List Value} {j : Nat} {l : Lp} {u : Value} (hj : L[j]? = some l) (hu : vs[j]? = some u) : pxJ u l.par ∈ parO L vs := by
  refine List.mem_of_getElem? (i := j) ?_
  unfold parO
  rw [List.getElem?_zipWith, hj, hu]
/-- A row of numbers grows by several. -/
theorem pxJ_apps {w : World} {B c : Nat} {a : Option Addr} {l : List Int} {L : List Own} (h : Owns w B (pxJ (.slice a l.length c) l :: L)) (hB : B ≤ w.heap.size) (hl : l.length ≤ 100000) (A2 : Option Addr) (c2 : Nat) (l2 : List Int) (hl2 : l2.length ≤ 100000) (h2 : SlI w w.heap.size A2 l2) (hne : A2 = none → l2.length = 0) :
    ∃ A' c' w', (Builtin.append_ #[22, 22] 22 #[.slice a l.length c, .slice A2 l2.length c2]).run Try.prog w = .ok (.slice A' (l.length + l2.length) c') w' ∧ Owns w' B (pxJ (.slice A' (l.length + l2.length) c') (l ++ l2) :: L) ∧ Below B w w' ∧ w.grownBy w' (Value.slice a l.length c).ownBlock := by
  obtain ⟨ii, hii, hii0, hii1, hii2⟩ := info_parts info_int'
  have h0 : w.ownsRow B 3 1 (.slice a l.length c) l.length (l.map (Value.int .i64)) := h.head
  obtain ⟨A', c', w', hr, ho, hg, hn⟩ := run_app_any Try.underlying22 hii hii0 hii1 hii2 rfl (by decide) h0 A2 l2.length c2 (l2.map (Value.int .i64)) (by rw [List.length_map, Nat.mul_one]) hne (fun ad e j u hu => by
    rw [List.getElem?_map] at hu
    cases hz : l2[j]? with
    | none => rw [hz] at hu; cases hu
    | some z =>
      rw [hz] at hu
      simp only [Option.map_some, Option.some.injEq] at hu
      subst hu
      obtain ⟨b, off, eA, -, hc⟩ := h2 (fun e => by subst e; simp at hz)
      rw [e] at eA
      cases eA
      rw [addr_plus]
      exact hc j z hz) (fun u hu => by
    obtain ⟨z, -, rfl⟩ := List.mem_map.1 hu
    rfl) (by unfold maxLen; omega) (by omega) hB
  refine ⟨A', c', w', hr, ?_, Below.of_grown hg hB (fun k e => (World.ownsRow.lt h0 k e).1), hg⟩
  refine h.turn (o' := pxJ (.slice A' (l.length + l2.length) c') (l ++ l2)) hg ?_ hn
  unfold pxJ Own.lies
  rw [List.length_append, List.map_append]
  exact ho
/-! The reference's piece: a box of four slices, its rows, the parents of its loops. -/
abbrev pcO (pb : Nat) (vL vB vC vR : Value) : Own := bxT 102 pb [vL, vB, vC, vR]
structure PcA (B pb : Nat) (t : Pw) (vL vB vC vR : Value) (vs : List Value) (X : List Own) (W : World) : Prop where
  own : Owns W B (pcO pb vL vB vC vR :: pxL vL t.lp vs :: pxJ vB t.bound :: pxP vC t.cross :: pxJ vR t.rows :: (parO t.lp vs ++ X))
  vl : vs.length = t.lp.length
def PcE (B pb : Nat) (t : Pw) (X : List Own) (W : World) : Prop := ∃ vL vB vC vR vs, PcA B pb t vL vB vC vR vs X W
section
variable {B pb : Nat} {t : Pw} {vL vB vC vR : Value} {vs : List Value} {X : List Own} {W : World}
theorem PcA.to (h : PcA B pb t vL vB vC vR vs X W) {W' : World} (hb : Below W.heap.size W W') : PcA B pb t vL vB vC vR vs X W' := ⟨h.own.to hb, h.vl⟩
theorem PcE.to (h : PcE B pb t X W) {W' : World} (hb : Below W.heap.size W W') : PcE B pb t X W' := by
  obtain ⟨vL, vB, vC, vR, vs, h⟩ := h
  exact ⟨vL, vB, vC, vR, vs, h.to hb⟩
theorem PcA.lift (h : PcA B pb t vL vB vC vR vs X W) {X' : List Own} (hs : X'.Sublist X) : PcA B pb t vL vB vC vR vs X' W :=
  ⟨h.own.sub (List.Sublist.cons_cons _ (List.Sublist.cons_cons _ (List.Sublist.cons_cons _ (List.Sublist.cons_cons _ (List.Sublist.cons_cons _ ((List.append_sublist_append_left _).2 hs)))))), h.vl⟩
theorem PcE.lift (h : PcE B pb t X W) {X' : List Own} (hs : X'.Sublist X) : PcE B pb t X' W := by
  obtain ⟨vL, vB, vC, vR, vs, h⟩ := h
  exact ⟨vL, vB, vC, vR, vs, h.lift hs⟩
theorem PcA.forms (h : PcA B pb t vL vB vC vR vs X W) : (∃ a c, vL = .slice a t.lp.length c) ∧ (∃ a c, vB = .slice a t.bound.length c) ∧ (∃ a c, vC = .slice a t.cross.length c) ∧ ∃ a c, vR = .slice a t.rows.length c :=
  ⟨pxL_form h.own.tail, pxJ_form h.own.tail.tail, pxP_form h.own.tail.tail.tail, pxJ_form h.own.tail.tail.tail.tail⟩
theorem PcA.cells (h : PcA B pb t vL vB vC vR vs X W) : W.cell? ⟨pb, 0, none⟩ = some vL ∧ W.cell? ⟨pb, 1, none⟩ = some vB ∧ W.cell? ⟨pb, 2, none⟩ = some vC ∧ W.cell? ⟨pb, 3, none⟩ = some vR ∧ (∀ k, W.frozen? ⟨pb, k, none⟩ = false) ∧ B ≤ pb ∧ pb < W.heap.size := by
  obtain ⟨h1, h2, h3, h4⟩ := bxT_at h.own.head
  exact ⟨h1 0 _ rfl, h1 1 _ rfl, h1 2 _ rfl, h1 3 _ rfl, h2, h3, h4⟩
/-- A row beside the piece, brought to the front, turned and laid back. -/
theorem PcA.perm (h : PcA B pb t vL vB vC vR vs X W) {X' : List Own} (hp : X.Perm X') : PcA B pb t vL vB vC vR vs X' W :=
  ⟨h.own.perm (List.Perm.cons _ (List.Perm.cons _ (List.Perm.cons _ (List.Perm.cons _ (List.Perm.cons _ (hp.append_left _)))))), h.vl⟩
theorem PcE.perm (h : PcE B pb t X W) {X' : List Own} (hp : X.Perm X') : PcE B pb t X' W := by
  obtain ⟨vL, vB, vC, vR, vs, h⟩ := h
  exact ⟨vL, vB, vC, vR, vs, h.perm hp⟩
/-- The list of rows with one of X at the front. -/
theorem PcA.front {o : Own} (h : PcA B pb t vL vB vC vR vs (o :: X) W) : Owns W B (o :: pcO pb vL vB vC vR :: pxL vL t.lp vs :: pxJ vB t.bound :: pxP vC t.cross :: pxJ vR t.rows :: (parO t.lp vs ++ X)) := by
  refine h.own.perm ?_
  have h1 : (parO t.lp vs ++ o :: X).Perm (o :: (parO t.lp vs ++ X)) := List.perm_middle
  refine (List.Perm.cons _ (List.Perm.cons _ (List.Perm.cons _ (List.Perm.cons _ (List.Perm.cons _ h1))))).trans ?_
  refine (List.Perm.cons _ (List.Perm.cons _ (List.Perm.cons _ (List.Perm.cons _ (List.Perm.swap _ _ _))))).trans ?_
  refine (List.Perm.cons _ (List.Perm.cons _ (List.Perm.cons _ (List.Perm.swap _ _ _)))).trans ?_
  refine (List.Perm.cons _ (List.Perm.cons _ (List.Perm.swap _ _ _))).trans ?_
  exact (List.Perm.cons _ (List.Perm.swap _ _ _)).trans (List.Perm.swap _ _ _)
theorem PcA.back {o : Own} (h : Owns W B (o :: pcO pb vL vB vC vR :: pxL vL t.lp vs :: pxJ vB t.bound :: pxP vC t.cross :: pxJ vR t.rows :: (parO t.lp vs ++ X))) (hv : vs.length = t.lp.length) : PcA B pb t vL vB vC vR vs (o :: X) W := by
  refine ⟨h.perm ?_, hv⟩
  have h1 : (o :: (parO t.lp vs ++ X)).Perm (parO t.lp vs ++ o :: X) := List.perm_middle.symm
  refine ((List.Perm.swap _ _ _).trans (List.Perm.cons _ (List.Perm.swap _ _ _))).trans ?_
  refine (List.Perm.cons _ (List.Perm.cons _ (List.Perm.swap _ _ _))).trans ?_
  refine (List.Perm.cons _ (List.Perm.cons _ (List.Perm.cons _ (List.Perm.swap _ _ _)))).trans ?_
  refine (List.Perm.cons _ (List.Perm.cons _ (List.Perm.cons _ (List.Perm.cons _ (List.Perm.swap _ _ _))))).trans ?_
  exact List.Perm.cons _ (List.Perm.cons _ (List.Perm.cons _ (List.Perm.cons _ (List.Perm.cons _ h1))))
/-- A new row beside the piece. -/
theorem PcA.add {o : Own} {W' : World} (h : PcA B pb t vL vB vC vR vs X W) (hb : Below W.heap.size W W') (hB : B ≤ W.heap.size) (ho : o.lies W' W.heap.size) : PcA B pb t vL vB vC vR vs (o :: X) W' :=
  PcA.back (h.own.add hb hB ho) h.vl
theorem PcA.nil (h : PcA B pb t vL vB vC vR vs X W) : PcA B pb t vL vB vC vR vs (pxJ (.slice none 0 0) [] :: X) W := PcA.back (h.own.none 3 1) h.vl
/-- p.Loops = append(p.Loops, ..): the parents come out of the rows beside the piece. -/
theorem PcA.push {a : Option Addr} {c : Nat} {pa : Option Addr} {pc : Nat} {l : Lp} (h : PcA B pb t (.slice a t.lp.length c) vB vC vR vs (pxJ (.slice pa l.par.length pc) l.par :: X) W) (hB : B ≤ W.heap.size) (hl : t.lp.length ≤ 100000) :
    ∃ A' c' w', (Builtin.append_ #[100, 100] 100 #[.slice a t.lp.length c, .slice (some ⟨W.heap.size, 0, none⟩) 1 1]).run Try.prog (W.alloc (lpB l (.slice pa l.par.length pc))) = .ok (.slice A' (t.lp.length + 1) c') w' ∧
      (∀ k, w'.frozen? ⟨pb, k, none⟩ = false) ∧ w'.cell? ⟨pb, 0, none⟩ = some (.slice a t.lp.length c) ∧
      PcA B pb ⟨t.lp ++ [l], t.bound, t.cross, t.rows, t.next⟩ (.slice A' (t.lp.length + 1) c') vB vC vR (vs ++ [.slice pa l.par.length pc]) X (w'.setCell ⟨pb, 0, none⟩ (.slice A' (t.lp.length + 1) c')) ∧
      Below B W (w'.setCell ⟨pb, 0, none⟩ (.slice A' (t.lp.length + 1) c')) := by
  obtain ⟨A', c', w', hr, ho, hb⟩ := pxL_app h.own.swap h.vl hB hl l pa l.par.length pc
  have ho' := ho.swap
  obtain ⟨g1, g2, -⟩ := bxT_at ho'.head
  refine ⟨A', c', w', hr, g2, g1 0 _ rfl, ⟨?_, by rw [List.length_append, List.length_append, h.vl]; rfl⟩, hb.trans (bxT_below ho' (Nat.le_trans hB hb.size) 0 _)⟩
  have := bxT_set ho' 0 (.slice A' (t.lp.length + 1) c')
  simp only [parO_app h.vl, List.append_assoc]
  exact this
/-- p.Cross = append(p.Cross, pair). -/
theorem PcA.pushX {a : Option Addr} {c : Nat} (h : PcA B pb t vL vB (.slice a t.cross.length c) vR vs X W) (hB : B ≤ W.heap.size) (hl : t.cross.length ≤ 100000) (p : Int × Int) :
    ∃ A' c' w', (Builtin.append_ #[23, 23] 23 #[.slice a t.cross.length c, .slice (some ⟨W.heap.size, 0, none⟩) 1 1]).run Try.prog (W.alloc (prB p)) = .ok (.slice A' (t.cross.length + 1) c') w' ∧
      (∀ k, w'.frozen? ⟨pb, k, none⟩ = false) ∧ w'.cell? ⟨pb, 2, none⟩ = some (.slice a t.cross.length c) ∧
      PcA B pb ⟨t.lp, t.bound, t.cross ++ [p], t.rows, t.next⟩ vL vB (.slice A' (t.cross.length + 1) c') vR vs X (w'.setCell ⟨pb, 2, none⟩ (.slice A' (t.cross.length + 1) c')) ∧
      Below B W (w'.setCell ⟨pb, 2, none⟩ (.slice A' (t.cross.length + 1) c')) := by
  have hp : Owns W B (pxP (.slice a t.cross.length c) t.cross :: pcO pb vL vB (.slice a t.cross.length c) vR :: pxL vL t.lp vs :: pxJ vB t.bound :: pxJ vR t.rows :: (parO t.lp vs ++ X)) := by
    refine h.own.perm ?_
    refine (List.Perm.cons _ (List.Perm.cons _ (List.Perm.swap _ _ _))).trans ?_
    exact (List.Perm.cons _ (List.Perm.swap _ _ _)).trans (List.Perm.swap _ _ _)
  obtain ⟨A', c', w', hr, ho, hb⟩ := pxP_app hp hB hl p
  have ho' := ho.swap
  obtain ⟨g1, g2, -⟩ := bxT_at ho'.head
  refine ⟨A', c', w', hr, g2, g1 2 _ rfl, ⟨?_, h.vl⟩, hb.trans (bxT_below ho' (Nat.le_trans hB hb.size) 2 _)⟩
  refine (bxT_set ho' 2 (.slice A' (t.cross.length + 1) c')).perm (List.Perm.cons _ ?_)
  exact (List.Perm.swap _ _ _).trans (List.Perm.cons _ (List.Perm.swap _ _ _))
/-- p.Bound = append(p.Bound, ..). -/
theorem PcA.pushB {a : Option Addr} {c : Nat} (h : PcA B pb t vL (.slice a t.bound.length c) vC vR vs X W) (hB : B ≤ W.heap.size) (hl : t.bound.length ≤ 100000) (A2 : Option Addr) (c2 : Nat) (l2 : List Int) (hl2 : l2.length ≤ 100000) (h2 : SlI W W.heap.size A2 l2) (hne : A2 = none → l2.length = 0) :
    ∃ A' c' w', (Builtin.append_ #[22, 22] 22 #[.slice a t.bound.length c, .slice A2 l2.length c2]).run Try.prog W = .ok (.slice A' (t.bound.length + l2.length) c') w' ∧
      (∀ k, w'.frozen? ⟨pb, k, none⟩ = false) ∧ w'.cell? ⟨pb, 1, none⟩ = some (.slice a t.bound.length c) ∧
      PcA B pb ⟨t.lp, t.bound ++ l2, t.cross, t.rows, t.next⟩ vL (.slice A' (t.bound.length + l2.length) c') vC vR vs X (w'.setCell ⟨pb, 1, none⟩ (.slice A' (t.bound.length + l2.length) c')) ∧
      Below B W (w'.setCell ⟨pb, 1, none⟩ (.slice A' (t.bound.length + l2.length) c')) := by
  have hp : Owns W B (pxJ (.slice a t.bound.length c) t.bound :: pcO pb vL (.slice a t.bound.length c) vC vR :: pxL vL t.lp vs :: pxP vC t.cross :: pxJ vR t.rows :: (parO t.lp vs ++ X)) := by
    refine h.own.perm ?_
    exact (List.Perm.cons _ (List.Perm.swap _ _ _)).trans (List.Perm.swap _ _ _)
  obtain ⟨A', c', w', hr, ho, hb, -⟩ := pxJ_apps hp hB hl A2 c2 l2 hl2 h2 hne
  have ho' := ho.swap
  obtain ⟨g1, g2, -⟩ := bxT_at ho'.head
  refine ⟨A', c', w', hr, g2, g1 1 _ rfl, ⟨?_, h.vl⟩, hb.trans (bxT_below ho' (Nat.le_trans hB hb.size) 1 _)⟩
  exact (bxT_set ho' 1 (.slice A' (t.bound.length + l2.length) c')).perm (List.Perm.cons _ (List.Perm.swap _ _ _))
/-- A row beside the piece grows by one number. -/
theorem PcE.grow {a : Option Addr} {c : Nat} {l : List Int} (h : PcE B pb t (pxJ (.slice a l.length c) l :: X) W) (hB : B ≤ W.heap.size) (hl : l.length ≤ 100000) (x : Int) :
    ∃ A' c' w', (Builtin.append_ #[22, 22] 22 #[.slice a l.length c, .slice (some ⟨W.heap.size, 0, none⟩) 1 1]).run Try.prog (W.alloc (.cells #[.int .i64 x] 3)) = .ok (.slice A' (l.length + 1) c') w' ∧ PcE B pb t (pxJ (.slice A' (l.length + 1) c') (l ++ [x]) :: X) w' ∧ Below B W w' := by
  obtain ⟨vL, vB, vC, vR, vs, h⟩ := h
  obtain ⟨A', c', w', hr, ho, hb⟩ := pxJ_app h.front hB hl x
  exact ⟨A', c', w', hr, ⟨vL, vB, vC, vR, vs, PcA.back ho h.vl⟩, hb⟩
/-- p.Rows = append(p.Rows, x). -/
theorem PcA.pushR {a : Option Addr} {c : Nat} (h : PcA B pb t vL vB vC (.slice a t.rows.length c) vs X W) (hB : B ≤ W.heap.size) (hl : t.rows.length ≤ 100000) (x : Int) :
    ∃ A' c' w', (Builtin.append_ #[22, 22] 22 #[.slice a t.rows.length c, .slice (some ⟨W.heap.size, 0, none⟩) 1 1]).run Try.prog (W.alloc (.cells #[.int .i64 x] 3)) = .ok (.slice A' (t.rows.length + 1) c') w' ∧
      (∀ k, w'.frozen? ⟨pb, k, none⟩ = false) ∧ w'.cell? ⟨pb, 3, none⟩ = some (.slice a t.rows.length c) ∧
      PcA B pb ⟨t.lp, t.bound, t.cross, t.rows ++ [x], t.next⟩ vL vB vC (.slice A' (t.rows.length + 1) c') vs X (w'.setCell ⟨pb, 3, none⟩ (.slice A' (t.rows.length + 1) c')) ∧
      Below B W (w'.setCell ⟨pb, 3, none⟩ (.slice A' (t.rows.length + 1) c')) := by
  have hp : Owns W B (pxJ (.slice a t.rows.length c) t.rows :: pcO pb vL vB vC (.slice a t.rows.length c) :: pxL vL t.lp vs :: pxJ vB t.bound :: pxP vC t.cross :: (parO t.lp vs ++ X)) := by
    refine h.own.perm ?_
    refine (List.Perm.cons _ (List.Perm.cons _ (List.Perm.cons _ (List.Perm.swap _ _ _)))).trans ?_
    refine (List.Perm.cons _ (List.Perm.cons _ (List.Perm.swap _ _ _))).trans ?_
    exact (List.Perm.cons _ (List.Perm.swap _ _ _)).trans (List.Perm.swap _ _ _)
  obtain ⟨A', c', w', hr, ho, hb⟩ := pxJ_app hp hB hl x
  have ho' := ho.swap
  obtain ⟨g1, g2, -⟩ := bxT_at ho'.head
  refine ⟨A', c', w', hr, g2, g1 3 _ rfl, ⟨?_, h.vl⟩, hb.trans (bxT_below ho' (Nat.le_trans hB hb.size) 3 _)⟩
  refine (bxT_set ho' 3 (.slice A' (t.rows.length + 1) c')).perm (List.Perm.cons _ ?_)
  refine (List.Perm.swap _ _ _).trans (List.Perm.cons _ ?_)
  exact (List.Perm.swap _ _ _).trans (List.Perm.cons _ (List.Perm.swap _ _ _))
end
end Go.Proofs.Ytflpikickbellaa
namespace Go.Proofs.Ytflpikickbellaa
open Go.RowKit Go.Shelf Go.Sort
set_option maxRecDepth 100000

theorem PcE.mem {B pb : Nat} {t : Pw} {X : List Own} {W : World} (h : PcE B pb t X W) {o : Own} (ho : o ∈ X) : o.lies W B := by
  obtain ⟨vL, vB, vC, vR, vs, h⟩ := h
  exact h.own.all o (by simp only [List.mem_cons, List.mem_append]; right; right; right; right; right; right; exact ho)
theorem pxJ_at {w : World} {B : Nat} {v : Value} {l : List Int} (h : (pxJ v l).lies w B) {i n : Nat} {x : Int} (hi : l[i]? = some x) (hn : l.length = n) : ∃ g c, v = .slice (some ⟨g, 0, none⟩) n c ∧ w.cell? ⟨g, i, none⟩ = some (.int .i64 x) := by
  have h0 : w.ownsRow B 3 1 v l.length (l.map (Value.int .i64)) := h
  have h1 := (List.getElem?_eq_some_iff.1 hi).1
  subst hn
  rcases h0.2 with ⟨-, e⟩ | ⟨g, cap, cur, hv, -⟩
  · omega
  · subst hv
    refine ⟨g, cap, rfl, ?_⟩
    rw [h0.cellAt i (by omega), List.getElem?_map, hi]; rfl
theorem pxJ_cell {w : World} {B g n c : Nat} {l : List Int} (h : (pxJ (.slice (some ⟨g, 0, none⟩) n c) l).lies w B) {i : Nat} {x : Int} (hi : l[i]? = some x) (hn : l.length = n) : w.cell? ⟨g, i, none⟩ = some (.int .i64 x) := by
  obtain ⟨g', c', e, hc⟩ := pxJ_at h hi hn
  cases e
  exact hc
theorem pxJ_is {w : World} {B n : Nat} {v : Value} {l : List Int} (h : (pxJ v l).lies w B) (hn : l.length = n) : ∃ a c, v = .slice a n c := by
  subst hn
  obtain ⟨a, c, e, -⟩ := own_slice h
  exact ⟨a, c, e⟩
theorem pxJ_lies {w : World} {B n c : Nat} {a : Option Addr} {l : List Int} (h : (pxJ (.slice a n c) l).lies w B) : SlI w w.heap.size a l :=
  pxJ_sl (L := []) ⟨fun o ho => by rw [List.mem_singleton.1 ho]; exact h, List.pairwise_singleton _ _⟩
/-- A literal of numbers. -/
theorem lit_own (w : World) (l : List Int) (h0 : l.length ≤ 100000) : (pxJ (.slice (some ⟨w.heap.size, 0, none⟩) l.length l.length) l).lies (w.alloc (.cells (l.map (Value.int .i64)).toArray 3)) w.heap.size := by
  have e : (w.alloc (.cells (l.map (Value.int .i64)).toArray 3)).heap[w.heap.size]? = some (.cells (l.map (Value.int .i64)).toArray 3 (0, 0)) := Array.getElem?_push_size
  have := own_of_whole (B := w.heap.size) (n := l.length) (c := l.length) (sz := 1) e (Nat.le_refl _) (Nat.le_refl _) (by unfold maxLen; omega) (by simp)
  have e2 : (l.map (Value.int .i64)).toArray.toList.take (l.length * 1) = l.map (Value.int .i64) := by
    rw [List.take_of_length_le]
    simp
  rw [e2] at this
  exact this
set_option maxHeartbeats 1000000 in
theorem rput_any (B pb : Nat) (t : Pw) (row cell : Int) (pa : Option Addr) (pc n : Nat) (par : List Int) (hn : n = par.length) (purl : Bool) (X : List Own) (w : World) (h : PcE B pb t (pxJ (.slice pa par.length pc) par :: X) w) (hB : B ≤ w.heap.size) (hl : t.lp.length ≤ 100000) :
    Calls Try.prog 77 #[.pointer (some ⟨pb, 0, none⟩), .int .i64 row, .int .i64 cell, .slice pa n pc, .bool purl] w fun e w' =>
      e = .returned (.tuple #[]) ∧ PcE B pb ⟨t.lp ++ [⟨row, cell, par, purl⟩], t.bound, t.cross, t.rows, t.next⟩ X w' ∧ Below B w w' := by
  obtain ⟨vL, vB, vC, vR, vs, h⟩ := h
  obtain ⟨a, c, rfl⟩ := h.forms.1
  obtain ⟨c0, -⟩ := h.cells
  obtain ⟨A', c', w', hr, hf, c0', hP, hb⟩ := h.push (l := ⟨row, cell, par, purl⟩) hB hl
  simp only [← hn] at hr hP
  have HP := Lib.hid (And.intro hP hb)
  obtain ⟨m, hm⟩ : ∃ m, m = t.lp.length := ⟨_, rfl⟩
  rw [← hm] at hr c0 c0' HP hl
  clear h hP hb hn hm
  go_enter Try.func77, Try.ntmps77
  go_wp2_with (at_builtin; refine wpList_append_run _ rfl _ _ _ _ rfl _ _ (by rfl) (by rfl) hr ?_)
  refine bodyPost_end (results_none rfl _ _ _) rfl ?_
  exact ⟨rfl, ⟨_, _, _, _, _, HP.out.1⟩, HP.out.2⟩
end Go.Proofs.Ytflpikickbellaa
namespace Go.Proofs.Ytflpikickbellaa
open Go.RowKit Go.Shelf Go.Sort
set_option maxRecDepth 100000

def stB (sb : Nat) (s : Stc) : Own := bxT 66 sb s.cells
/-- What cell leaves. -/
def ClPost (B pb : Nat) (t : Pw) (X : List Own) (w : World) (e : Ending) (w' : World) : Prop := e = .returned (.tuple #[]) ∧ PcE B pb t X w' ∧ Below B w w'
theorem PcE.nxt {B pb : Nat} {t : Pw} {X : List Own} {W : World} (n : Nat) (h : PcE B pb t X W) : PcE B pb ⟨t.lp, t.bound, t.cross, t.rows, n⟩ X W := by
  obtain ⟨vL, vB, vC, vR, vs, h⟩ := h
  exact ⟨vL, vB, vC, vR, vs, h.own, h.vl⟩
theorem ClPost.mk' {B pb n : Nat} {t t' : Pw} {o : Own} {X : List Own} {w w' : World} (he : t = ⟨t'.lp, t'.bound, t'.cross, t'.rows, n⟩) (h : PcE B pb t' (o :: X) w') (hb : Below B w w') : ClPost B pb t X w (.returned (.tuple #[])) w' := by
  subst he
  exact ⟨rfl, (h.nxt n).lift (List.sublist_cons_self _ _), hb⟩
theorem stB_at {w : World} {B sb : Nat} {s : Stc} (h : (stB sb s).lies w B) : w.cell? ⟨sb, 0, none⟩ = some (.int .u8 s.kind) ∧ w.cell? ⟨sb, 1, none⟩ = some (.bool s.purl) ∧ w.cell? ⟨sb, 2, none⟩ = some (.int .i64 s.a) ∧ w.cell? ⟨sb, 3, none⟩ = some (.int .i64 s.b) := by
  obtain ⟨h1, -⟩ := bxT_at h
  exact ⟨h1 0 _ rfl, h1 1 _ rfl, h1 2 _ rfl, h1 3 _ rfl⟩
theorem PcE.cells {B pb : Nat} {t : Pw} {X : List Own} {W : World} (h : PcE B pb t X W) : ∃ a c, W.cell? ⟨pb, 0, none⟩ = some (.slice a t.lp.length c) := by
  obtain ⟨vL, vB, vC, vR, vs, h⟩ := h
  obtain ⟨a, c, rfl⟩ := h.forms.1
  exact ⟨a, c, h.cells.1⟩
/-- The loops of a cable, one by one. -/
def cabL (row k : Int) (purl : Bool) (next a b n : Nat) : List Lp := (List.range n).map fun q => ⟨row, k, [((next + (a + q) % (a + b) : Nat) : Int)], purl⟩
theorem cabL_next (row k : Int) (purl : Bool) (next a b n : Nat) : cabL row k purl next a b (n + 1) = cabL row k purl next a b n ++ [⟨row, k, [((next + (a + n) % (a + b) : Nat) : Int)], purl⟩] := by unfold cabL; rw [List.range_succ, List.map_append]; rfl
theorem cabL_len (row k : Int) (purl : Bool) (next a b n : Nat) : (cabL row k purl next a b n).length = n := by unfold cabL; rw [List.length_map, List.length_range]
theorem newsL_cab {row k : Int} {s : Stc} {next a b : Nat} {lp : List Lp} (hk : s.kind = 6 ∨ s.kind = 7) (ha : s.a = (a : Int)) (_hb : s.b = (b : Int)) : newsL row k s (usedN next (a + b)) lp = cabL row k s.purl next a b (a + b) := by
  unfold newsL cabL
  rw [if_neg (by omega), if_neg (by omega), if_pos hk, ha, Int.toNat_natCast]
  apply List.ext_getElem (by simp [usedN_len]; omega)
  intro q h1 h2
  simp only [List.getElem_map, List.getElem_range]
  rw [List.length_map, List.length_range] at h2
  have e : (List.drop a (usedN next (a + b)) ++ List.take a (usedN next (a + b)))[q]? = some ((next + (a + q) % (a + b) : Nat) : Int) := by
    by_cases hq : q < b
    · rw [List.getElem?_append_left (by rw [List.length_drop, usedN_len]; omega), List.getElem?_drop, usedN_at (by omega), Nat.mod_eq_of_lt (by omega)]
    · rw [List.getElem?_append_right (by rw [List.length_drop, usedN_len]; omega), List.length_drop, usedN_len, List.getElem?_take, if_pos (by omega), usedN_at (by omega)]
      congr 3
      rw [show a + q = (q - b) + (a + b) by omega, Nat.add_mod_right, Nat.mod_eq_of_lt (by omega)]
      omega
  obtain ⟨h3, h4⟩ := List.getElem?_eq_some_iff.1 e
  rw [h4]
/-- A load under another name. -/
def ldOw (t : TypeId) (x : Operand) : Op := Op.load t x
theorem PcE.nil {B pb : Nat} {t : Pw} {X : List Own} {W : World} (h : PcE B pb t X W) : PcE B pb t (pxJ (.slice none 0 0) [] :: X) W := by
  obtain ⟨vL, vB, vC, vR, vs, h⟩ := h
  exact ⟨vL, vB, vC, vR, vs, h.nil⟩
/-- A literal of one number beside the piece. -/
theorem PcE.lit {B pb : Nat} {t : Pw} {X : List Own} {W : World} (h : PcE B pb t X W) (hB : B ≤ W.heap.size) (x : Int) : PcE B pb t (pxJ (.slice (some ⟨W.heap.size, 0, none⟩) [x].length 1) [x] :: X) (W.alloc (.cells #[.int .i64 x] 3)) ∧ Below B W (W.alloc (.cells #[.int .i64 x] 3)) := by
  obtain ⟨vL, vB, vC, vR, vs, h⟩ := h
  have hal := al_t W (.cells #[.int .i64 x] 3)
  exact ⟨⟨vL, vB, vC, vR, vs, h.add hal hB (lit_own W [x] (by simp))⟩, hal.mono hB⟩
set_option maxHeartbeats 4000000 in
theorem rcell1 (B pb : Nat) (t : Pw) (row k : Int) (s : Stc) (hs : s.ok = true) (hk : s.kind = 1) (uv : Value) (X : List Own) (hat : t.next + (usesS s).toNat ≤ t.lp.length) (hl : t.lp.length ≤ 50000) (w : World) (h : PcE B pb t (pxJ uv (usedN t.next (usesS s).toNat) :: X) w) (hB : B ≤ w.heap.size) :
    Calls Try.prog 80 #[.pointer (some ⟨pb, 0, none⟩), .int .i64 row, .int .i64 k, s.val, uv] w fun e w' => ClPost B pb (stepC row k s t) (pxJ uv (usedN t.next (usesS s).toNat) :: X) w e w' := by
  have hK := stc_k hs
  obtain ⟨kind, purl, sa, sb⟩ := s
  obtain rfl : kind = 1 := hk
  have hal := al_t w (.cells #[.int .u8 1, .bool purl, .int .i64 sa, .int .i64 sb] 66)
  have HX : Hid (PcE B pb t (stB w.heap.size ⟨1, purl, sa, sb⟩ :: pxJ uv (usedN t.next (usesS ⟨1, purl, sa, sb⟩).toNat) :: X) (w.alloc (.cells #[.int .u8 1, .bool purl, .int .i64 sa, .int .i64 sb] 66)) ∧ Below B w (w.alloc (.cells #[.int .u8 1, .bool purl, .int .i64 sa, .int .i64 sb] 66))) := by
    obtain ⟨vL, vB, vC, vR, vs, h⟩ := h
    exact ⟨⟨vL, vB, vC, vR, vs, h.add hal hB (bxT_new w _ _)⟩, hal.mono hB⟩
  obtain ⟨a0, c0, g0⟩ := HX.out.1.cells
  obtain ⟨x0, -⟩ := stB_at (HX.out.1.mem List.mem_cons_self)
  obtain ⟨cb, hcb⟩ : ∃ cb, cb = w.heap.size := ⟨_, rfl⟩
  obtain ⟨n0, hn0⟩ : ∃ n0, n0 = t.lp.length := ⟨_, rfl⟩
  rw [← hn0] at g0
  clear h hal
  show Calls Try.prog 80 #[_, _, _, .agg #[.int .u8 1, .bool purl, .int .i64 sa, .int .i64 sb], _] w _
  go_enter Try.func80, Try.ntmps80
  go_upto_region 3 with fail
  refine abs_world (Q := fun W => Code.wp _ _ _ _ W) (F := fun W => PcE B pb t (stB w.heap.size ⟨1, purl, sa, sb⟩ :: pxJ uv (usedN t.next (usesS ⟨1, purl, sa, sb⟩).toNat) :: X) W ∧ Below B w W) _ HX.out ?_
  clear HX g0 x0
  rw [← hcb]
  rintro W1 ⟨h1, hb1⟩
  have hB1 : B ≤ W1.heap.size := Nat.le_trans hB hb1.size
  have HP1 := Lib.hid h1
  have HB1 := Lib.hid hb1
  clear hb1 hcb
  have hu : (usesS ⟨1, purl, sa, sb⟩).toNat = 1 := by rw [hK.uses]; rfl
  have HSt : Hid (stepC row k ⟨1, purl, sa, sb⟩ t = ⟨t.lp ++ [⟨row, k, [(t.next : Int)], purl⟩], t.bound, t.cross, t.rows, t.next + 1⟩) := by
    show _ = _
    unfold stepC newsL boundL crossL
    rw [hu]
    simp [usedN]
  rw [hu] at h1 HP1
  obtain ⟨ug, uc, rfl, u0⟩ := pxJ_at (h1.mem (List.mem_cons_of_mem _ List.mem_cons_self)) (usedN_at (a := t.next) (n := 1) (i := 0) (by omega)) (usedN_len _ _)
  obtain ⟨x0, x1, x2, x3⟩ := stB_at (h1.mem List.mem_cons_self)
  simp only [Nat.add_zero] at u0
  have hlit := h1.lit hB1 (t.next : Int)
  have hdr : Below (W1.alloc (.cells #[.int .i64 (t.next : Int)] 3)).heap.size (W1.alloc (.cells #[.int .i64 (t.next : Int)] 3)) (W1.alloc (.cells #[.int .i64 (t.next : Int)] 3)).drew := Below.drew (Below.refl _ _)
  have hBd : Below B W1 (W1.alloc (.cells #[.int .i64 (t.next : Int)] 3)).drew := hlit.2.trans (hdr.mono (Nat.le_trans hB1 hlit.2.size))
  have HC := Lib.hid (rput_any B pb t row k (some ⟨W1.heap.size, 0, none⟩) 1 1 [(t.next : Int)] rfl purl _ _ (hlit.1.to hdr) (Nat.le_trans hB1 hBd.size) (by omega))
  have HBd := Lib.hid hBd
  have lu := lt_of_cell u0
  have lx := lt_of_cell x1
  have hal1 := al_t W1 (.cells #[.int .i64 (t.next : Int)] 3)
  have HKp : Hid (∀ W', Below W1.heap.size W1 W' → W'.cell? ⟨ug, 0, none⟩ = some (.int .i64 (t.next : Int)) ∧ W'.cell? ⟨cb, 1, none⟩ = some (.bool purl)) := fun W' hb => ⟨(bcell hb lu _).trans u0, (bcell hb lx _).trans x1⟩
  have HKq : Hid (∀ t' W', PcE B pb t' (stB cb ⟨1, purl, sa, sb⟩ :: pxJ (.slice (some ⟨ug, 0, none⟩) 1 uc) (usedN t.next 1) :: X) W' → W'.cell? ⟨ug, 0, none⟩ = some (.int .i64 (t.next : Int)) ∧ W'.cell? ⟨cb, 1, none⟩ = some (.bool purl)) := fun t' W' h => ⟨pxJ_cell (h.mem (List.mem_cons_of_mem _ List.mem_cons_self)) (usedN_at (a := t.next) (n := 1) (i := 0) (by omega)) (usedN_len _ _), (stB_at (h.mem List.mem_cons_self)).2.1⟩
  have HK1 := Lib.hid (HKp.out _ (Below.drew (Below.refl _ _)))
  have HK2 := Lib.hid (HKp.out _ (Below.drew hal1))
  clear hlit hdr hBd h1 hal1 lu lx x0 x1 x2 x3 u0
  go_upto_region 4 with fail
  go_region_held3 (fun W' => W'.cell? ⟨ug, 0, none⟩ = some (.int .i64 (t.next : Int)) ∧ W'.cell? ⟨cb, 1, none⟩ = some (.bool purl))
    (first | (with_reducible exact HK1.out) | (with_reducible exact HK2.out) | exact HKq.out _ _ (by assumption) | fail)
    (first | (go_at_call 77; refine HC.out.mono ?_; rintro e w2 ⟨rfl, hp2, hb2⟩))
  have HQ := Lib.hid (And.intro hp2 (HB1.out.trans (HBd.out.trans hb2)))
  clear hp2 hb2
  simp only [Exit.inBlock]
  refine bodyPost_end (results_none rfl _ _ _) rfl ?_
  rw [hu]
  exact ClPost.mk' HSt.out HQ.out.1 HQ.out.2
set_option maxHeartbeats 4000000 in
theorem rcell2 (B pb : Nat) (t : Pw) (row k : Int) (s : Stc) (hs : s.ok = true) (hk : s.kind = 2) (uv : Value) (X : List Own) (hat : t.next + (usesS s).toNat ≤ t.lp.length) (hl : t.lp.length ≤ 50000) (w : World) (h : PcE B pb t (pxJ uv (usedN t.next (usesS s).toNat) :: X) w) (hB : B ≤ w.heap.size) :
    Calls Try.prog 80 #[.pointer (some ⟨pb, 0, none⟩), .int .i64 row, .int .i64 k, s.val, uv] w fun e w' => ClPost B pb (stepC row k s t) (pxJ uv (usedN t.next (usesS s).toNat) :: X) w e w' := by
  have hK := stc_k hs
  obtain ⟨kind, purl, sa, sb⟩ := s
  obtain rfl : kind = 2 := hk
  have hal := al_t w (.cells #[.int .u8 2, .bool purl, .int .i64 sa, .int .i64 sb] 66)
  have HX : Hid (PcE B pb t (stB w.heap.size ⟨2, purl, sa, sb⟩ :: pxJ uv (usedN t.next (usesS ⟨2, purl, sa, sb⟩).toNat) :: X) (w.alloc (.cells #[.int .u8 2, .bool purl, .int .i64 sa, .int .i64 sb] 66)) ∧ Below B w (w.alloc (.cells #[.int .u8 2, .bool purl, .int .i64 sa, .int .i64 sb] 66))) := by
    obtain ⟨vL, vB, vC, vR, vs, h⟩ := h
    exact ⟨⟨vL, vB, vC, vR, vs, h.add hal hB (bxT_new w _ _)⟩, hal.mono hB⟩
  obtain ⟨a0, c0, g0⟩ := HX.out.1.cells
  obtain ⟨x0, -⟩ := stB_at (HX.out.1.mem List.mem_cons_self)
  obtain ⟨cb, hcb⟩ : ∃ cb, cb = w.heap.size := ⟨_, rfl⟩
  obtain ⟨n0, hn0⟩ : ∃ n0, n0 = t.lp.length := ⟨_, rfl⟩
  rw [← hn0] at g0
  clear h hal
  show Calls Try.prog 80 #[_, _, _, .agg #[.int .u8 2, .bool purl, .int .i64 sa, .int .i64 sb], _] w _
  go_enter Try.func80, Try.ntmps80
  go_upto_region 3 with fail
  refine abs_world (Q := fun W => Code.wp _ _ _ _ W) (F := fun W => PcE B pb t (stB w.heap.size ⟨2, purl, sa, sb⟩ :: pxJ uv (usedN t.next (usesS ⟨2, purl, sa, sb⟩).toNat) :: X) W ∧ Below B w W) _ HX.out ?_
  clear HX g0 x0
  rw [← hcb]
  rintro W1 ⟨h1, hb1⟩
  have hB1 : B ≤ W1.heap.size := Nat.le_trans hB hb1.size
  have HP1 := Lib.hid h1
  have HB1 := Lib.hid hb1
  clear hb1 hcb
  have hu : (usesS ⟨2, purl, sa, sb⟩).toNat = 0 := by rw [hK.uses]; rfl
  obtain rfl : purl = false := hK.over (Or.inl rfl)
  have HSt : Hid (stepC row k ⟨2, false, sa, sb⟩ t = ⟨t.lp ++ [⟨row, k, [], false⟩], t.bound, t.cross, t.rows, t.next⟩) := by
    show _ = _
    unfold stepC newsL boundL crossL
    rw [hu]
    simp [usedN]
  have HC := Lib.hid (rput_any B pb t row k none 0 0 [] rfl false _ _ h1.nil hB1 (by omega))
  clear h1
  go_wp2_with ((go_at_call 77; refine HC.out.mono ?_; rintro e w2 ⟨rfl, hp2, hb2⟩))
  have HQ := Lib.hid (And.intro hp2 (HB1.out.trans hb2))
  clear hp2 hb2
  refine bodyPost_end (results_none rfl _ _ _) rfl ?_
  exact ClPost.mk' HSt.out HQ.out.1 HQ.out.2
set_option maxHeartbeats 4000000 in
theorem rcell3 (B pb : Nat) (t : Pw) (row k : Int) (s : Stc) (hs : s.ok = true) (hk : s.kind = 3) (uv : Value) (X : List Own) (hat : t.next + (usesS s).toNat ≤ t.lp.length) (hl : t.lp.length ≤ 50000) (w : World) (h : PcE B pb t (pxJ uv (usedN t.next (usesS s).toNat) :: X) w) (hB : B ≤ w.heap.size) :
    Calls Try.prog 80 #[.pointer (some ⟨pb, 0, none⟩), .int .i64 row, .int .i64 k, s.val, uv] w fun e w' => ClPost B pb (stepC row k s t) (pxJ uv (usedN t.next (usesS s).toNat) :: X) w e w' := by
  have hK := stc_k hs
  obtain ⟨kind, purl, sa, sb⟩ := s
  obtain rfl : kind = 3 := hk
  have hal := al_t w (.cells #[.int .u8 3, .bool purl, .int .i64 sa, .int .i64 sb] 66)
  have HX : Hid (PcE B pb t (stB w.heap.size ⟨3, purl, sa, sb⟩ :: pxJ uv (usedN t.next (usesS ⟨3, purl, sa, sb⟩).toNat) :: X) (w.alloc (.cells #[.int .u8 3, .bool purl, .int .i64 sa, .int .i64 sb] 66)) ∧ Below B w (w.alloc (.cells #[.int .u8 3, .bool purl, .int .i64 sa, .int .i64 sb] 66))) := by
    obtain ⟨vL, vB, vC, vR, vs, h⟩ := h
    exact ⟨⟨vL, vB, vC, vR, vs, h.add hal hB (bxT_new w _ _)⟩, hal.mono hB⟩
  obtain ⟨a0, c0, g0⟩ := HX.out.1.cells
  obtain ⟨x0, -⟩ := stB_at (HX.out.1.mem List.mem_cons_self)
  obtain ⟨cb, hcb⟩ : ∃ cb, cb = w.heap.size := ⟨_, rfl⟩
  obtain ⟨n0, hn0⟩ : ∃ n0, n0 = t.lp.length := ⟨_, rfl⟩
  rw [← hn0] at g0
  clear h hal
  show Calls Try.prog 80 #[_, _, _, .agg #[.int .u8 3, .bool purl, .int .i64 sa, .int .i64 sb], _] w _
  go_enter Try.func80, Try.ntmps80
  go_upto_region 3 with fail
  refine abs_world (Q := fun W => Code.wp _ _ _ _ W) (F := fun W => PcE B pb t (stB w.heap.size ⟨3, purl, sa, sb⟩ :: pxJ uv (usedN t.next (usesS ⟨3, purl, sa, sb⟩).toNat) :: X) W ∧ Below B w W) _ HX.out ?_
  clear HX g0 x0
  rw [← hcb]
  rintro W1 ⟨h1, hb1⟩
  have hB1 : B ≤ W1.heap.size := Nat.le_trans hB hb1.size
  have HP1 := Lib.hid h1
  have HB1 := Lib.hid hb1
  clear hb1 hcb
  obtain ⟨a1, a2, -⟩ := hK.few (by simp)
  obtain ⟨n, rfl⟩ : ∃ n : Nat, sa = (n : Int) := ⟨sa.toNat, by simp only at a1; omega⟩
  have hn1 : 1 ≤ n := by simp only at a1; omega
  have hn4 : n ≤ 4 := by simp only at a2; omega
  have hu : (usesS ⟨3, purl, (n : Int), sb⟩).toNat = n := by rw [hK.uses]; simp
  rw [hu] at h1 HP1 hat
  have HSt : Hid (stepC row k ⟨3, purl, (n : Int), sb⟩ t = ⟨t.lp ++ [⟨row, k, usedN t.next n, purl⟩], t.bound, t.cross, t.rows, t.next + n⟩) := by
    show _ = _
    unfold stepC newsL boundL crossL
    rw [hu]
    simp
  obtain ⟨ug, uc, rfl, -⟩ := pxJ_at (h1.mem (List.mem_cons_of_mem _ List.mem_cons_self)) (usedN_at (a := t.next) (n := n) (i := 0) (by omega)) (usedN_len _ _)
  have HX1 : Hid (PcE B pb t (pxJ (.slice none 0 0) ((usedN t.next n).take 0) :: stB cb ⟨3, purl, (n : Int), sb⟩ :: pxJ (.slice (some ⟨ug, 0, none⟩) n uc) (usedN t.next n) :: X) W1) := HP1.out.nil
  clear h1 HP1 a1 a2
  go_wp2
  go_loopw [12, 13] (fun s12 s13 wr => ∃ i : Nat, s13 = .int .i64 (i : Int) ∧ i ≤ n ∧ Hid (PcE B pb t (pxJ s12 ((usedN t.next n).take i) :: stB cb ⟨3, purl, (n : Int), sb⟩ :: pxJ (.slice (some ⟨ug, 0, none⟩) n uc) (usedN t.next n) :: X) wr) ∧ Hid (Below B w wr)) (fun _ s13 _ => n - (intOf s13).toNat)
  case atStart => exact ⟨0, rfl, Nat.zero_le _, HX1.out, HB1.out⟩
  case round =>
    obtain ⟨i, rfl, hi, HX2, HB2⟩ := hrel
    clear HX1 HB1
    obtain ⟨W2, hW2⟩ : ∃ x : World, x = wr := ⟨_, rfl⟩
    rw [← hW2] at HX2 HB2 ⊢
    clear hW2
    have hB2 : B ≤ W2.heap.size := Nat.le_trans hB HB2.out.size
    have hlt0 : ((usedN t.next n).take i).length = i := by rw [List.length_take]; simp [usedN_len]; omega
    obtain ⟨a2, c2, rfl⟩ := pxJ_is (HX2.out.mem List.mem_cons_self) hlt0
    obtain ⟨x0, x1, x2, x3⟩ := stB_at (HX2.out.mem (List.mem_cons_of_mem _ List.mem_cons_self))
    by_cases hlt : i < n
    case pos =>
      have d1 : decide ((i : Int) < (n : Int)) = true := decide_eq_true (by omega)
      have d1' : decide (i < n) = true := decide_eq_true hlt
      have HLi : Hid ((usedN t.next n)[i]? = some ((t.next + i : Nat) : Int)) := usedN_at hlt
      have u0 := pxJ_cell (HX2.out.mem (List.mem_cons_of_mem _ (List.mem_cons_of_mem _ List.mem_cons_self))) (usedN_at (a := t.next) hlt) (usedN_len _ _)
      obtain ⟨y, hy⟩ : ∃ y : Int, y = ((t.next + i : Nat) : Int) := ⟨_, rfl⟩
      rw [← hy] at u0 HLi
      obtain ⟨A', c', w', hr, hQ, hb⟩ := PcE.grow (a := a2) (c := c2) (l := (usedN t.next n).take i) (X := stB cb ⟨3, purl, (n : Int), sb⟩ :: pxJ (.slice (some ⟨ug, 0, none⟩) n uc) (usedN t.next n) :: X) (by rw [hlt0]; exact HX2.out) hB2 (by omega) y
      rw [hlt0] at hr hQ
      have e : (usedN t.next n).take i ++ [y] = (usedN t.next n).take (i + 1) := by
        obtain ⟨h5, h6⟩ := List.getElem?_eq_some_iff.1 HLi.out
        rw [List.take_succ_eq_append_getElem h5, h6]
      rw [e] at hQ
      have HQ := Lib.hid (And.intro hQ (HB2.out.trans hb))
      have hi1 : (0 : Int) ≤ (i : Int) := by omega
      have hi2 : (i : Int) < (n : Int) := by omega
      clear hQ hb e HX2 HLi hlt0 hy
      go_wp2_with (at_builtin; refine wpList_append_run _ rfl _ _ _ _ rfl _ _ (by rfl) (by rfl) hr ?_)
      go_roundw
      case rel => exact ⟨i + 1, by go_num, by omega, HQ.out.1, HQ.out.2⟩
      case measure => simp [intOf]; omega
    case neg =>
      have d1 : decide ((i : Int) < (n : Int)) = false := decide_eq_false (by omega)
      have d1' : decide (i < n) = false := decide_eq_false hlt
      obtain rfl : i = n := by omega
      have hli : (usedN t.next i).length = i := by simp [usedN_len]
      have hP2 := HX2.out
      rw [List.take_of_length_le (by omega)] at hP2
      have HC := Lib.hid (rput_any B pb t row k a2 c2 i (usedN t.next i) hli.symm purl _ _ (by rw [hli]; exact hP2) hB2 (by omega))
      clear hP2 HX2 hlt0
      go_wp2_with ((go_at_call 77; refine HC.out.mono ?_; rintro e w2 ⟨rfl, hp2, hb2⟩))
      have HQ := Lib.hid (And.intro hp2 (HB2.out.trans hb2))
      clear hp2 hb2 HC
      refine bodyPost_end (results_none rfl _ _ _) rfl ?_
      rw [hu]
      exact ClPost.mk' HSt.out HQ.out.1 HQ.out.2
set_option maxHeartbeats 4000000 in
theorem rcell4 (B pb : Nat) (t : Pw) (row k : Int) (s : Stc) (hs : s.ok = true) (hk : s.kind = 4) (uv : Value) (X : List Own) (hat : t.next + (usesS s).toNat ≤ t.lp.length) (hl : t.lp.length ≤ 50000) (w : World) (h : PcE B pb t (pxJ uv (usedN t.next (usesS s).toNat) :: X) w) (hB : B ≤ w.heap.size) :
    Calls Try.prog 80 #[.pointer (some ⟨pb, 0, none⟩), .int .i64 row, .int .i64 k, s.val, uv] w fun e w' => ClPost B pb (stepC row k s t) (pxJ uv (usedN t.next (usesS s).toNat) :: X) w e w' := by
  have hK := stc_k hs
  obtain ⟨kind, purl, sa, sb⟩ := s
  obtain rfl : kind = 4 := hk
  have hal := al_t w (.cells #[.int .u8 4, .bool purl, .int .i64 sa, .int .i64 sb] 66)
  have HX : Hid (PcE B pb t (stB w.heap.size ⟨4, purl, sa, sb⟩ :: pxJ uv (usedN t.next (usesS ⟨4, purl, sa, sb⟩).toNat) :: X) (w.alloc (.cells #[.int .u8 4, .bool purl, .int .i64 sa, .int .i64 sb] 66)) ∧ Below B w (w.alloc (.cells #[.int .u8 4, .bool purl, .int .i64 sa, .int .i64 sb] 66))) := by
    obtain ⟨vL, vB, vC, vR, vs, h⟩ := h
    exact ⟨⟨vL, vB, vC, vR, vs, h.add hal hB (bxT_new w _ _)⟩, hal.mono hB⟩
  obtain ⟨a0, c0, g0⟩ := HX.out.1.cells
  obtain ⟨x0, -⟩ := stB_at (HX.out.1.mem List.mem_cons_self)
  obtain ⟨cb, hcb⟩ : ∃ cb, cb = w.heap.size := ⟨_, rfl⟩
  obtain ⟨n0, hn0⟩ : ∃ n0, n0 = t.lp.length := ⟨_, rfl⟩
  rw [← hn0] at g0
  clear h hal
  show Calls Try.prog 80 #[_, _, _, .agg #[.int .u8 4, .bool purl, .int .i64 sa, .int .i64 sb], _] w _
  go_enter Try.func80, Try.ntmps80
  go_upto_region 3 with fail
  refine abs_world (Q := fun W => Code.wp _ _ _ _ W) (F := fun W => PcE B pb t (stB w.heap.size ⟨4, purl, sa, sb⟩ :: pxJ uv (usedN t.next (usesS ⟨4, purl, sa, sb⟩).toNat) :: X) W ∧ Below B w W) _ HX.out ?_
  clear HX g0 x0
  rw [← hcb]
  rintro W1 ⟨h1, hb1⟩
  have hB1 : B ≤ W1.heap.size := Nat.le_trans hB hb1.size
  have HP1 := Lib.hid h1
  have HB1 := Lib.hid hb1
  clear hb1 hcb
  obtain ⟨a1, a2, -⟩ := hK.few (by simp)
  obtain ⟨n, rfl⟩ : ∃ n : Nat, sa = (n : Int) := ⟨sa.toNat, by simp only at a1; omega⟩
  have hn1 : 1 ≤ n := by simp only at a1; omega
  have hn4 : n ≤ 4 := by simp only at a2; omega
  have hu : (usesS ⟨4, purl, (n : Int), sb⟩).toNat = n := by rw [hK.uses]; simp
  rw [hu] at h1 HP1 hat
  have HSt : Hid (stepC row k ⟨4, purl, (n : Int), sb⟩ t = ⟨t.lp ++ [⟨row, k, (usedN t.next n).reverse, purl⟩], t.bound, t.cross, t.rows, t.next + n⟩) := by
    show _ = _
    unfold stepC newsL boundL crossL
    rw [hu]
    simp
  obtain ⟨ug, uc, rfl, -⟩ := pxJ_at (h1.mem (List.mem_cons_of_mem _ List.mem_cons_self)) (usedN_at (a := t.next) (n := n) (i := 0) (by omega)) (usedN_len _ _)
  have HX1 : Hid (PcE B pb t (pxJ (.slice none 0 0) (((usedN t.next n).reverse).take 0) :: stB cb ⟨4, purl, (n : Int), sb⟩ :: pxJ (.slice (some ⟨ug, 0, none⟩) n uc) (usedN t.next n) :: X) W1) := HP1.out.nil
  clear h1 HP1 a1 a2
  go_wp2
  go_loopw [12, 13] (fun s12 s13 wr => ∃ i : Nat, s13 = .int .i64 (i : Int) ∧ i ≤ n ∧ Hid (PcE B pb t (pxJ s12 (((usedN t.next n).reverse).take i) :: stB cb ⟨4, purl, (n : Int), sb⟩ :: pxJ (.slice (some ⟨ug, 0, none⟩) n uc) (usedN t.next n) :: X) wr) ∧ Hid (Below B w wr)) (fun _ s13 _ => n - (intOf s13).toNat)
  case atStart => exact ⟨0, rfl, Nat.zero_le _, HX1.out, HB1.out⟩
  case round =>
    obtain ⟨i, rfl, hi, HX2, HB2⟩ := hrel
    clear HX1 HB1
    obtain ⟨W2, hW2⟩ : ∃ x : World, x = wr := ⟨_, rfl⟩
    rw [← hW2] at HX2 HB2 ⊢
    clear hW2
    have hB2 : B ≤ W2.heap.size := Nat.le_trans hB HB2.out.size
    have hlt0 : (((usedN t.next n).reverse).take i).length = i := by rw [List.length_take]; simp [usedN_len]; omega
    obtain ⟨a2, c2, rfl⟩ := pxJ_is (HX2.out.mem List.mem_cons_self) hlt0
    obtain ⟨x0, x1, x2, x3⟩ := stB_at (HX2.out.mem (List.mem_cons_of_mem _ List.mem_cons_self))
    by_cases hlt : i < n
    case pos =>
      have d1 : decide ((i : Int) < (n : Int)) = true := decide_eq_true (by omega)
      have d1' : decide (i < n) = true := decide_eq_true hlt
      obtain ⟨q, hq⟩ : ∃ q, q = n - 1 - i := ⟨_, rfl⟩
      have hqn : q < n := by omega
      have hqn' : (q : Int) < (n : Int) := by omega
      have hq0 : (0 : Int) ≤ (q : Int) := by omega
      have HLi : Hid (((usedN t.next n).reverse)[i]? = some ((t.next + q : Nat) : Int)) := by
        show _ = _
        rw [List.getElem?_reverse (by rw [usedN_len]; exact hlt), usedN_len, ← hq]
        exact usedN_at hqn
      have u0 := pxJ_cell (HX2.out.mem (List.mem_cons_of_mem _ (List.mem_cons_of_mem _ List.mem_cons_self))) (usedN_at (a := t.next) hqn) (usedN_len _ _)
      obtain ⟨y, hy⟩ : ∃ y : Int, y = ((t.next + q : Nat) : Int) := ⟨_, rfl⟩
      rw [← hy] at u0 HLi
      have hw1 : IntKind.i64.wrap (IntKind.i64.wrap ((n : Int) - 1) - (i : Int)) = (q : Int) := by
        rw [show IntKind.i64.wrap ((n : Int) - 1) = (n : Int) - 1 from IntWalk.i64_in _ (by omega), show (n : Int) - 1 - (i : Int) = (q : Int) by omega]; exact IntWalk.i64_in _ (by omega)
      have hw2 : IntKind.i64.wrap ((n : Int) - 1 - (i : Int)) = (q : Int) := by
        rw [show (n : Int) - 1 - (i : Int) = (q : Int) by omega]; exact IntWalk.i64_in _ (by omega)
      have hw3 : (n : Int) - 1 - (i : Int) = (q : Int) := by omega
      clear hq
      obtain ⟨A', c', w', hr, hQ, hb⟩ := PcE.grow (a := a2) (c := c2) (l := ((usedN t.next n).reverse).take i) (X := stB cb ⟨4, purl, (n : Int), sb⟩ :: pxJ (.slice (some ⟨ug, 0, none⟩) n uc) (usedN t.next n) :: X) (by rw [hlt0]; exact HX2.out) hB2 (by omega) y
      rw [hlt0] at hr hQ
      have e : ((usedN t.next n).reverse).take i ++ [y] = ((usedN t.next n).reverse).take (i + 1) := by
        obtain ⟨h5, h6⟩ := List.getElem?_eq_some_iff.1 HLi.out
        rw [List.take_succ_eq_append_getElem h5, h6]
      rw [e] at hQ
      have HQ := Lib.hid (And.intro hQ (HB2.out.trans hb))
      have hi1 : (0 : Int) ≤ (i : Int) := by omega
      have hi2 : (i : Int) < (n : Int) := by omega
      clear hQ hb e HX2 HLi hlt0 hy
      go_wp2_with (at_builtin; refine wpList_append_run _ rfl _ _ _ _ rfl _ _ (by rfl) (by rfl) hr ?_)
      go_roundw
      case rel => exact ⟨i + 1, by go_num, by omega, HQ.out.1, HQ.out.2⟩
      case measure => simp [intOf]; omega
    case neg =>
      have d1 : decide ((i : Int) < (n : Int)) = false := decide_eq_false (by omega)
      have d1' : decide (i < n) = false := decide_eq_false hlt
      obtain rfl : i = n := by omega
      have hli : ((usedN t.next i).reverse).length = i := by simp [usedN_len]
      have hP2 := HX2.out
      rw [List.take_of_length_le (by omega)] at hP2
      have HC := Lib.hid (rput_any B pb t row k a2 c2 i ((usedN t.next i).reverse) hli.symm purl _ _ (by rw [hli]; exact hP2) hB2 (by omega))
      clear hP2 HX2 hlt0
      go_wp2_with ((go_at_call 77; refine HC.out.mono ?_; rintro e w2 ⟨rfl, hp2, hb2⟩))
      have HQ := Lib.hid (And.intro hp2 (HB2.out.trans hb2))
      clear hp2 hb2 HC
      refine bodyPost_end (results_none rfl _ _ _) rfl ?_
      rw [hu]
      exact ClPost.mk' HSt.out HQ.out.1 HQ.out.2
set_option maxHeartbeats 4000000 in
theorem rcell5 (B pb : Nat) (t : Pw) (row k : Int) (s : Stc) (hs : s.ok = true) (hk : s.kind = 5) (uv : Value) (X : List Own) (hat : t.next + (usesS s).toNat ≤ t.lp.length) (hl : t.lp.length ≤ 50000) (w : World) (h : PcE B pb t (pxJ uv (usedN t.next (usesS s).toNat) :: X) w) (hB : B ≤ w.heap.size) :
    Calls Try.prog 80 #[.pointer (some ⟨pb, 0, none⟩), .int .i64 row, .int .i64 k, s.val, uv] w fun e w' => ClPost B pb (stepC row k s t) (pxJ uv (usedN t.next (usesS s).toNat) :: X) w e w' := by
  have hK := stc_k hs
  obtain ⟨kind, purl, sa, sb⟩ := s
  obtain rfl : kind = 5 := hk
  have hal := al_t w (.cells #[.int .u8 5, .bool purl, .int .i64 sa, .int .i64 sb] 66)
  have HX : Hid (PcE B pb t (stB w.heap.size ⟨5, purl, sa, sb⟩ :: pxJ uv (usedN t.next (usesS ⟨5, purl, sa, sb⟩).toNat) :: X) (w.alloc (.cells #[.int .u8 5, .bool purl, .int .i64 sa, .int .i64 sb] 66)) ∧ Below B w (w.alloc (.cells #[.int .u8 5, .bool purl, .int .i64 sa, .int .i64 sb] 66))) := by
    obtain ⟨vL, vB, vC, vR, vs, h⟩ := h
    exact ⟨⟨vL, vB, vC, vR, vs, h.add hal hB (bxT_new w _ _)⟩, hal.mono hB⟩
  obtain ⟨a0, c0, g0⟩ := HX.out.1.cells
  obtain ⟨x0, -⟩ := stB_at (HX.out.1.mem List.mem_cons_self)
  obtain ⟨cb, hcb⟩ : ∃ cb, cb = w.heap.size := ⟨_, rfl⟩
  obtain ⟨n0, hn0⟩ : ∃ n0, n0 = t.lp.length := ⟨_, rfl⟩
  rw [← hn0] at g0
  clear h hal
  show Calls Try.prog 80 #[_, _, _, .agg #[.int .u8 5, .bool purl, .int .i64 sa, .int .i64 sb], _] w _
  go_enter Try.func80, Try.ntmps80
  go_upto_region 3 with fail
  refine abs_world (Q := fun W => Code.wp _ _ _ _ W) (F := fun W => PcE B pb t (stB w.heap.size ⟨5, purl, sa, sb⟩ :: pxJ uv (usedN t.next (usesS ⟨5, purl, sa, sb⟩).toNat) :: X) W ∧ Below B w W) _ HX.out ?_
  clear HX g0 x0
  rw [← hcb]
  rintro W1 ⟨h1, hb1⟩
  have hB1 : B ≤ W1.heap.size := Nat.le_trans hB hb1.size
  have HP1 := Lib.hid h1
  have HB1 := Lib.hid hb1
  clear hb1 hcb
  obtain ⟨a1, a2, -⟩ := hK.few (by simp)
  obtain ⟨n, rfl⟩ : ∃ n : Nat, sa = (n : Int) := ⟨sa.toNat, by simp only at a1; omega⟩
  have hn4 : n ≤ 4 := by simp only at a2; omega
  have hu : (usesS ⟨5, purl, (n : Int), sb⟩).toNat = 1 := by rw [hK.uses]; rfl
  rw [hu] at h1 HP1 hat
  have HSt : Hid (stepC row k ⟨5, purl, (n : Int), sb⟩ t = ⟨t.lp ++ List.replicate n ⟨row, k, [(t.next : Int)], purl⟩, t.bound, t.cross, t.rows, t.next + 1⟩) := by
    show _ = _
    unfold stepC newsL boundL crossL
    rw [hu]
    simp [usedN]
  obtain ⟨ug, uc, rfl, -⟩ := pxJ_at (h1.mem (List.mem_cons_of_mem _ List.mem_cons_self)) (usedN_at (a := t.next) (n := 1) (i := 0) (by omega)) (usedN_len _ _)
  have HX1 : Hid (PcE B pb ⟨t.lp ++ List.replicate 0 ⟨row, k, [(t.next : Int)], purl⟩, t.bound, t.cross, t.rows, t.next⟩ (stB cb ⟨5, purl, (n : Int), sb⟩ :: pxJ (.slice (some ⟨ug, 0, none⟩) 1 uc) (usedN t.next 1) :: X) W1) := by
    show PcE _ _ _ _ _
    rw [List.replicate_zero, List.append_nil]
    exact h1
  clear h1 HP1
  go_wp2
  go_loopw [14] (fun s11 wr => ∃ i : Nat, s11 = .int .i64 (i : Int) ∧ i ≤ n ∧ Hid (PcE B pb ⟨t.lp ++ List.replicate i ⟨row, k, [(t.next : Int)], purl⟩, t.bound, t.cross, t.rows, t.next⟩ (stB cb ⟨5, purl, (n : Int), sb⟩ :: pxJ (.slice (some ⟨ug, 0, none⟩) 1 uc) (usedN t.next 1) :: X) wr) ∧ Hid (Below B w wr)) (fun s11 _ => n - (intOf s11).toNat)
  case atStart => exact ⟨0, rfl, Nat.zero_le _, HX1.out, HB1.out⟩
  case round =>
    obtain ⟨i, rfl, hi, HX2, HB2⟩ := hrel
    clear HX1 HB1
    obtain ⟨W2, hW2⟩ : ∃ x : World, x = wr := ⟨_, rfl⟩
    rw [← hW2] at HX2 HB2 ⊢
    clear hW2
    have hB2 : B ≤ W2.heap.size := Nat.le_trans hB HB2.out.size
    obtain ⟨x0, x1, x2, x3⟩ := stB_at (HX2.out.mem List.mem_cons_self)
    by_cases hlt : i < n
    case pos =>
      have d1 : decide ((i : Int) < (n : Int)) = true := decide_eq_true (by omega)
      have d1' : decide (i < n) = true := decide_eq_true hlt
      have u0 := pxJ_cell (HX2.out.mem (List.mem_cons_of_mem _ List.mem_cons_self)) (usedN_at (a := t.next) (n := 1) (i := 0) (by omega)) (usedN_len _ _)
      simp only [Nat.add_zero] at u0
      have hlit := HX2.out.lit hB2 (t.next : Int)
      have hdr : Below (W2.alloc (.cells #[.int .i64 (t.next : Int)] 3)).heap.size (W2.alloc (.cells #[.int .i64 (t.next : Int)] 3)) (W2.alloc (.cells #[.int .i64 (t.next : Int)] 3)).drew := Below.drew (Below.refl _ _)
      have hBd : Below B W2 (W2.alloc (.cells #[.int .i64 (t.next : Int)] 3)).drew := hlit.2.trans (hdr.mono (Nat.le_trans hB2 hlit.2.size))
      have hc := rput_any B pb _ row k (some ⟨W2.heap.size, 0, none⟩) 1 1 [(t.next : Int)] rfl purl _ _ (hlit.1.to hdr) (Nat.le_trans hB2 hBd.size) (by simp only [List.length_append, List.length_replicate]; omega)
      have e : (t.lp ++ List.replicate i (⟨row, k, [(t.next : Int)], purl⟩ : Lp)) ++ [⟨row, k, [(t.next : Int)], purl⟩] = t.lp ++ List.replicate (i + 1) ⟨row, k, [(t.next : Int)], purl⟩ := by rw [List.append_assoc, ← List.replicate_succ']
      simp only [e] at hc
      have HC := Lib.hid hc
      have HBd := Lib.hid hBd
      have lu := lt_of_cell u0
      have lx := lt_of_cell x1
      have hal1 := al_t W2 (.cells #[.int .i64 (t.next : Int)] 3)
      have HKp : Hid (∀ W', Below W2.heap.size W2 W' → W'.cell? ⟨ug, 0, none⟩ = some (.int .i64 (t.next : Int)) ∧ W'.cell? ⟨cb, 1, none⟩ = some (.bool purl)) := fun W' hb => ⟨(bcell hb lu _).trans u0, (bcell hb lx _).trans x1⟩
      have HKq : Hid (∀ t' W', PcE B pb t' (stB cb ⟨5, purl, (n : Int), sb⟩ :: pxJ (.slice (some ⟨ug, 0, none⟩) 1 uc) (usedN t.next 1) :: X) W' → W'.cell? ⟨ug, 0, none⟩ = some (.int .i64 (t.next : Int)) ∧ W'.cell? ⟨cb, 1, none⟩ = some (.bool purl)) := fun t' W' h => ⟨pxJ_cell (h.mem (List.mem_cons_of_mem _ List.mem_cons_self)) (usedN_at (a := t.next) (n := 1) (i := 0) (by omega)) (usedN_len _ _), (stB_at (h.mem List.mem_cons_self)).2.1⟩
      have HK1 := Lib.hid (HKp.out _ (Below.drew (Below.refl _ _)))
      have HK2 := Lib.hid (HKp.out _ (Below.drew hal1))
      clear hlit hdr hBd hc e HX2 hal1 lu lx u0
      go_upto_region 26 with fail
      go_region_held3 (fun W' => W'.cell? ⟨ug, 0, none⟩ = some (.int .i64 (t.next : Int)) ∧ W'.cell? ⟨cb, 1, none⟩ = some (.bool purl))
        (first | (with_reducible exact HK1.out) | (with_reducible exact HK2.out) | exact HKq.out _ _ (by assumption) | fail)
        (first | (go_at_call 77; refine HC.out.mono ?_; rintro e w2 ⟨rfl, hp2, hb2⟩))
      have HQ := Lib.hid (And.intro hp2 (HB2.out.trans (HBd.out.trans hb2)))
      clear hp2 hb2 HC HKp HKq HK1 HK2 x0 x1 x2 x3
      go_wp2
      go_roundw
      case rel => exact ⟨i + 1, by go_num, by omega, HQ.out.1, HQ.out.2⟩
      case measure => simp [intOf]; omega
    case neg =>
      have d1 : decide ((i : Int) < (n : Int)) = false := decide_eq_false (by omega)
      have d1' : decide (i < n) = false := decide_eq_false hlt
      obtain rfl : i = n := by omega
      go_wp2
      refine bodyPost_end (results_none rfl _ _ _) rfl ?_
      (try rw [hu])
      exact ClPost.mk' HSt.out HX2.out HB2.out
set_option maxHeartbeats 4000000 in
theorem rcell8 (B pb : Nat) (t : Pw) (row k : Int) (s : Stc) (hs : s.ok = true) (hk : s.kind = 8) (uv : Value) (X : List Own) (hat : t.next + (usesS s).toNat ≤ t.lp.length) (hl : t.lp.length ≤ 50000) (w : World) (h : PcE B pb t (pxJ uv (usedN t.next (usesS s).toNat) :: X) w) (hB : B ≤ w.heap.size) :
    Calls Try.prog 80 #[.pointer (some ⟨pb, 0, none⟩), .int .i64 row, .int .i64 k, s.val, uv] w fun e w' => ClPost B pb (stepC row k s t) (pxJ uv (usedN t.next (usesS s).toNat) :: X) w e w' := by
  have hK := stc_k hs
  obtain ⟨kind, purl, sa, sb⟩ := s
  obtain rfl : kind = 8 := hk
  have hal := al_t w (.cells #[.int .u8 8, .bool purl, .int .i64 sa, .int .i64 sb] 66)
  have HX : Hid (PcE B pb t (stB w.heap.size ⟨8, purl, sa, sb⟩ :: pxJ uv (usedN t.next (usesS ⟨8, purl, sa, sb⟩).toNat) :: X) (w.alloc (.cells #[.int .u8 8, .bool purl, .int .i64 sa, .int .i64 sb] 66)) ∧ Below B w (w.alloc (.cells #[.int .u8 8, .bool purl, .int .i64 sa, .int .i64 sb] 66))) := by
    obtain ⟨vL, vB, vC, vR, vs, h⟩ := h
    exact ⟨⟨vL, vB, vC, vR, vs, h.add hal hB (bxT_new w _ _)⟩, hal.mono hB⟩
  obtain ⟨a0, c0, g0⟩ := HX.out.1.cells
  obtain ⟨x0, -⟩ := stB_at (HX.out.1.mem List.mem_cons_self)
  obtain ⟨cb, hcb⟩ : ∃ cb, cb = w.heap.size := ⟨_, rfl⟩
  obtain ⟨n0, hn0⟩ : ∃ n0, n0 = t.lp.length := ⟨_, rfl⟩
  rw [← hn0] at g0
  clear h hal
  show Calls Try.prog 80 #[_, _, _, .agg #[.int .u8 8, .bool purl, .int .i64 sa, .int .i64 sb], _] w _
  go_enter Try.func80, Try.ntmps80
  go_upto_region 3 with fail
  refine abs_world (Q := fun W => Code.wp _ _ _ _ W) (F := fun W => PcE B pb t (stB w.heap.size ⟨8, purl, sa, sb⟩ :: pxJ uv (usedN t.next (usesS ⟨8, purl, sa, sb⟩).toNat) :: X) W ∧ Below B w W) _ HX.out ?_
  clear HX g0 x0
  rw [← hcb]
  rintro W1 ⟨h1, hb1⟩
  have hB1 : B ≤ W1.heap.size := Nat.le_trans hB hb1.size
  have HP1 := Lib.hid h1
  have HB1 := Lib.hid hb1
  clear hb1 hcb
  have hu : (usesS ⟨8, purl, sa, sb⟩).toNat = 1 := by rw [hK.uses]; rfl
  rw [hu] at h1 HP1 hat
  obtain ⟨l, hl8⟩ : ∃ l, t.lp[t.next]? = some l := ⟨_, List.getElem?_eq_getElem (show t.next < t.lp.length by omega)⟩
  have HSt : Hid (stepC row k ⟨8, purl, sa, sb⟩ t = ⟨t.lp ++ [⟨row, k, [(t.next : Int)], l.purl⟩], t.bound, t.cross, t.rows, t.next + 1⟩) := by
    show _ = _
    have e : t.lp[t.next]?.getD lp0 = l := by rw [hl8]; rfl
    unfold stepC newsL boundL crossL
    rw [hu]
    simp only [usedN]
    simp [e]
  obtain ⟨ug, uc, rfl, u0⟩ := pxJ_at (h1.mem (List.mem_cons_of_mem _ List.mem_cons_self)) (usedN_at (a := t.next) (n := 1) (i := 0) (by omega)) (usedN_len _ _)
  simp only [Nat.add_zero] at u0
  obtain ⟨lg, lc, q0, q1⟩ : ∃ g c, W1.cell? ⟨pb, 0, none⟩ = some (.slice (some ⟨g, 0, none⟩) t.lp.length c) ∧ W1.cell? ⟨g, t.next * 4 + 3, none⟩ = some (.bool l.purl) := by
    obtain ⟨vL, vB, vC, vR, vs, hP⟩ := h1
    obtain ⟨g, c, u, rfl, -, -, -, -, hq⟩ := pxL_at hP.own.tail hP.vl hl8
    exact ⟨g, c, hP.cells.1, hq⟩
  have hlit := h1.lit hB1 (t.next : Int)
  have hdr : Below (W1.alloc (.cells #[.int .i64 (t.next : Int)] 3)).heap.size (W1.alloc (.cells #[.int .i64 (t.next : Int)] 3)) (W1.alloc (.cells #[.int .i64 (t.next : Int)] 3)).drew := Below.drew (Below.refl _ _)
  have hBd : Below B W1 (W1.alloc (.cells #[.int .i64 (t.next : Int)] 3)).drew := hlit.2.trans (hdr.mono (Nat.le_trans hB1 hlit.2.size))
  have HC := Lib.hid (rput_any B pb t row k (some ⟨W1.heap.size, 0, none⟩) 1 1 [(t.next : Int)] rfl l.purl _ _ (hlit.1.to hdr) (Nat.le_trans hB1 hBd.size) (by omega))
  have HBd := Lib.hid hBd
  have lu := lt_of_cell u0
  have hal1 := al_t W1 (.cells #[.int .i64 (t.next : Int)] 3)
  have q0a := cell_al q0 (.cells #[.int .i64 (t.next : Int)] 3)
  have q1a := cell_al q1 (.cells #[.int .i64 (t.next : Int)] 3)
  have HKp : Hid (∀ W', Below W1.heap.size W1 W' → W'.cell? ⟨ug, 0, none⟩ = some (.int .i64 (t.next : Int))) := fun W' hb => (bcell hb lu _).trans u0
  have HKq : Hid (∀ t' W', PcE B pb t' (stB cb ⟨8, purl, sa, sb⟩ :: pxJ (.slice (some ⟨ug, 0, none⟩) 1 uc) (usedN t.next 1) :: X) W' → W'.cell? ⟨ug, 0, none⟩ = some (.int .i64 (t.next : Int))) := fun t' W' h => pxJ_cell (h.mem (List.mem_cons_of_mem _ List.mem_cons_self)) (usedN_at (a := t.next) (n := 1) (i := 0) (by omega)) (usedN_len _ _)
  have HK1 := Lib.hid (HKp.out _ (Below.drew (Below.refl _ _)))
  have HK2 := Lib.hid (HKp.out _ (Below.drew hal1))
  have hnl : (t.next : Int) < (t.lp.length : Int) := by omega
  have hnl' : t.next < t.lp.length := by omega
  have hn0' : (0 : Int) ≤ (t.next : Int) := by omega
  obtain ⟨N, hN⟩ : ∃ N, N = t.lp.length := ⟨_, rfl⟩
  obtain ⟨pl, hpl⟩ : ∃ pl, pl = l.purl := ⟨_, rfl⟩
  rw [← hN] at q0 q0a hnl hnl'
  rw [← hpl] at q1 q1a HC HSt
  clear hlit hdr hBd h1 hal1 lu hN hpl hl8
  go_upto_region 44 with fail
  have hld : ∀ (t : TypeId) (x : Operand), ldOw t x = Op.load t x := fun _ _ => rfl
  rw [show Op.load 100 (Operand.tmp 193) = ldOw 100 (Operand.tmp 193) from rfl, show Op.load 4 (Operand.tmp 199) = ldOw 4 (Operand.tmp 199) from rfl]
  go_region_held3 (fun W' => W'.cell? ⟨ug, 0, none⟩ = some (.int .i64 (t.next : Int)))
    (first | (with_reducible exact HK1.out) | (with_reducible exact HK2.out) | exact HKq.out _ _ (by assumption) | fail)
    (first | (go_at_call 77; refine HC.out.mono ?_; rintro e w2 ⟨rfl, hp2, hb2⟩) | fail)
  all_goals
    have HQ := Lib.hid (And.intro hp2 (HB1.out.trans (HBd.out.trans hb2)))
    clear hp2 hb2
    simp only [Exit.inBlock]
    refine bodyPost_end (results_none rfl _ _ _) rfl ?_
    rw [hu]
    exact ClPost.mk' HSt.out HQ.out.1 HQ.out.2
set_option maxHeartbeats 4000000 in
theorem rcell9 (B pb : Nat) (t : Pw) (row k : Int) (s : Stc) (hs : s.ok = true) (hk : s.kind = 9) (uv : Value) (X : List Own) (hat : t.next + (usesS s).toNat ≤ t.lp.length) (hl : t.lp.length ≤ 50000) (w : World) (h : PcE B pb t (pxJ uv (usedN t.next (usesS s).toNat) :: X) w) (hB : B ≤ w.heap.size) :
    Calls Try.prog 80 #[.pointer (some ⟨pb, 0, none⟩), .int .i64 row, .int .i64 k, s.val, uv] w fun e w' => ClPost B pb (stepC row k s t) (pxJ uv (usedN t.next (usesS s).toNat) :: X) w e w' := by
  have hK := stc_k hs
  obtain ⟨kind, purl, sa, sb⟩ := s
  obtain rfl : kind = 9 := hk
  have hal := al_t w (.cells #[.int .u8 9, .bool purl, .int .i64 sa, .int .i64 sb] 66)
  have HX : Hid (PcE B pb t (stB w.heap.size ⟨9, purl, sa, sb⟩ :: pxJ uv (usedN t.next (usesS ⟨9, purl, sa, sb⟩).toNat) :: X) (w.alloc (.cells #[.int .u8 9, .bool purl, .int .i64 sa, .int .i64 sb] 66)) ∧ Below B w (w.alloc (.cells #[.int .u8 9, .bool purl, .int .i64 sa, .int .i64 sb] 66))) := by
    obtain ⟨vL, vB, vC, vR, vs, h⟩ := h
    exact ⟨⟨vL, vB, vC, vR, vs, h.add hal hB (bxT_new w _ _)⟩, hal.mono hB⟩
  obtain ⟨a0, c0, g0⟩ := HX.out.1.cells
  obtain ⟨x0, -⟩ := stB_at (HX.out.1.mem List.mem_cons_self)
  obtain ⟨cb, hcb⟩ : ∃ cb, cb = w.heap.size := ⟨_, rfl⟩
  obtain ⟨n0, hn0⟩ : ∃ n0, n0 = t.lp.length := ⟨_, rfl⟩
  rw [← hn0] at g0
  clear h hal
  show Calls Try.prog 80 #[_, _, _, .agg #[.int .u8 9, .bool purl, .int .i64 sa, .int .i64 sb], _] w _
  go_enter Try.func80, Try.ntmps80
  go_upto_region 3 with fail
  refine abs_world (Q := fun W => Code.wp _ _ _ _ W) (F := fun W => PcE B pb t (stB w.heap.size ⟨9, purl, sa, sb⟩ :: pxJ uv (usedN t.next (usesS ⟨9, purl, sa, sb⟩).toNat) :: X) W ∧ Below B w W) _ HX.out ?_
  clear HX g0 x0
  rw [← hcb]
  rintro W1 ⟨h1, hb1⟩
  have hB1 : B ≤ W1.heap.size := Nat.le_trans hB hb1.size
  have HP1 := Lib.hid h1
  have HB1 := Lib.hid hb1
  clear hb1 hcb
  have hu : (usesS ⟨9, purl, sa, sb⟩).toNat = 0 := by rw [hK.uses]; rfl
  obtain rfl : purl = false := hK.over (Or.inr rfl)
  obtain ⟨a1, a2, -⟩ := hK.many (Or.inl rfl)
  obtain ⟨n, rfl⟩ : ∃ n : Nat, sa = (n : Int) := ⟨sa.toNat, by simp only at a1; omega⟩
  have hn200 : n ≤ 200 := by simp only at a2; omega
  have HSt : Hid (stepC row k ⟨9, false, (n : Int), sb⟩ t = ⟨t.lp ++ List.replicate n ⟨row, k, [], false⟩, t.bound, t.cross, t.rows, t.next⟩) := by
    show _ = _
    unfold stepC newsL boundL crossL
    rw [hu]
    simp
  have HX1 : Hid (PcE B pb ⟨t.lp ++ List.replicate 0 ⟨row, k, [], false⟩, t.bound, t.cross, t.rows, t.next⟩ (stB cb ⟨9, false, (n : Int), sb⟩ :: pxJ uv (usedN t.next (usesS ⟨9, false, (n : Int), sb⟩).toNat) :: X) W1) := by
    show PcE _ _ _ _ _
    rw [List.replicate_zero, List.append_nil]
    exact h1
  clear h1 HP1
  go_wp2
  go_loopw [11] (fun s11 wr => ∃ i : Nat, s11 = .int .i64 (i : Int) ∧ i ≤ n ∧ Hid (PcE B pb ⟨t.lp ++ List.replicate i ⟨row, k, [], false⟩, t.bound, t.cross, t.rows, t.next⟩ (stB cb ⟨9, false, (n : Int), sb⟩ :: pxJ uv (usedN t.next (usesS ⟨9, false, (n : Int), sb⟩).toNat) :: X) wr) ∧ Hid (Below B w wr)) (fun s11 _ => n - (intOf s11).toNat)
  case atStart => exact ⟨0, rfl, Nat.zero_le _, HX1.out, HB1.out⟩
  case round =>
    obtain ⟨i, rfl, hi, HX2, HB2⟩ := hrel
    clear HX1 HB1
    obtain ⟨W2, hW2⟩ : ∃ x : World, x = wr := ⟨_, rfl⟩
    rw [← hW2] at HX2 HB2 ⊢
    clear hW2
    have hB2 : B ≤ W2.heap.size := Nat.le_trans hB HB2.out.size
    obtain ⟨x0, x1, x2, x3⟩ := stB_at (HX2.out.mem List.mem_cons_self)
    by_cases hlt : i < n
    case pos =>
      have d1 : decide ((i : Int) < (n : Int)) = true := decide_eq_true (by omega)
      have d1' : decide (i < n) = true := decide_eq_true hlt
      have hc := rput_any B pb _ row k none 0 0 [] rfl false _ _ HX2.out.nil hB2 (by simp only [List.length_append, List.length_replicate]; omega)
      have e : (t.lp ++ List.replicate i (⟨row, k, [], false⟩ : Lp)) ++ [⟨row, k, [], false⟩] = t.lp ++ List.replicate (i + 1) ⟨row, k, [], false⟩ := by rw [List.append_assoc, ← List.replicate_succ']
      simp only [e] at hc
      have HC := Lib.hid hc
      clear hc e HX2
      go_wp2_with ((go_at_call 77; refine HC.out.mono ?_; rintro e w2 ⟨rfl, hp2, hb2⟩))
      have HQ := Lib.hid (And.intro hp2 (HB2.out.trans hb2))
      clear hp2 hb2 HC
      go_roundw
      case rel => exact ⟨i + 1, by go_num, by omega, HQ.out.1, HQ.out.2⟩
      case measure => simp [intOf]; omega
    case neg =>
      have d1 : decide ((i : Int) < (n : Int)) = false := decide_eq_false (by omega)
      have d1' : decide (i < n) = false := decide_eq_false hlt
      obtain rfl : i = n := by omega
      go_wp2
      refine bodyPost_end (results_none rfl _ _ _) rfl ?_
      exact ClPost.mk' HSt.out HX2.out HB2.out
set_option maxHeartbeats 4000000 in
theorem rcell10 (B pb : Nat) (t : Pw) (row k : Int) (s : Stc) (hs : s.ok = true) (hk : s.kind = 10) (uv : Value) (X : List Own) (hat : t.next + (usesS s).toNat ≤ t.lp.length) (hbl : t.bound.length ≤ 50000) (w : World) (h : PcE B pb t (pxJ uv (usedN t.next (usesS s).toNat) :: X) w) (hB : B ≤ w.heap.size) :
    Calls Try.prog 80 #[.pointer (some ⟨pb, 0, none⟩), .int .i64 row, .int .i64 k, s.val, uv] w fun e w' => ClPost B pb (stepC row k s t) (pxJ uv (usedN t.next (usesS s).toNat) :: X) w e w' := by
  have hK := stc_k hs
  obtain ⟨kind, purl, sa, sb⟩ := s
  obtain rfl : kind = 10 := hk
  have hal := al_t w (.cells #[.int .u8 10, .bool purl, .int .i64 sa, .int .i64 sb] 66)
  have HX : Hid (PcE B pb t (stB w.heap.size ⟨10, purl, sa, sb⟩ :: pxJ uv (usedN t.next (usesS ⟨10, purl, sa, sb⟩).toNat) :: X) (w.alloc (.cells #[.int .u8 10, .bool purl, .int .i64 sa, .int .i64 sb] 66)) ∧ Below B w (w.alloc (.cells #[.int .u8 10, .bool purl, .int .i64 sa, .int .i64 sb] 66))) := by
    obtain ⟨vL, vB, vC, vR, vs, h⟩ := h
    exact ⟨⟨vL, vB, vC, vR, vs, h.add hal hB (bxT_new w _ _)⟩, hal.mono hB⟩
  obtain ⟨a0, c0, g0⟩ := HX.out.1.cells
  obtain ⟨x0, -⟩ := stB_at (HX.out.1.mem List.mem_cons_self)
  obtain ⟨cb, hcb⟩ : ∃ cb, cb = w.heap.size := ⟨_, rfl⟩
  obtain ⟨n0, hn0⟩ : ∃ n0, n0 = t.lp.length := ⟨_, rfl⟩
  rw [← hn0] at g0
  clear h hal
  show Calls Try.prog 80 #[_, _, _, .agg #[.int .u8 10, .bool purl, .int .i64 sa, .int .i64 sb], _] w _
  go_enter Try.func80, Try.ntmps80
  go_upto_region 3 with fail
  refine abs_world (Q := fun W => Code.wp _ _ _ _ W) (F := fun W => PcE B pb t (stB w.heap.size ⟨10, purl, sa, sb⟩ :: pxJ uv (usedN t.next (usesS ⟨10, purl, sa, sb⟩).toNat) :: X) W ∧ Below B w W) _ HX.out ?_
  clear HX g0 x0
  rw [← hcb]
  rintro W1 ⟨h1, hb1⟩
  have hB1 : B ≤ W1.heap.size := Nat.le_trans hB hb1.size
  have HP1 := Lib.hid h1
  have HB1 := Lib.hid hb1
  clear hb1 hcb
  obtain ⟨a1, a2, -⟩ := hK.many (Or.inr rfl)
  obtain ⟨n, rfl⟩ : ∃ n : Nat, sa = (n : Int) := ⟨sa.toNat, by simp only at a1; omega⟩
  have hn1 : 1 ≤ n := by simp only at a1; omega
  have hn200 : n ≤ 200 := by simp only at a2; omega
  have hu : (usesS ⟨10, purl, (n : Int), sb⟩).toNat = n := by rw [hK.uses]; simp
  rw [hu] at h1 HP1 hat
  have HSt : Hid (stepC row k ⟨10, purl, (n : Int), sb⟩ t = ⟨t.lp, t.bound ++ usedN t.next n, t.cross, t.rows, t.next + n⟩) := by
    show _ = _
    unfold stepC newsL boundL crossL
    rw [hu]
    simp
  obtain ⟨ug, uc, rfl, -⟩ := pxJ_at (h1.mem (List.mem_cons_of_mem _ List.mem_cons_self)) (usedN_at (a := t.next) (n := n) (i := 0) (by omega)) (usedN_len _ _)
  have hused := pxJ_lies (h1.mem (List.mem_cons_of_mem _ List.mem_cons_self))
  obtain ⟨vL, vB, vC, vR, vs, hP⟩ := h1
  obtain ⟨a5, c5, rfl⟩ := hP.forms.2.1
  obtain ⟨-, c1, -⟩ := hP.cells
  obtain ⟨A', c', w', hr, hf, c1', hQ, hb⟩ := hP.pushB hB1 (by omega) (some ⟨ug, 0, none⟩) uc (usedN t.next n) (by rw [usedN_len]; omega) hused (fun e => by cases e)
  rw [usedN_len] at hr hQ hb
  have HQ := Lib.hid (And.intro hQ (HB1.out.trans hb))
  obtain ⟨m, hm⟩ : ∃ m, m = t.bound.length := ⟨_, rfl⟩
  rw [← hm] at hr HQ c1 c1'
  clear hQ hb hused hP HP1 hm
  go_wp2_with (at_builtin; refine wpList_append_run _ rfl _ _ _ _ rfl _ _ (by rfl) (by rfl) hr ?_)
  refine bodyPost_end (results_none rfl _ _ _) rfl ?_
  (try rw [hu])
  exact ClPost.mk' HSt.out ⟨_, _, _, _, _, HQ.out.1⟩ HQ.out.2
end Go.Proofs.Ytflpikickbellaa
namespace Go.Proofs.Ytflpikickbellaa
open Go.RowKit Go.Shelf Go.Sort
set_option maxRecDepth 100000

set_option maxHeartbeats 4000000 in
theorem rcell6 (B pb : Nat) (t : Pw) (row k : Int) (s : Stc) (hs : s.ok = true) (hk : s.kind = 6) (uv : Value) (X : List Own) (hat : t.next + (usesS s).toNat ≤ t.lp.length) (hl : t.lp.length ≤ 50000) (hcl : t.cross.length ≤ 50000) (w : World) (h : PcE B pb t (pxJ uv (usedN t.next (usesS s).toNat) :: X) w) (hB : B ≤ w.heap.size) :
    Calls Try.prog 80 #[.pointer (some ⟨pb, 0, none⟩), .int .i64 row, .int .i64 k, s.val, uv] w fun e w' => ClPost B pb (stepC row k s t) (pxJ uv (usedN t.next (usesS s).toNat) :: X) w e w' := by
  have hK := stc_k hs
  obtain ⟨kind, purl, sa, sb⟩ := s
  obtain rfl : kind = 6 := hk
  have hal := al_t w (.cells #[.int .u8 6, .bool purl, .int .i64 sa, .int .i64 sb] 66)
  have HX : Hid (PcE B pb t (stB w.heap.size ⟨6, purl, sa, sb⟩ :: pxJ uv (usedN t.next (usesS ⟨6, purl, sa, sb⟩).toNat) :: X) (w.alloc (.cells #[.int .u8 6, .bool purl, .int .i64 sa, .int .i64 sb] 66)) ∧ Below B w (w.alloc (.cells #[.int .u8 6, .bool purl, .int .i64 sa, .int .i64 sb] 66))) := by
    obtain ⟨vL, vB, vC, vR, vs, h⟩ := h
    exact ⟨⟨vL, vB, vC, vR, vs, h.add hal hB (bxT_new w _ _)⟩, hal.mono hB⟩
  obtain ⟨a0, c0, g0⟩ := HX.out.1.cells
  obtain ⟨x0, -⟩ := stB_at (HX.out.1.mem List.mem_cons_self)
  obtain ⟨cb, hcb⟩ : ∃ cb, cb = w.heap.size := ⟨_, rfl⟩
  obtain ⟨n0, hn0⟩ : ∃ n0, n0 = t.lp.length := ⟨_, rfl⟩
  rw [← hn0] at g0
  clear h hal
  show Calls Try.prog 80 #[_, _, _, .agg #[.int .u8 6, .bool purl, .int .i64 sa, .int .i64 sb], _] w _
  go_enter Try.func80, Try.ntmps80
  go_upto_region 3 with fail
  refine abs_world (Q := fun W => Code.wp _ _ _ _ W) (F := fun W => PcE B pb t (stB w.heap.size ⟨6, purl, sa, sb⟩ :: pxJ uv (usedN t.next (usesS ⟨6, purl, sa, sb⟩).toNat) :: X) W ∧ Below B w W) _ HX.out ?_
  clear HX g0 x0
  rw [← hcb]
  rintro W1 ⟨h1, hb1⟩
  have hB1 : B ≤ W1.heap.size := Nat.le_trans hB hb1.size
  have HP1 := Lib.hid h1
  have HB1 := Lib.hid hb1
  clear hb1 hcb
  obtain ⟨a1, a2, b1, b2⟩ := hK.cable (by simp)
  simp only at a1 a2 b1 b2
  obtain ⟨a, rfl⟩ : ∃ n : Nat, sa = (n : Int) := ⟨sa.toNat, by omega⟩
  obtain ⟨b, rfl⟩ : ∃ n : Nat, sb = (n : Int) := ⟨sb.toNat, by omega⟩
  have ha1 : 1 ≤ a ∧ a ≤ 6 := by omega
  have hb1' : 1 ≤ b ∧ b ≤ 6 := by omega
  obtain ⟨N, hN⟩ : ∃ N, N = a + b := ⟨_, rfl⟩
  have hu : (usesS ⟨6, purl, (a : Int), (b : Int)⟩).toNat = N := by rw [hK.uses, hN]; simp; omega
  rw [hu] at h1 HP1 hat
  have HSt : Hid (stepC row k ⟨6, purl, (a : Int), (b : Int)⟩ t = ⟨t.lp ++ cabL row k purl t.next a b N, t.bound, t.cross ++ crossN ⟨6, purl, (a : Int), (b : Int)⟩ t.lp.length a, t.rows, t.next + N⟩) := by
    show _ = _
    unfold stepC
    rw [hu, hN, newsL_cab (by simp) rfl rfl]
    unfold boundL crossL
    simp
  obtain ⟨ug, uc, rfl, -⟩ := pxJ_at (h1.mem (List.mem_cons_of_mem _ List.mem_cons_self)) (usedN_at (a := t.next) (n := N) (i := 0) (by omega)) (usedN_len _ _)
  have HX1 : Hid (PcE B pb ⟨t.lp ++ cabL row k purl t.next a b 0, t.bound, t.cross, t.rows, t.next⟩ (stB cb ⟨6, purl, (a : Int), (b : Int)⟩ :: pxJ (.slice (some ⟨ug, 0, none⟩) N uc) (usedN t.next N) :: X) W1) := by
    show PcE _ _ _ _ _
    rw [show cabL row k purl t.next a b 0 = [] from rfl, List.append_nil]
    exact h1
  have hwab : IntKind.i64.wrap ((a : Int) + (b : Int)) = (N : Int) := by rw [hN, Int.natCast_add]; exact IntWalk.i64_in _ (by omega)
  have HNe := Lib.hid hN
  have HN12 : Hid (1 ≤ N ∧ N ≤ 12) := by show _ ∧ _; omega
  obtain ⟨F, hF⟩ : ∃ F, F = t.lp.length := ⟨_, rfl⟩
  have HFe := Lib.hid hF
  have HFl : Hid (F ≤ 50000) := by show _ ≤ _; omega
  rw [← hF]
  clear h1 HP1 a1 a2 b1 b2 hN hF
  go_wp2
  go_loopw [15] (fun s15 wr => ∃ i : Nat, s15 = .int .i64 (i : Int) ∧ i ≤ N ∧ Hid (PcE B pb ⟨t.lp ++ cabL row k purl t.next a b i, t.bound, t.cross, t.rows, t.next⟩ (stB cb ⟨6, purl, (a : Int), (b : Int)⟩ :: pxJ (.slice (some ⟨ug, 0, none⟩) N uc) (usedN t.next N) :: X) wr) ∧ Hid (Below B w wr)) (fun s15 _ => N - (intOf s15).toNat)
  case atStart => exact ⟨0, rfl, Nat.zero_le _, HX1.out, HB1.out⟩
  case round =>
    obtain ⟨i, rfl, hi, HX2, HB2⟩ := hrel
    clear HX1 HB1
    obtain ⟨W2, hW2⟩ : ∃ x : World, x = wr := ⟨_, rfl⟩
    rw [← hW2] at HX2 HB2 ⊢
    clear hW2
    have hB2 : B ≤ W2.heap.size := Nat.le_trans hB HB2.out.size
    obtain ⟨x0, x1, x2, x3⟩ := stB_at (HX2.out.mem List.mem_cons_self)
    by_cases hlt : i < N
    case pos =>
      have d1 : decide ((i : Int) < (N : Int)) = true := decide_eq_true (by omega)
      have d1' : decide (i < N) = true := decide_eq_true hlt
      obtain ⟨rm, hrm⟩ : ∃ rm : Nat, rm = (a + i) % (a + b) := ⟨_, rfl⟩
      have hrm2 : rm < N := by rw [hrm, HNe.out]; exact Nat.mod_lt _ (by omega)
      have u0 := pxJ_cell (HX2.out.mem (List.mem_cons_of_mem _ List.mem_cons_self)) (usedN_at (a := t.next) hrm2) (usedN_len _ _)
      have hcn := cabL_next row k purl t.next a b i
      rw [← hrm] at hcn
      obtain ⟨y, hy⟩ : ∃ y : Int, y = ((t.next + rm : Nat) : Int) := ⟨_, rfl⟩
      rw [← hy] at u0 hcn
      have hlit := HX2.out.lit hB2 y
      have hdr : Below (W2.alloc (.cells #[.int .i64 y] 3)).heap.size (W2.alloc (.cells #[.int .i64 y] 3)) (W2.alloc (.cells #[.int .i64 y] 3)).drew := Below.drew (Below.refl _ _)
      have hBd : Below B W2 (W2.alloc (.cells #[.int .i64 y] 3)).drew := hlit.2.trans (hdr.mono (Nat.le_trans hB2 hlit.2.size))
      have hc := rput_any B pb _ row k (some ⟨W2.heap.size, 0, none⟩) 1 1 [y] rfl purl _ _ (hlit.1.to hdr) (Nat.le_trans hB2 hBd.size) (by simp only [List.length_append, cabL_len]; have := HFe.out; have := HFl.out; have := HN12.out; omega)
      simp only [List.append_assoc, ← hcn] at hc
      have HC := Lib.hid hc
      have HBd := Lib.hid hBd
      have lu := lt_of_cell u0
      have lx := lt_of_cell x1
      have hal1 := al_t W2 (.cells #[.int .i64 y] 3)
      have HKp : Hid (∀ W', Below W2.heap.size W2 W' → W'.cell? ⟨ug, rm, none⟩ = some (.int .i64 y) ∧ W'.cell? ⟨cb, 1, none⟩ = some (.bool purl) ∧ W'.cell? ⟨cb, 2, none⟩ = some (.int .i64 (a : Int)) ∧ W'.cell? ⟨cb, 3, none⟩ = some (.int .i64 (b : Int))) := fun W' hb => ⟨(bcell hb lu _).trans u0, (bcell hb lx _).trans x1, (bcell hb lx _).trans x2, (bcell hb lx _).trans x3⟩
      have HKq : Hid (∀ t' W', PcE B pb t' (stB cb ⟨6, purl, (a : Int), (b : Int)⟩ :: pxJ (.slice (some ⟨ug, 0, none⟩) N uc) (usedN t.next N) :: X) W' → W'.cell? ⟨ug, rm, none⟩ = some (.int .i64 y) ∧ W'.cell? ⟨cb, 1, none⟩ = some (.bool purl) ∧ W'.cell? ⟨cb, 2, none⟩ = some (.int .i64 (a : Int)) ∧ W'.cell? ⟨cb, 3, none⟩ = some (.int .i64 (b : Int))) := fun t' W' h => by
        obtain ⟨-, y1, y2, y3⟩ := stB_at (h.mem List.mem_cons_self)
        refine ⟨?_, y1, y2, y3⟩
        rw [hy]
        exact pxJ_cell (h.mem (List.mem_cons_of_mem _ List.mem_cons_self)) (usedN_at (a := t.next) hrm2) (usedN_len _ _)
      have HK1 := Lib.hid (HKp.out _ (Below.drew (Below.refl _ _)))
      have HK2 := Lib.hid (HKp.out _ (Below.drew hal1))
      have hwai : IntKind.i64.wrap ((a : Int) + (i : Int)) = ((a + i : Nat) : Int) := by rw [Int.natCast_add]; exact IntWalk.i64_in _ (by have := HN12.out; omega)
      obtain ⟨ai, hai⟩ : ∃ ai, ai = a + i := ⟨_, rfl⟩
      have hrem : Int.tmod (ai : Int) (N : Int) = (rm : Int) := by
        rw [Int.tmod_eq_emod_of_nonneg (by omega), hrm, HNe.out, hai, Int.natCast_emod]
      rw [← hai] at hwai
      have hn0 : ((N : Int) == 0) = false := beq_eq_false_iff_ne.2 (by have := HN12.out; omega)
      have hn00 : ¬ (N : Int) = 0 := by have := HN12.out; omega
      have hn01 : ¬ N = 0 := by have := HN12.out; omega
      have hn02 : (N == 0) = false := beq_eq_false_iff_ne.2 hn01
      have hr1 : (rm : Int) < (N : Int) := by omega
      have hr0 : (0 : Int) ≤ (rm : Int) := by omega
      clear hlit hdr hBd hc hcn HX2 hal1 lu lx u0 hrm hai hy
      go_upto_region 32 with fail
      go_region_held3 (fun W' => W'.cell? ⟨ug, rm, none⟩ = some (.int .i64 y) ∧ W'.cell? ⟨cb, 1, none⟩ = some (.bool purl) ∧ W'.cell? ⟨cb, 2, none⟩ = some (.int .i64 (a : Int)) ∧ W'.cell? ⟨cb, 3, none⟩ = some (.int .i64 (b : Int)))
        (first | (with_reducible exact HK1.out) | (with_reducible exact HK2.out) | exact HKq.out _ _ (by assumption) | fail)
        (first | (go_at_call 77; refine HC.out.mono ?_; rintro e w2 ⟨rfl, hp2, hb2⟩))
      have HQ := Lib.hid (And.intro hp2 (HB2.out.trans (HBd.out.trans hb2)))
      clear hp2 hb2 HC HKp HKq HK1 HK2 x0 x1 x2 x3 hwai hrem hr1 hr0 hrm2
      go_wp2
      go_roundw
      case rel => exact ⟨i + 1, by go_num, by omega, HQ.out.1, HQ.out.2⟩
      case measure => simp [intOf]; omega
    case neg =>
      have d1 : decide ((i : Int) < (N : Int)) = false := decide_eq_false (by omega)
      have d1' : decide (i < N) = false := decide_eq_false hlt
      have hie : i = N := by omega
      have HX3 : Hid (∃ LP, LP = t.lp ++ cabL row k purl t.next a b N ∧ PcE B pb ⟨LP, t.bound, t.cross ++ crossN ⟨6, purl, (a : Int), (b : Int)⟩ F 0, t.rows, t.next⟩ (stB cb ⟨6, purl, (a : Int), (b : Int)⟩ :: pxJ (.slice (some ⟨ug, 0, none⟩) N uc) (usedN t.next N) :: X) W2) := ⟨_, rfl, by
        rw [show crossN ⟨6, purl, (a : Int), (b : Int)⟩ F 0 = [] from rfl, List.append_nil]; have e := HX2.out; rw [hie] at e; exact e⟩
      obtain ⟨LP, hLP, hX3⟩ := HX3.out
      have HLP := Lib.hid hLP
      have HX4 := Lib.hid hX3
      clear HX2 HX3 hie hLP hX3
      go_upto_region 33 with fail
      refine abs_world (Q := fun W => Code.wp _ _ _ _ W) (F := fun W => PcE B pb ⟨LP, t.bound, t.cross ++ crossN ⟨6, purl, (a : Int), (b : Int)⟩ F 0, t.rows, t.next⟩ (stB cb ⟨6, purl, (a : Int), (b : Int)⟩ :: pxJ (.slice (some ⟨ug, 0, none⟩) N uc) (usedN t.next N) :: X) W ∧ Below B w W) _ ⟨HX4.out, HB2.out⟩ ?_
      clear HX4 HB2 x0 x1 x2 x3 hwab d1 d1' hlt hi
      rintro W3 ⟨h3, hb3⟩
      have HX5 := Lib.hid h3
      have HB5 := Lib.hid hb3
      clear h3 hb3
      go_wp2
      go_loopw [16] (fun s16 wr => ∃ i : Nat, s16 = .int .i64 (i : Int) ∧ i ≤ a ∧ Hid (PcE B pb ⟨LP, t.bound, t.cross ++ crossN ⟨6, purl, (a : Int), (b : Int)⟩ F i, t.rows, t.next⟩ (stB cb ⟨6, purl, (a : Int), (b : Int)⟩ :: pxJ (.slice (some ⟨ug, 0, none⟩) N uc) (usedN t.next N) :: X) wr) ∧ Hid (Below B w wr)) (fun s16 _ => a - (intOf s16).toNat)
      case atStart => exact ⟨0, rfl, Nat.zero_le _, HX5.out, HB5.out⟩
      case round =>
        obtain ⟨i, rfl, hi, HX6, HB6⟩ := hrel
        clear HX5 HB5
        obtain ⟨W4, hW4⟩ : ∃ x : World, x = wr := ⟨_, rfl⟩
        rw [← hW4] at HX6 HB6 ⊢
        clear hW4
        obtain ⟨x0, x1, x2, x3⟩ := stB_at (HX6.out.mem List.mem_cons_self)
        by_cases hlt : i < a
        case neg =>
          have d1 : decide ((i : Int) < (a : Int)) = false := decide_eq_false (by omega)
          have d1' : decide (i < a) = false := decide_eq_false hlt
          have hie : i = a := by omega
          have HX7 : Hid (PcE B pb ⟨t.lp ++ cabL row k purl t.next a b N, t.bound, t.cross ++ crossN ⟨6, purl, (a : Int), (b : Int)⟩ t.lp.length a, t.rows, t.next⟩ (stB cb ⟨6, purl, (a : Int), (b : Int)⟩ :: pxJ (.slice (some ⟨ug, 0, none⟩) N uc) (usedN t.next N) :: X) W4) := by
            show PcE _ _ _ _ _
            have e := HX6.out; rw [hie, HLP.out, HFe.out] at e; exact e
          clear HX6 hie
          go_wp2
          refine bodyPost_end (results_none rfl _ _ _) rfl ?_
          (try rw [hu])
          exact ClPost.mk' HSt.out HX7.out HB6.out
        case pos =>
          have d1 : decide ((i : Int) < (a : Int)) = true := decide_eq_true (by omega)
          have d1' : decide (i < a) = true := decide_eq_true hlt
          have HX7 : Hid (PcE B pb ⟨LP, t.bound, t.cross ++ crossN ⟨6, purl, (a : Int), (b : Int)⟩ F i ++ crossI ⟨6, purl, (a : Int), (b : Int)⟩ F i 0, t.rows, t.next⟩ (stB cb ⟨6, purl, (a : Int), (b : Int)⟩ :: pxJ (.slice (some ⟨ug, 0, none⟩) N uc) (usedN t.next N) :: X) W4) := by
            show PcE _ _ _ _ _
            rw [show crossI ⟨6, purl, (a : Int), (b : Int)⟩ F i 0 = [] from rfl, List.append_nil]; exact HX6.out
          clear HX6
          go_wp2
          go_loopw [17] (fun s17 wr => ∃ m : Nat, s17 = .int .i64 (m : Int) ∧ m ≤ b ∧ Hid (PcE B pb ⟨LP, t.bound, t.cross ++ crossN ⟨6, purl, (a : Int), (b : Int)⟩ F i ++ crossI ⟨6, purl, (a : Int), (b : Int)⟩ F i m, t.rows, t.next⟩ (stB cb ⟨6, purl, (a : Int), (b : Int)⟩ :: pxJ (.slice (some ⟨ug, 0, none⟩) N uc) (usedN t.next N) :: X) wr) ∧ Hid (Below B w wr)) (fun s17 _ => b - (intOf s17).toNat)
          case atStart => exact ⟨0, rfl, Nat.zero_le _, HX7.out, HB6.out⟩
          case round =>
            obtain ⟨m, rfl, hm, HX8, HB8⟩ := hrel
            clear HX7 HB6 x0 x1 x2 x3 d1 d1'
            obtain ⟨W5, hW5⟩ : ∃ x : World, x = wr := ⟨_, rfl⟩
            rw [← hW5] at HX8 HB8 ⊢
            clear hW5
            obtain ⟨x0, x1, x2, x3⟩ := stB_at (HX8.out.mem List.mem_cons_self)
            by_cases hlm : m < b
            case neg =>
              have d1 : decide ((m : Int) < (b : Int)) = false := decide_eq_false (by omega)
              have d1' : decide (m < b) = false := decide_eq_false hlm
              have hme : m = b := by omega
              have HX9 : Hid (PcE B pb ⟨LP, t.bound, t.cross ++ crossN ⟨6, purl, (a : Int), (b : Int)⟩ F (i + 1), t.rows, t.next⟩ (stB cb ⟨6, purl, (a : Int), (b : Int)⟩ :: pxJ (.slice (some ⟨ug, 0, none⟩) N uc) (usedN t.next N) :: X) W5) := by
                show PcE _ _ _ _ _
                rw [crossN_next, show (⟨6, purl, (a : Int), (b : Int)⟩ : Stc).b.toNat = b from rfl, ← List.append_assoc]; have e := HX8.out; rw [hme] at e; exact e
              clear HX8 hme
              go_wp2
              go_roundw
              case rel => exact ⟨i + 1, by go_num, by omega, HX9.out, HB8.out⟩
              case measure => simp [intOf]; omega
            case pos =>
              have d1 : decide ((m : Int) < (b : Int)) = true := decide_eq_true (by omega)
              have d1' : decide (m < b) = true := decide_eq_true hlm
              have hF5 := HFl.out
              have hB8 : B ≤ W5.heap.size := Nat.le_trans hB HB8.out.size
              obtain ⟨x, hx⟩ : ∃ x : Int, x = ((F + b + i : Nat) : Int) := ⟨_, rfl⟩
              obtain ⟨z, hz⟩ : ∃ z : Int, z = ((F + m : Nat) : Int) := ⟨_, rfl⟩
              obtain ⟨fb, hfb⟩ : ∃ z : Int, z = (F : Int) + (b : Int) := ⟨_, rfl⟩
              have hF6 : F ≤ 50000 := hF5
              have hw1 : IntKind.i64.wrap ((F : Int) + (b : Int)) = fb := by rw [hfb]; exact IntWalk.i64_in _ (by omega)
              have hw2 : IntKind.i64.wrap (fb + (i : Int)) = x := by rw [hfb, hx, Int.natCast_add, Int.natCast_add]; exact IntWalk.i64_in _ (by omega)
              have hw3 : IntKind.i64.wrap ((F : Int) + (m : Int)) = z := by rw [hz, Int.natCast_add]; exact IntWalk.i64_in _ (by omega)
              have hcp : crossP ⟨6, purl, (a : Int), (b : Int)⟩ F i m = (x, z) := by
                rw [hx, hz]
                unfold crossP
                simp
              have hcl8 : (t.cross ++ crossN ⟨6, purl, (a : Int), (b : Int)⟩ F i ++ crossI ⟨6, purl, (a : Int), (b : Int)⟩ F i m).length ≤ 100000 := by
                rw [List.length_append, List.length_append, crossN_len, crossI_len]
                have h1 : (⟨6, purl, (a : Int), (b : Int)⟩ : Stc).b.toNat = b := rfl
                rw [h1]
                have : i * b ≤ 6 * 6 := Nat.mul_le_mul (by omega) (by omega)
                omega
              have hcx := crossI_next ⟨6, purl, (a : Int), (b : Int)⟩ F i m
              rw [hcp] at hcx
              clear hF5 hF6 hfb hx hz hcp
              go_upto_region 42 with fail
              obtain ⟨vL, vB, vC, vR, vs, hP⟩ := HX8.out
              obtain ⟨a8, c8, rfl⟩ := hP.forms.2.2.1
              obtain ⟨-, -, y2, -⟩ := hP.cells
              obtain ⟨A', c', w', hr, hf, c2', hQ, hb⟩ := hP.pushX hB8 hcl8 (x, z)
              simp only [List.append_assoc] at hQ
              rw [← hcx] at hQ
              simp only [← List.append_assoc] at hQ
              have HQ := Lib.hid (And.intro hQ (HB8.out.trans hb))
              obtain ⟨cl, hcl'⟩ : ∃ cl, cl = (t.cross ++ crossN ⟨6, purl, (a : Int), (b : Int)⟩ F i ++ crossI ⟨6, purl, (a : Int), (b : Int)⟩ F i m).length := ⟨_, rfl⟩
              simp only [← hcl'] at hr y2 c2' HQ
              clear hQ hb hP hcl8 HX8 hcl' hcx hw1 hw2 hw3 x0 x1 x2 x3
              go_wp2_with (at_builtin; refine wpList_append_run _ rfl _ _ _ _ rfl _ _ (by rfl) (by rfl) hr ?_)
              go_roundw
              case rel => exact ⟨m + 1, by go_num, by omega, ⟨_, _, _, _, _, HQ.out.1⟩, HQ.out.2⟩
              case measure => simp [intOf]; omega
set_option maxHeartbeats 4000000 in
theorem rcell7 (B pb : Nat) (t : Pw) (row k : Int) (s : Stc) (hs : s.ok = true) (hk : s.kind = 7) (uv : Value) (X : List Own) (hat : t.next + (usesS s).toNat ≤ t.lp.length) (hl : t.lp.length ≤ 50000) (hcl : t.cross.length ≤ 50000) (w : World) (h : PcE B pb t (pxJ uv (usedN t.next (usesS s).toNat) :: X) w) (hB : B ≤ w.heap.size) :
    Calls Try.prog 80 #[.pointer (some ⟨pb, 0, none⟩), .int .i64 row, .int .i64 k, s.val, uv] w fun e w' => ClPost B pb (stepC row k s t) (pxJ uv (usedN t.next (usesS s).toNat) :: X) w e w' := by
  have hK := stc_k hs
  obtain ⟨kind, purl, sa, sb⟩ := s
  obtain rfl : kind = 7 := hk
  have hal := al_t w (.cells #[.int .u8 7, .bool purl, .int .i64 sa, .int .i64 sb] 66)
  have HX : Hid (PcE B pb t (stB w.heap.size ⟨7, purl, sa, sb⟩ :: pxJ uv (usedN t.next (usesS ⟨7, purl, sa, sb⟩).toNat) :: X) (w.alloc (.cells #[.int .u8 7, .bool purl, .int .i64 sa, .int .i64 sb] 66)) ∧ Below B w (w.alloc (.cells #[.int .u8 7, .bool purl, .int .i64 sa, .int .i64 sb] 66))) := by
    obtain ⟨vL, vB, vC, vR, vs, h⟩ := h
    exact ⟨⟨vL, vB, vC, vR, vs, h.add hal hB (bxT_new w _ _)⟩, hal.mono hB⟩
  obtain ⟨a0, c0, g0⟩ := HX.out.1.cells
  obtain ⟨x0, -⟩ := stB_at (HX.out.1.mem List.mem_cons_self)
  obtain ⟨cb, hcb⟩ : ∃ cb, cb = w.heap.size := ⟨_, rfl⟩
  obtain ⟨n0, hn0⟩ : ∃ n0, n0 = t.lp.length := ⟨_, rfl⟩
  rw [← hn0] at g0
  clear h hal
  show Calls Try.prog 80 #[_, _, _, .agg #[.int .u8 7, .bool purl, .int .i64 sa, .int .i64 sb], _] w _
  go_enter Try.func80, Try.ntmps80
  go_upto_region 3 with fail
  refine abs_world (Q := fun W => Code.wp _ _ _ _ W) (F := fun W => PcE B pb t (stB w.heap.size ⟨7, purl, sa, sb⟩ :: pxJ uv (usedN t.next (usesS ⟨7, purl, sa, sb⟩).toNat) :: X) W ∧ Below B w W) _ HX.out ?_
  clear HX g0 x0
  rw [← hcb]
  rintro W1 ⟨h1, hb1⟩
  have hB1 : B ≤ W1.heap.size := Nat.le_trans hB hb1.size
  have HP1 := Lib.hid h1
  have HB1 := Lib.hid hb1
  clear hb1 hcb
  obtain ⟨a1, a2, b1, b2⟩ := hK.cable (by simp)
  simp only at a1 a2 b1 b2
  obtain ⟨a, rfl⟩ : ∃ n : Nat, sa = (n : Int) := ⟨sa.toNat, by omega⟩
  obtain ⟨b, rfl⟩ : ∃ n : Nat, sb = (n : Int) := ⟨sb.toNat, by omega⟩
  have ha1 : 1 ≤ a ∧ a ≤ 6 := by omega
  have hb1' : 1 ≤ b ∧ b ≤ 6 := by omega
  obtain ⟨N, hN⟩ : ∃ N, N = a + b := ⟨_, rfl⟩
  have hu : (usesS ⟨7, purl, (a : Int), (b : Int)⟩).toNat = N := by rw [hK.uses, hN]; simp; omega
  rw [hu] at h1 HP1 hat
  have HSt : Hid (stepC row k ⟨7, purl, (a : Int), (b : Int)⟩ t = ⟨t.lp ++ cabL row k purl t.next a b N, t.bound, t.cross ++ crossN ⟨7, purl, (a : Int), (b : Int)⟩ t.lp.length a, t.rows, t.next + N⟩) := by
    show _ = _
    unfold stepC
    rw [hu, hN, newsL_cab (by simp) rfl rfl]
    unfold boundL crossL
    simp
  obtain ⟨ug, uc, rfl, -⟩ := pxJ_at (h1.mem (List.mem_cons_of_mem _ List.mem_cons_self)) (usedN_at (a := t.next) (n := N) (i := 0) (by omega)) (usedN_len _ _)
  have HX1 : Hid (PcE B pb ⟨t.lp ++ cabL row k purl t.next a b 0, t.bound, t.cross, t.rows, t.next⟩ (stB cb ⟨7, purl, (a : Int), (b : Int)⟩ :: pxJ (.slice (some ⟨ug, 0, none⟩) N uc) (usedN t.next N) :: X) W1) := by
    show PcE _ _ _ _ _
    rw [show cabL row k purl t.next a b 0 = [] from rfl, List.append_nil]
    exact h1
  have hwab : IntKind.i64.wrap ((a : Int) + (b : Int)) = (N : Int) := by rw [hN, Int.natCast_add]; exact IntWalk.i64_in _ (by omega)
  have HNe := Lib.hid hN
  have HN12 : Hid (1 ≤ N ∧ N ≤ 12) := by show _ ∧ _; omega
  obtain ⟨F, hF⟩ : ∃ F, F = t.lp.length := ⟨_, rfl⟩
  have HFe := Lib.hid hF
  have HFl : Hid (F ≤ 50000) := by show _ ≤ _; omega
  rw [← hF]
  clear h1 HP1 a1 a2 b1 b2 hN hF
  go_wp2
  go_loopw [15] (fun s15 wr => ∃ i : Nat, s15 = .int .i64 (i : Int) ∧ i ≤ N ∧ Hid (PcE B pb ⟨t.lp ++ cabL row k purl t.next a b i, t.bound, t.cross, t.rows, t.next⟩ (stB cb ⟨7, purl, (a : Int), (b : Int)⟩ :: pxJ (.slice (some ⟨ug, 0, none⟩) N uc) (usedN t.next N) :: X) wr) ∧ Hid (Below B w wr)) (fun s15 _ => N - (intOf s15).toNat)
  case atStart => exact ⟨0, rfl, Nat.zero_le _, HX1.out, HB1.out⟩
  case round =>
    obtain ⟨i, rfl, hi, HX2, HB2⟩ := hrel
    clear HX1 HB1
    obtain ⟨W2, hW2⟩ : ∃ x : World, x = wr := ⟨_, rfl⟩
    rw [← hW2] at HX2 HB2 ⊢
    clear hW2
    have hB2 : B ≤ W2.heap.size := Nat.le_trans hB HB2.out.size
    obtain ⟨x0, x1, x2, x3⟩ := stB_at (HX2.out.mem List.mem_cons_self)
    by_cases hlt : i < N
    case pos =>
      have d1 : decide ((i : Int) < (N : Int)) = true := decide_eq_true (by omega)
      have d1' : decide (i < N) = true := decide_eq_true hlt
      obtain ⟨rm, hrm⟩ : ∃ rm : Nat, rm = (a + i) % (a + b) := ⟨_, rfl⟩
      have hrm2 : rm < N := by rw [hrm, HNe.out]; exact Nat.mod_lt _ (by omega)
      have u0 := pxJ_cell (HX2.out.mem (List.mem_cons_of_mem _ List.mem_cons_self)) (usedN_at (a := t.next) hrm2) (usedN_len _ _)
      have hcn := cabL_next row k purl t.next a b i
      rw [← hrm] at hcn
      obtain ⟨y, hy⟩ : ∃ y : Int, y = ((t.next + rm : Nat) : Int) := ⟨_, rfl⟩
      rw [← hy] at u0 hcn
      have hlit := HX2.out.lit hB2 y
      have hdr : Below (W2.alloc (.cells #[.int .i64 y] 3)).heap.size (W2.alloc (.cells #[.int .i64 y] 3)) (W2.alloc (.cells #[.int .i64 y] 3)).drew := Below.drew (Below.refl _ _)
      have hBd : Below B W2 (W2.alloc (.cells #[.int .i64 y] 3)).drew := hlit.2.trans (hdr.mono (Nat.le_trans hB2 hlit.2.size))
      have hc := rput_any B pb _ row k (some ⟨W2.heap.size, 0, none⟩) 1 1 [y] rfl purl _ _ (hlit.1.to hdr) (Nat.le_trans hB2 hBd.size) (by simp only [List.length_append, cabL_len]; have := HFe.out; have := HFl.out; have := HN12.out; omega)
      simp only [List.append_assoc, ← hcn] at hc
      have HC := Lib.hid hc
      have HBd := Lib.hid hBd
      have lu := lt_of_cell u0
      have lx := lt_of_cell x1
      have hal1 := al_t W2 (.cells #[.int .i64 y] 3)
      have HKp : Hid (∀ W', Below W2.heap.size W2 W' → W'.cell? ⟨ug, rm, none⟩ = some (.int .i64 y) ∧ W'.cell? ⟨cb, 1, none⟩ = some (.bool purl) ∧ W'.cell? ⟨cb, 2, none⟩ = some (.int .i64 (a : Int)) ∧ W'.cell? ⟨cb, 3, none⟩ = some (.int .i64 (b : Int))) := fun W' hb => ⟨(bcell hb lu _).trans u0, (bcell hb lx _).trans x1, (bcell hb lx _).trans x2, (bcell hb lx _).trans x3⟩
      have HKq : Hid (∀ t' W', PcE B pb t' (stB cb ⟨7, purl, (a : Int), (b : Int)⟩ :: pxJ (.slice (some ⟨ug, 0, none⟩) N uc) (usedN t.next N) :: X) W' → W'.cell? ⟨ug, rm, none⟩ = some (.int .i64 y) ∧ W'.cell? ⟨cb, 1, none⟩ = some (.bool purl) ∧ W'.cell? ⟨cb, 2, none⟩ = some (.int .i64 (a : Int)) ∧ W'.cell? ⟨cb, 3, none⟩ = some (.int .i64 (b : Int))) := fun t' W' h => by
        obtain ⟨-, y1, y2, y3⟩ := stB_at (h.mem List.mem_cons_self)
        refine ⟨?_, y1, y2, y3⟩
        rw [hy]
        exact pxJ_cell (h.mem (List.mem_cons_of_mem _ List.mem_cons_self)) (usedN_at (a := t.next) hrm2) (usedN_len _ _)
      have HK1 := Lib.hid (HKp.out _ (Below.drew (Below.refl _ _)))
      have HK2 := Lib.hid (HKp.out _ (Below.drew hal1))
      have hwai : IntKind.i64.wrap ((a : Int) + (i : Int)) = ((a + i : Nat) : Int) := by rw [Int.natCast_add]; exact IntWalk.i64_in _ (by have := HN12.out; omega)
      obtain ⟨ai, hai⟩ : ∃ ai, ai = a + i := ⟨_, rfl⟩
      have hrem : Int.tmod (ai : Int) (N : Int) = (rm : Int) := by
        rw [Int.tmod_eq_emod_of_nonneg (by omega), hrm, HNe.out, hai, Int.natCast_emod]
      rw [← hai] at hwai
      have hn0 : ((N : Int) == 0) = false := beq_eq_false_iff_ne.2 (by have := HN12.out; omega)
      have hn00 : ¬ (N : Int) = 0 := by have := HN12.out; omega
      have hn01 : ¬ N = 0 := by have := HN12.out; omega
      have hn02 : (N == 0) = false := beq_eq_false_iff_ne.2 hn01
      have hr1 : (rm : Int) < (N : Int) := by omega
      have hr0 : (0 : Int) ≤ (rm : Int) := by omega
      clear hlit hdr hBd hc hcn HX2 hal1 lu lx u0 hrm hai hy
      go_upto_region 32 with fail
      go_region_held3 (fun W' => W'.cell? ⟨ug, rm, none⟩ = some (.int .i64 y) ∧ W'.cell? ⟨cb, 1, none⟩ = some (.bool purl) ∧ W'.cell? ⟨cb, 2, none⟩ = some (.int .i64 (a : Int)) ∧ W'.cell? ⟨cb, 3, none⟩ = some (.int .i64 (b : Int)))
        (first | (with_reducible exact HK1.out) | (with_reducible exact HK2.out) | exact HKq.out _ _ (by assumption) | fail)
        (first | (go_at_call 77; refine HC.out.mono ?_; rintro e w2 ⟨rfl, hp2, hb2⟩))
      have HQ := Lib.hid (And.intro hp2 (HB2.out.trans (HBd.out.trans hb2)))
      clear hp2 hb2 HC HKp HKq HK1 HK2 x0 x1 x2 x3 hwai hrem hr1 hr0 hrm2
      go_wp2
      go_roundw
      case rel => exact ⟨i + 1, by go_num, by omega, HQ.out.1, HQ.out.2⟩
      case measure => simp [intOf]; omega
    case neg =>
      have d1 : decide ((i : Int) < (N : Int)) = false := decide_eq_false (by omega)
      have d1' : decide (i < N) = false := decide_eq_false hlt
      have hie : i = N := by omega
      have HX3 : Hid (∃ LP, LP = t.lp ++ cabL row k purl t.next a b N ∧ PcE B pb ⟨LP, t.bound, t.cross ++ crossN ⟨7, purl, (a : Int), (b : Int)⟩ F 0, t.rows, t.next⟩ (stB cb ⟨7, purl, (a : Int), (b : Int)⟩ :: pxJ (.slice (some ⟨ug, 0, none⟩) N uc) (usedN t.next N) :: X) W2) := ⟨_, rfl, by
        rw [show crossN ⟨7, purl, (a : Int), (b : Int)⟩ F 0 = [] from rfl, List.append_nil]; have e := HX2.out; rw [hie] at e; exact e⟩
      obtain ⟨LP, hLP, hX3⟩ := HX3.out
      have HLP := Lib.hid hLP
      have HX4 := Lib.hid hX3
      clear HX2 HX3 hie hLP hX3
      go_upto_region 33 with fail
      refine abs_world (Q := fun W => Code.wp _ _ _ _ W) (F := fun W => PcE B pb ⟨LP, t.bound, t.cross ++ crossN ⟨7, purl, (a : Int), (b : Int)⟩ F 0, t.rows, t.next⟩ (stB cb ⟨7, purl, (a : Int), (b : Int)⟩ :: pxJ (.slice (some ⟨ug, 0, none⟩) N uc) (usedN t.next N) :: X) W ∧ Below B w W) _ ⟨HX4.out, HB2.out⟩ ?_
      clear HX4 HB2 x0 x1 x2 x3 hwab d1 d1' hlt hi
      rintro W3 ⟨h3, hb3⟩
      have HX5 := Lib.hid h3
      have HB5 := Lib.hid hb3
      clear h3 hb3
      go_wp2
      go_loopw [16] (fun s16 wr => ∃ i : Nat, s16 = .int .i64 (i : Int) ∧ i ≤ a ∧ Hid (PcE B pb ⟨LP, t.bound, t.cross ++ crossN ⟨7, purl, (a : Int), (b : Int)⟩ F i, t.rows, t.next⟩ (stB cb ⟨7, purl, (a : Int), (b : Int)⟩ :: pxJ (.slice (some ⟨ug, 0, none⟩) N uc) (usedN t.next N) :: X) wr) ∧ Hid (Below B w wr)) (fun s16 _ => a - (intOf s16).toNat)
      case atStart => exact ⟨0, rfl, Nat.zero_le _, HX5.out, HB5.out⟩
      case round =>
        obtain ⟨i, rfl, hi, HX6, HB6⟩ := hrel
        clear HX5 HB5
        obtain ⟨W4, hW4⟩ : ∃ x : World, x = wr := ⟨_, rfl⟩
        rw [← hW4] at HX6 HB6 ⊢
        clear hW4
        obtain ⟨x0, x1, x2, x3⟩ := stB_at (HX6.out.mem List.mem_cons_self)
        by_cases hlt : i < a
        case neg =>
          have d1 : decide ((i : Int) < (a : Int)) = false := decide_eq_false (by omega)
          have d1' : decide (i < a) = false := decide_eq_false hlt
          have hie : i = a := by omega
          have HX7 : Hid (PcE B pb ⟨t.lp ++ cabL row k purl t.next a b N, t.bound, t.cross ++ crossN ⟨7, purl, (a : Int), (b : Int)⟩ t.lp.length a, t.rows, t.next⟩ (stB cb ⟨7, purl, (a : Int), (b : Int)⟩ :: pxJ (.slice (some ⟨ug, 0, none⟩) N uc) (usedN t.next N) :: X) W4) := by
            show PcE _ _ _ _ _
            have e := HX6.out; rw [hie, HLP.out, HFe.out] at e; exact e
          clear HX6 hie
          go_wp2
          refine bodyPost_end (results_none rfl _ _ _) rfl ?_
          (try rw [hu])
          exact ClPost.mk' HSt.out HX7.out HB6.out
        case pos =>
          have d1 : decide ((i : Int) < (a : Int)) = true := decide_eq_true (by omega)
          have d1' : decide (i < a) = true := decide_eq_true hlt
          have HX7 : Hid (PcE B pb ⟨LP, t.bound, t.cross ++ crossN ⟨7, purl, (a : Int), (b : Int)⟩ F i ++ crossI ⟨7, purl, (a : Int), (b : Int)⟩ F i 0, t.rows, t.next⟩ (stB cb ⟨7, purl, (a : Int), (b : Int)⟩ :: pxJ (.slice (some ⟨ug, 0, none⟩) N uc) (usedN t.next N) :: X) W4) := by
            show PcE _ _ _ _ _
            rw [show crossI ⟨7, purl, (a : Int), (b : Int)⟩ F i 0 = [] from rfl, List.append_nil]; exact HX6.out
          clear HX6
          go_wp2
          go_loopw [17] (fun s17 wr => ∃ m : Nat, s17 = .int .i64 (m : Int) ∧ m ≤ b ∧ Hid (PcE B pb ⟨LP, t.bound, t.cross ++ crossN ⟨7, purl, (a : Int), (b : Int)⟩ F i ++ crossI ⟨7, purl, (a : Int), (b : Int)⟩ F i m, t.rows, t.next⟩ (stB cb ⟨7, purl, (a : Int), (b : Int)⟩ :: pxJ (.slice (some ⟨ug, 0, none⟩) N uc) (usedN t.next N) :: X) wr) ∧ Hid (Below B w wr)) (fun s17 _ => b - (intOf s17).toNat)
          case atStart => exact ⟨0, rfl, Nat.zero_le _, HX7.out, HB6.out⟩
          case round =>
            obtain ⟨m, rfl, hm, HX8, HB8⟩ := hrel
            clear HX7 HB6 x0 x1 x2 x3 d1 d1'
            obtain ⟨W5, hW5⟩ : ∃ x : World, x = wr := ⟨_, rfl⟩
            rw [← hW5] at HX8 HB8 ⊢
            clear hW5
            obtain ⟨x0, x1, x2, x3⟩ := stB_at (HX8.out.mem List.mem_cons_self)
            by_cases hlm : m < b
            case neg =>
              have d1 : decide ((m : Int) < (b : Int)) = false := decide_eq_false (by omega)
              have d1' : decide (m < b) = false := decide_eq_false hlm
              have hme : m = b := by omega
              have HX9 : Hid (PcE B pb ⟨LP, t.bound, t.cross ++ crossN ⟨7, purl, (a : Int), (b : Int)⟩ F (i + 1), t.rows, t.next⟩ (stB cb ⟨7, purl, (a : Int), (b : Int)⟩ :: pxJ (.slice (some ⟨ug, 0, none⟩) N uc) (usedN t.next N) :: X) W5) := by
                show PcE _ _ _ _ _
                rw [crossN_next, show (⟨7, purl, (a : Int), (b : Int)⟩ : Stc).b.toNat = b from rfl, ← List.append_assoc]; have e := HX8.out; rw [hme] at e; exact e
              clear HX8 hme
              go_wp2
              go_roundw
              case rel => exact ⟨i + 1, by go_num, by omega, HX9.out, HB8.out⟩
              case measure => simp [intOf]; omega
            case pos =>
              have d1 : decide ((m : Int) < (b : Int)) = true := decide_eq_true (by omega)
              have d1' : decide (m < b) = true := decide_eq_true hlm
              have hF5 := HFl.out
              have hB8 : B ≤ W5.heap.size := Nat.le_trans hB HB8.out.size
              obtain ⟨x, hx⟩ : ∃ x : Int, x = ((F + b + i : Nat) : Int) := ⟨_, rfl⟩
              obtain ⟨z, hz⟩ : ∃ z : Int, z = ((F + m : Nat) : Int) := ⟨_, rfl⟩
              obtain ⟨fb, hfb⟩ : ∃ z : Int, z = (F : Int) + (b : Int) := ⟨_, rfl⟩
              have hF6 : F ≤ 50000 := hF5
              have hw1 : IntKind.i64.wrap ((F : Int) + (b : Int)) = fb := by rw [hfb]; exact IntWalk.i64_in _ (by omega)
              have hw2 : IntKind.i64.wrap (fb + (i : Int)) = x := by rw [hfb, hx, Int.natCast_add, Int.natCast_add]; exact IntWalk.i64_in _ (by omega)
              have hw3 : IntKind.i64.wrap ((F : Int) + (m : Int)) = z := by rw [hz, Int.natCast_add]; exact IntWalk.i64_in _ (by omega)
              have hcp : crossP ⟨7, purl, (a : Int), (b : Int)⟩ F i m = (z, x) := by
                rw [hx, hz]
                unfold crossP
                simp
              have hcl8 : (t.cross ++ crossN ⟨7, purl, (a : Int), (b : Int)⟩ F i ++ crossI ⟨7, purl, (a : Int), (b : Int)⟩ F i m).length ≤ 100000 := by
                rw [List.length_append, List.length_append, crossN_len, crossI_len]
                have h1 : (⟨7, purl, (a : Int), (b : Int)⟩ : Stc).b.toNat = b := rfl
                rw [h1]
                have : i * b ≤ 6 * 6 := Nat.mul_le_mul (by omega) (by omega)
                omega
              have hcx := crossI_next ⟨7, purl, (a : Int), (b : Int)⟩ F i m
              rw [hcp] at hcx
              clear hF5 hF6 hfb hx hz hcp
              go_upto_region 42 with fail
              obtain ⟨vL, vB, vC, vR, vs, hP⟩ := HX8.out
              obtain ⟨a8, c8, rfl⟩ := hP.forms.2.2.1
              obtain ⟨-, -, y2, -⟩ := hP.cells
              obtain ⟨A', c', w', hr, hf, c2', hQ, hb⟩ := hP.pushX hB8 hcl8 (z, x)
              simp only [List.append_assoc] at hQ
              rw [← hcx] at hQ
              simp only [← List.append_assoc] at hQ
              have HQ := Lib.hid (And.intro hQ (HB8.out.trans hb))
              obtain ⟨cl, hcl'⟩ : ∃ cl, cl = (t.cross ++ crossN ⟨7, purl, (a : Int), (b : Int)⟩ F i ++ crossI ⟨7, purl, (a : Int), (b : Int)⟩ F i m).length := ⟨_, rfl⟩
              simp only [← hcl'] at hr y2 c2' HQ
              clear hQ hb hP hcl8 HX8 hcl' hcx hw1 hw2 hw3 x0 x1 x2 x3
              go_wp2_with (at_builtin; refine wpList_append_run _ rfl _ _ _ _ rfl _ _ (by rfl) (by rfl) hr ?_)
              go_roundw
              case rel => exact ⟨m + 1, by go_num, by omega, ⟨_, _, _, _, _, HQ.out.1⟩, HQ.out.2⟩
              case measure => simp [intOf]; omega
/-- The reference's cell, any valid cell. -/
theorem rcell_any (B pb : Nat) (t : Pw) (row k : Int) (s : Stc) (hs : s.ok = true) (uv : Value) (X : List Own) (hat : t.next + (usesS s).toNat ≤ t.lp.length) (hl : t.lp.length ≤ 50000) (hbl : t.bound.length ≤ 50000) (hcl : t.cross.length ≤ 50000) (w : World) (h : PcE B pb t (pxJ uv (usedN t.next (usesS s).toNat) :: X) w) (hB : B ≤ w.heap.size) :
    Calls Try.prog 80 #[.pointer (some ⟨pb, 0, none⟩), .int .i64 row, .int .i64 k, s.val, uv] w fun e w' => ClPost B pb (stepC row k s t) (pxJ uv (usedN t.next (usesS s).toNat) :: X) w e w' := by
  have hK := stc_k hs
  have h1 := hK.lo
  have h2 := hK.hi
  rcases (by omega : s.kind = 1 ∨ s.kind = 2 ∨ s.kind = 3 ∨ s.kind = 4 ∨ s.kind = 5 ∨ s.kind = 6 ∨ s.kind = 7 ∨ s.kind = 8 ∨ s.kind = 9 ∨ s.kind = 10) with e | e | e | e | e | e | e | e | e | e
  · exact rcell1 B pb t row k s hs e uv X hat hl w h hB
  · exact rcell2 B pb t row k s hs e uv X hat hl w h hB
  · exact rcell3 B pb t row k s hs e uv X hat hl w h hB
  · exact rcell4 B pb t row k s hs e uv X hat hl w h hB
  · exact rcell5 B pb t row k s hs e uv X hat hl w h hB
  · exact rcell6 B pb t row k s hs e uv X hat hl hcl w h hB
  · exact rcell7 B pb t row k s hs e uv X hat hl hcl w h hB
  · exact rcell8 B pb t row k s hs e uv X hat hl w h hB
  · exact rcell9 B pb t row k s hs e uv X hat hl w h hB
  · exact rcell10 B pb t row k s hs e uv X hat hbl w h hB
end Go.Proofs.Ytflpikickbellaa
