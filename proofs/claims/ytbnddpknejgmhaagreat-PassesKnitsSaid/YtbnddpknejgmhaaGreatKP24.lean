/- Layer 27: a piece in memory. Layer 27: the reference's put. -/
import Derived.Test.YtbnddpknejgmhaaGreatKP21
import Derived.Test.YtbnddpknejgmhaaGreatKP23
namespace Go.Proofs.YtbnddpknejgmhaaGreat
open Go.RowKit Go.Shelf Go.Sort
set_option maxRecDepth 100000

theorem info_lpT : (Tryz.prog.info? 49).map (fun i => (i.zero, i.size, i.bytes)) = some (some (.agg #[.int .i64 0, .int .i64 0, .slice none 0 0, .bool false]), 4, 48) := by kernel_rfl
/-! A box that a call owns. -/
def bxT (T : TypeId) (pb : Nat) (vals : List Value) : Own := ⟨T, vals.length, 1, .slice (some ⟨pb, 0, none⟩) 1 1, vals⟩
theorem bxT_at {w : World} {B pb : Nat} {T : TypeId} {vals : List Value} (h : (bxT T pb vals).lies w B) : (∀ k v, vals[k]? = some v → w.cell? ⟨pb, k, none⟩ = some v) ∧ (∀ k, w.frozen? ⟨pb, k, none⟩ = false) ∧ B ≤ pb ∧ pb < w.heap.size := by
  have h0 : w.ownsRow B T vals.length (.slice (some ⟨pb, 0, none⟩) 1 1) 1 vals := h
  obtain ⟨h1, h2⟩ := World.ownsRow.lt h0 pb rfl
  exact ⟨fun k v hk => by rw [h0.cellAt k (by rw [Nat.one_mul]; exact (List.getElem?_eq_some_iff.1 hk).1)]; exact hk, fun k => h0.frozenAt k, h1, h2⟩
theorem bxT_set {w : World} {B pb : Nat} {T : TypeId} {vals : List Value} {L : List Own} (h : Owns w B (bxT T pb vals :: L)) (k : Nat) (y : Value) : Owns (w.setCell ⟨pb, k, none⟩ y) B (bxT T pb (vals.set k y) :: L) := by
  have h0 : w.ownsRow B T vals.length (.slice (some ⟨pb, 0, none⟩) 1 1) 1 vals := h.head
  obtain ⟨h1, h2⟩ := World.ownsRow.stored h0 k y
  refine h.turn (o' := bxT T pb (vals.set k y)) h2 ?_ (fun k hk => Or.inl hk)
  unfold bxT Own.lies
  rw [List.length_set]
  exact h1
theorem bxT_below {w : World} {B pb : Nat} {T : TypeId} {vals : List Value} {L : List Own} (h : Owns w B (bxT T pb vals :: L)) (hB : B ≤ w.heap.size) (k : Nat) (y : Value) : Below B w (w.setCell ⟨pb, k, none⟩ y) :=
  Below.of_grown (grown_setAt w pb k y) hB (fun k e => by cases e; exact (bxT_at h.head).2.2.1)
theorem bxT_new (w : World) (T : TypeId) (vals : List Value) : (bxT T w.heap.size vals).lies (w.alloc (.cells vals.toArray T)) w.heap.size := box_new w T vals rfl
/-! The loops. -/
abbrev lpC (l : Lp) (v : Value) : List Value := [.int .i64 l.row, .int .i64 l.cell, v, .bool l.purl]
abbrev lpB (l : Lp) (v : Value) : Obj := .cells #[.int .i64 l.row, .int .i64 l.cell, v, .bool l.purl] 49
def lpCs (L : List Lp) (vs : List Value) : List (List Value) := List.zipWith lpC L vs
theorem lpCs_four (L : List Lp) (vs : List Value) : ∀ cs ∈ lpCs L vs, cs.length = 4 := fun cs h => by
  unfold lpCs at h
  rw [← List.map_uncurry_zip_eq_zipWith] at h
  obtain ⟨p, -, rfl⟩ := List.mem_map.1 h
  rfl
theorem lpCs_len {L : List Lp} {vs : List Value} (h : vs.length = L.length) : (lpCs L vs).length = L.length := by unfold lpCs; rw [List.length_zipWith, h, Nat.min_self]
theorem lpCs_app {L : List Lp} {vs : List Value} (h : vs.length = L.length) (l : Lp) (v : Value) : lpCs (L ++ [l]) (vs ++ [v]) = lpCs L vs ++ [lpC l v] := by unfold lpCs; rw [List.zipWith_append h.symm]; rfl
def pxL (v : Value) (L : List Lp) (vs : List Value) : Own := ⟨49, 4, L.length, v, (lpCs L vs).flatten⟩
def parO (L : List Lp) (vs : List Value) : List Own := List.zipWith (fun l v => pxJ v l.par) L vs
theorem parO_app {L : List Lp} {vs : List Value} (h : vs.length = L.length) (l : Lp) (v : Value) : parO (L ++ [l]) (vs ++ [v]) = parO L vs ++ [pxJ v l.par] := by unfold parO; rw [List.zipWith_append h.symm]; rfl
theorem pxL_form {w : World} {B : Nat} {v : Value} {L : List Lp} {vs : List Value} {R : List Own} (h : Owns w B (pxL v L vs :: R)) : ∃ a c, v = .slice a L.length c := by
  obtain ⟨a, c, e, -⟩ := own_slice h.head
  exact ⟨a, c, e⟩
theorem pxL_app {w : World} {B c : Nat} {a : Option Addr} {L : List Lp} {vs : List Value} {R : List Own} (h : Owns w B (pxL (.slice a L.length c) L vs :: R)) (hv : vs.length = L.length) (hB : B ≤ w.heap.size) (hl : L.length ≤ 100000) (l : Lp) (pa : Option Addr) (pn pc : Nat) :
    ∃ A' c' w', (Builtin.append_ #[32, 32] 32 #[.slice a L.length c, .slice (some ⟨w.heap.size, 0, none⟩) 1 1]).run Tryz.prog (w.alloc (lpB l (.slice pa pn pc))) = .ok (.slice A' (L.length + 1) c') w' ∧ Owns w' B (pxL (.slice A' (L.length + 1) c') (L ++ [l]) (vs ++ [.slice pa pn pc]) :: R) ∧ Below B w w' := by
  obtain ⟨ii, hii, hii0, hii1, hii2⟩ := info_parts info_lpT
  have hal := al_t w (lpB l (.slice pa pn pc))
  have h9 := h.to hal
  have h0 : (w.alloc (lpB l (.slice pa pn pc))).ownsRow B 49 4 (.slice a L.length c) L.length (lpCs L vs).flatten := h9.head
  have hsz := hal.size
  have hnew : ∀ j u, (lpC l (.slice pa pn pc))[j]? = some u → (w.alloc (lpB l (.slice pa pn pc))).cell? ((⟨w.heap.size, 0, none⟩ : Addr).add j) = some u := newsT w _ _ _ rfl
  obtain ⟨A', c', w', hr, ho, hg, hn⟩ := run_app_any Tryz.underlying32 hii hii0 hii1 hii2 rfl (by decide) h0 (some ⟨w.heap.size, 0, none⟩) 1 1 (lpC l (.slice pa pn pc)) rfl (fun e => by cases e) (fun ad e => by cases e; exact hnew) (fun u hu => by
    simp only [List.mem_cons, List.not_mem_nil, or_false] at hu
    rcases hu with rfl | rfl | rfl | rfl <;> rfl) (by unfold maxLen; omega) (by omega) (by omega)
  refine ⟨A', c', w', hr, ?_, (hal.mono hB).trans (Below.of_grown hg (by omega) (fun k e => (World.ownsRow.lt h0 k e).1))⟩
  refine h9.turn (o' := pxL (.slice A' (L.length + 1) c') (L ++ [l]) (vs ++ [.slice pa pn pc])) hg ?_ hn
  unfold pxL Own.lies
  rw [List.length_append, lpCs_app hv, List.flatten_append]
  simpa using ho
/-- A loop's cells. -/
theorem pxL_at {w : World} {B : Nat} {v : Value} {L : List Lp} {vs : List Value} {R : List Own} (h : Owns w B (pxL v L vs :: R)) (hv : vs.length = L.length) {j : Nat} {l : Lp} (hj : L[j]? = some l) :
    ∃ g c u, v = .slice (some ⟨g, 0, none⟩) L.length c ∧ vs[j]? = some u ∧ w.cell? ⟨g, j * 4, none⟩ = some (.int .i64 l.row) ∧ w.cell? ⟨g, j * 4 + 1, none⟩ = some (.int .i64 l.cell) ∧ w.cell? ⟨g, j * 4 + 2, none⟩ = some u ∧ w.cell? ⟨g, j * 4 + 3, none⟩ = some (.bool l.purl) := by
  have h0 : w.ownsRow B 49 4 v L.length (lpCs L vs).flatten := h.head
  have hl := (List.getElem?_eq_some_iff.1 hj).1
  have hu : vs[j]? = some (vs[j]'(by omega)) := List.getElem?_eq_getElem (by omega)
  rcases h0.2 with ⟨-, e⟩ | ⟨g, cap, cur, hvv, hg, hh, -⟩
  · omega
  · have hc : (lpCs L vs)[j]? = some (lpC l (vs[j]'(by omega))) := by
      unfold lpCs
      rw [List.getElem?_zipWith, hj, hu]
    subst hvv
    have hx : ∀ i x, (lpC l (vs[j]'(by omega)))[i]? = some x → w.cell? ⟨g, j * 4 + i, none⟩ = some x := fun i x hi => by
      have h4 := flat_at (lpCs_four L vs) hc hi
      have h5 := (List.getElem?_eq_some_iff.1 h4).1
      rw [flat_len (lpCs_four L vs), lpCs_len hv] at h5
      exact (h0.cellAt _ h5).trans h4
    exact ⟨g, cap, _, rfl, hu, hx 0 _ rfl, hx 1 _ rfl, hx 2 _ rfl, hx 3 _ rfl⟩
/-- A loop's parents. -/
theorem parO_at {L : List Lp} {vs : List Value} {j : Nat} {l : Lp} {u : Value} (hj : L[j]? = some l) (hu : vs[j]? = some u) : pxJ u l.par ∈ parO L vs := by
  refine List.mem_of_getElem? (i := j) ?_
  unfold parO
  rw [List.getElem?_zipWith, hj, hu]
/-- A row of numbers grows by several. -/
theorem pxJ_apps {w : World} {B c : Nat} {a : Option Addr} {l : List Int} {L : List Own} (h : Owns w B (pxJ (.slice a l.length c) l :: L)) (hB : B ≤ w.heap.size) (hl : l.length ≤ 100000) (A2 : Option Addr) (c2 : Nat) (l2 : List Int) (hl2 : l2.length ≤ 100000) (h2 : SlI w w.heap.size A2 l2) (hne : A2 = none → l2.length = 0) :
    ∃ A' c' w', (Builtin.append_ #[43, 43] 43 #[.slice a l.length c, .slice A2 l2.length c2]).run Tryz.prog w = .ok (.slice A' (l.length + l2.length) c') w' ∧ Owns w' B (pxJ (.slice A' (l.length + l2.length) c') (l ++ l2) :: L) ∧ Below B w w' ∧ w.grownBy w' (Value.slice a l.length c).ownBlock := by
  obtain ⟨ii, hii, hii0, hii1, hii2⟩ := info_parts info_int'
  have h0 : w.ownsRow B 3 1 (.slice a l.length c) l.length (l.map (Value.int .i64)) := h.head
  obtain ⟨A', c', w', hr, ho, hg, hn⟩ := run_app_any Tryz.underlying43 hii hii0 hii1 hii2 rfl (by decide) h0 A2 l2.length c2 (l2.map (Value.int .i64)) (by rw [List.length_map, Nat.mul_one]) hne (fun ad e j u hu => by
    rw [List.getElem?_map] at hu
    cases hz : l2[j]? with
    | none => rw [hz] at hu; cases hu
    | some z =>
      rw [hz] at hu
      simp only [Option.map_some, Option.some.injEq] at hu
      subst hu
      obtain ⟨b, off, eA, -, hc⟩ := h2 (fun e => by subst e; simp at hz)
      rw [e] at eA
      cases eA
      rw [addr_plus]
      exact hc j z hz) (fun u hu => by
    obtain ⟨z, -, rfl⟩ := List.mem_map.1 hu
    rfl) (by unfold maxLen; omega) (by omega) hB
  refine ⟨A', c', w', hr, ?_, Below.of_grown hg hB (fun k e => (World.ownsRow.lt h0 k e).1), hg⟩
  refine h.turn (o' := pxJ (.slice A' (l.length + l2.length) c') (l ++ l2)) hg ?_ hn
  unfold pxJ Own.lies
  rw [List.length_append, List.map_append]
  exact ho
/-! The reference's piece: a box of four slices, its rows, the parents of its loops. -/
abbrev pcO (pb : Nat) (vL vB vC vR : Value) : Own := bxT 46 pb [vL, vB, vC, vR]
structure PcA (B pb : Nat) (t : Pw) (vL vB vC vR : Value) (vs : List Value) (X : List Own) (W : World) : Prop where
  own : Owns W B (pcO pb vL vB vC vR :: pxL vL t.lp vs :: pxJ vB t.bound :: pxP vC t.cross :: pxJ vR t.rows :: (parO t.lp vs ++ X))
  vl : vs.length = t.lp.length
def PcE (B pb : Nat) (t : Pw) (X : List Own) (W : World) : Prop := ∃ vL vB vC vR vs, PcA B pb t vL vB vC vR vs X W
section
variable {B pb : Nat} {t : Pw} {vL vB vC vR : Value} {vs : List Value} {X : List Own} {W : World}
theorem PcA.to (h : PcA B pb t vL vB vC vR vs X W) {W' : World} (hb : Below W.heap.size W W') : PcA B pb t vL vB vC vR vs X W' := ⟨h.own.to hb, h.vl⟩
theorem PcE.to (h : PcE B pb t X W) {W' : World} (hb : Below W.heap.size W W') : PcE B pb t X W' := by
  obtain ⟨vL, vB, vC, vR, vs, h⟩ := h
  exact ⟨vL, vB, vC, vR, vs, h.to hb⟩
theorem PcA.lift (h : PcA B pb t vL vB vC vR vs X W) {X' : List Own} (hs : X'.Sublist X) : PcA B pb t vL vB vC vR vs X' W :=
  ⟨h.own.sub (List.Sublist.cons_cons _ (List.Sublist.cons_cons _ (List.Sublist.cons_cons _ (List.Sublist.cons_cons _ (List.Sublist.cons_cons _ ((List.append_sublist_append_left _).2 hs)))))), h.vl⟩
theorem PcE.lift (h : PcE B pb t X W) {X' : List Own} (hs : X'.Sublist X) : PcE B pb t X' W := by
  obtain ⟨vL, vB, vC, vR, vs, h⟩ := h
  exact ⟨vL, vB, vC, vR, vs, h.lift hs⟩
theorem PcA.forms (h : PcA B pb t vL vB vC vR vs X W) : (∃ a c, vL = .slice a t.lp.length c) ∧ (∃ a c, vB = .slice a t.bound.length c) ∧ (∃ a c, vC = .slice a t.cross.length c) ∧ ∃ a c, vR = .slice a t.rows.length c :=
  ⟨pxL_form h.own.tail, pxJ_form h.own.tail.tail, pxP_form h.own.tail.tail.tail, pxJ_form h.own.tail.tail.tail.tail⟩
theorem PcA.cells (h : PcA B pb t vL vB vC vR vs X W) : W.cell? ⟨pb, 0, none⟩ = some vL ∧ W.cell? ⟨pb, 1, none⟩ = some vB ∧ W.cell? ⟨pb, 2, none⟩ = some vC ∧ W.cell? ⟨pb, 3, none⟩ = some vR ∧ (∀ k, W.frozen? ⟨pb, k, none⟩ = false) ∧ B ≤ pb ∧ pb < W.heap.size := by
  obtain ⟨h1, h2, h3, h4⟩ := bxT_at h.own.head
  exact ⟨h1 0 _ rfl, h1 1 _ rfl, h1 2 _ rfl, h1 3 _ rfl, h2, h3, h4⟩
/-- A row beside the piece, brought to the front, turned and laid back. -/
theorem PcA.perm (h : PcA B pb t vL vB vC vR vs X W) {X' : List Own} (hp : X.Perm X') : PcA B pb t vL vB vC vR vs X' W :=
  ⟨h.own.perm (List.Perm.cons _ (List.Perm.cons _ (List.Perm.cons _ (List.Perm.cons _ (List.Perm.cons _ (hp.append_left _)))))), h.vl⟩
theorem PcE.perm (h : PcE B pb t X W) {X' : List Own} (hp : X.Perm X') : PcE B pb t X' W := by
  obtain ⟨vL, vB, vC, vR, vs, h⟩ := h
  exact ⟨vL, vB, vC, vR, vs, h.perm hp⟩
/-- The list of rows with one of X at the front. -/
theorem PcA.front {o : Own} (h : PcA B pb t vL vB vC vR vs (o :: X) W) : Owns W B (o :: pcO pb vL vB vC vR :: pxL vL t.lp vs :: pxJ vB t.bound :: pxP vC t.cross :: pxJ vR t.rows :: (parO t.lp vs ++ X)) := by
  refine h.own.perm ?_
  have h1 : (parO t.lp vs ++ o :: X).Perm (o :: (parO t.lp vs ++ X)) := List.perm_middle
  refine (List.Perm.cons _ (List.Perm.cons _ (List.Perm.cons _ (List.Perm.cons _ (List.Perm.cons _ h1))))).trans ?_
  refine (List.Perm.cons _ (List.Perm.cons _ (List.Perm.cons _ (List.Perm.cons _ (List.Perm.swap _ _ _))))).trans ?_
  refine (List.Perm.cons _ (List.Perm.cons _ (List.Perm.cons _ (List.Perm.swap _ _ _)))).trans ?_
  refine (List.Perm.cons _ (List.Perm.cons _ (List.Perm.swap _ _ _))).trans ?_
  exact (List.Perm.cons _ (List.Perm.swap _ _ _)).trans (List.Perm.swap _ _ _)
theorem PcA.back {o : Own} (h : Owns W B (o :: pcO pb vL vB vC vR :: pxL vL t.lp vs :: pxJ vB t.bound :: pxP vC t.cross :: pxJ vR t.rows :: (parO t.lp vs ++ X))) (hv : vs.length = t.lp.length) : PcA B pb t vL vB vC vR vs (o :: X) W := by
  refine ⟨h.perm ?_, hv⟩
  have h1 : (o :: (parO t.lp vs ++ X)).Perm (parO t.lp vs ++ o :: X) := List.perm_middle.symm
  refine ((List.Perm.swap _ _ _).trans (List.Perm.cons _ (List.Perm.swap _ _ _))).trans ?_
  refine (List.Perm.cons _ (List.Perm.cons _ (List.Perm.swap _ _ _))).trans ?_
  refine (List.Perm.cons _ (List.Perm.cons _ (List.Perm.cons _ (List.Perm.swap _ _ _)))).trans ?_
  refine (List.Perm.cons _ (List.Perm.cons _ (List.Perm.cons _ (List.Perm.cons _ (List.Perm.swap _ _ _))))).trans ?_
  exact List.Perm.cons _ (List.Perm.cons _ (List.Perm.cons _ (List.Perm.cons _ (List.Perm.cons _ h1))))
/-- A new row beside the piece. -/
theorem PcA.add {o : Own} {W' : World} (h : PcA B pb t vL vB vC vR vs X W) (hb : Below W.heap.size W W') (hB : B ≤ W.heap.size) (ho : o.lies W' W.heap.size) : PcA B pb t vL vB vC vR vs (o :: X) W' :=
  PcA.back (h.own.add hb hB ho) h.vl
theorem PcA.nil (h : PcA B pb t vL vB vC vR vs X W) : PcA B pb t vL vB vC vR vs (pxJ (.slice none 0 0) [] :: X) W := PcA.back (h.own.none 3 1) h.vl
/-- p.Loops = append(p.Loops, ..): the parents come out of the rows beside the piece. -/
theorem PcA.push {a : Option Addr} {c : Nat} {pa : Option Addr} {pc : Nat} {l : Lp} (h : PcA B pb t (.slice a t.lp.length c) vB vC vR vs (pxJ (.slice pa l.par.length pc) l.par :: X) W) (hB : B ≤ W.heap.size) (hl : t.lp.length ≤ 100000) :
    ∃ A' c' w', (Builtin.append_ #[32, 32] 32 #[.slice a t.lp.length c, .slice (some ⟨W.heap.size, 0, none⟩) 1 1]).run Tryz.prog (W.alloc (lpB l (.slice pa l.par.length pc))) = .ok (.slice A' (t.lp.length + 1) c') w' ∧
      (∀ k, w'.frozen? ⟨pb, k, none⟩ = false) ∧ w'.cell? ⟨pb, 0, none⟩ = some (.slice a t.lp.length c) ∧
      PcA B pb ⟨t.lp ++ [l], t.bound, t.cross, t.rows, t.next⟩ (.slice A' (t.lp.length + 1) c') vB vC vR (vs ++ [.slice pa l.par.length pc]) X (w'.setCell ⟨pb, 0, none⟩ (.slice A' (t.lp.length + 1) c')) ∧
      Below B W (w'.setCell ⟨pb, 0, none⟩ (.slice A' (t.lp.length + 1) c')) := by
  obtain ⟨A', c', w', hr, ho, hb⟩ := pxL_app h.own.swap h.vl hB hl l pa l.par.length pc
  have ho' := ho.swap
  obtain ⟨g1, g2, -⟩ := bxT_at ho'.head
  refine ⟨A', c', w', hr, g2, g1 0 _ rfl, ⟨?_, by rw [List.length_append, List.length_append, h.vl]; rfl⟩, hb.trans (bxT_below ho' (Nat.le_trans hB hb.size) 0 _)⟩
  have := bxT_set ho' 0 (.slice A' (t.lp.length + 1) c')
  simp only [parO_app h.vl, List.append_assoc]
  exact this
/-- p.Cross = append(p.Cross, pair). -/
theorem PcA.pushX {a : Option Addr} {c : Nat} (h : PcA B pb t vL vB (.slice a t.cross.length c) vR vs X W) (hB : B ≤ W.heap.size) (hl : t.cross.length ≤ 100000) (p : Int × Int) :
    ∃ A' c' w', (Builtin.append_ #[44, 44] 44 #[.slice a t.cross.length c, .slice (some ⟨W.heap.size, 0, none⟩) 1 1]).run Tryz.prog (W.alloc (prB p)) = .ok (.slice A' (t.cross.length + 1) c') w' ∧
      (∀ k, w'.frozen? ⟨pb, k, none⟩ = false) ∧ w'.cell? ⟨pb, 2, none⟩ = some (.slice a t.cross.length c) ∧
      PcA B pb ⟨t.lp, t.bound, t.cross ++ [p], t.rows, t.next⟩ vL vB (.slice A' (t.cross.length + 1) c') vR vs X (w'.setCell ⟨pb, 2, none⟩ (.slice A' (t.cross.length + 1) c')) ∧
      Below B W (w'.setCell ⟨pb, 2, none⟩ (.slice A' (t.cross.length + 1) c')) := by
  have hp : Owns W B (pxP (.slice a t.cross.length c) t.cross :: pcO pb vL vB (.slice a t.cross.length c) vR :: pxL vL t.lp vs :: pxJ vB t.bound :: pxJ vR t.rows :: (parO t.lp vs ++ X)) := by
    refine h.own.perm ?_
    refine (List.Perm.cons _ (List.Perm.cons _ (List.Perm.swap _ _ _))).trans ?_
    exact (List.Perm.cons _ (List.Perm.swap _ _ _)).trans (List.Perm.swap _ _ _)
  obtain ⟨A', c', w', hr, ho, hb⟩ := pxP_app hp hB hl p
  have ho' := ho.swap
  obtain ⟨g1, g2, -⟩ := bxT_at ho'.head
  refine ⟨A', c', w', hr, g2, g1 2 _ rfl, ⟨?_, h.vl⟩, hb.trans (bxT_below ho' (Nat.le_trans hB hb.size) 2 _)⟩
  refine (bxT_set ho' 2 (.slice A' (t.cross.length + 1) c')).perm (List.Perm.cons _ ?_)
  exact (List.Perm.swap _ _ _).trans (List.Perm.cons _ (List.Perm.swap _ _ _))
/-- p.Bound = append(p.Bound, ..). -/
theorem PcA.pushB {a : Option Addr} {c : Nat} (h : PcA B pb t vL (.slice a t.bound.length c) vC vR vs X W) (hB : B ≤ W.heap.size) (hl : t.bound.length ≤ 100000) (A2 : Option Addr) (c2 : Nat) (l2 : List Int) (hl2 : l2.length ≤ 100000) (h2 : SlI W W.heap.size A2 l2) (hne : A2 = none → l2.length = 0) :
    ∃ A' c' w', (Builtin.append_ #[43, 43] 43 #[.slice a t.bound.length c, .slice A2 l2.length c2]).run Tryz.prog W = .ok (.slice A' (t.bound.length + l2.length) c') w' ∧
      (∀ k, w'.frozen? ⟨pb, k, none⟩ = false) ∧ w'.cell? ⟨pb, 1, none⟩ = some (.slice a t.bound.length c) ∧
      PcA B pb ⟨t.lp, t.bound ++ l2, t.cross, t.rows, t.next⟩ vL (.slice A' (t.bound.length + l2.length) c') vC vR vs X (w'.setCell ⟨pb, 1, none⟩ (.slice A' (t.bound.length + l2.length) c')) ∧
      Below B W (w'.setCell ⟨pb, 1, none⟩ (.slice A' (t.bound.length + l2.length) c')) := by
  have hp : Owns W B (pxJ (.slice a t.bound.length c) t.bound :: pcO pb vL (.slice a t.bound.length c) vC vR :: pxL vL t.lp vs :: pxP vC t.cross :: pxJ vR t.rows :: (parO t.lp vs ++ X)) := by
    refine h.own.perm ?_
    exact (List.Perm.cons _ (List.Perm.swap _ _ _)).trans (List.Perm.swap _ _ _)
  obtain ⟨A', c', w', hr, ho, hb, -⟩ := pxJ_apps hp hB hl A2 c2 l2 hl2 h2 hne
  have ho' := ho.swap
  obtain ⟨g1, g2, -⟩ := bxT_at ho'.head
  refine ⟨A', c', w', hr, g2, g1 1 _ rfl, ⟨?_, h.vl⟩, hb.trans (bxT_below ho' (Nat.le_trans hB hb.size) 1 _)⟩
  exact (bxT_set ho' 1 (.slice A' (t.bound.length + l2.length) c')).perm (List.Perm.cons _ (List.Perm.swap _ _ _))
/-- A row beside the piece grows by one number. -/
theorem PcE.grow {a : Option Addr} {c : Nat} {l : List Int} (h : PcE B pb t (pxJ (.slice a l.length c) l :: X) W) (hB : B ≤ W.heap.size) (hl : l.length ≤ 100000) (x : Int) :
    ∃ A' c' w', (Builtin.append_ #[43, 43] 43 #[.slice a l.length c, .slice (some ⟨W.heap.size, 0, none⟩) 1 1]).run Tryz.prog (W.alloc (.cells #[.int .i64 x] 3)) = .ok (.slice A' (l.length + 1) c') w' ∧ PcE B pb t (pxJ (.slice A' (l.length + 1) c') (l ++ [x]) :: X) w' ∧ Below B W w' := by
  obtain ⟨vL, vB, vC, vR, vs, h⟩ := h
  obtain ⟨A', c', w', hr, ho, hb⟩ := pxJ_app h.front hB hl x
  exact ⟨A', c', w', hr, ⟨vL, vB, vC, vR, vs, PcA.back ho h.vl⟩, hb⟩
/-- p.Rows = append(p.Rows, x). -/
theorem PcA.pushR {a : Option Addr} {c : Nat} (h : PcA B pb t vL vB vC (.slice a t.rows.length c) vs X W) (hB : B ≤ W.heap.size) (hl : t.rows.length ≤ 100000) (x : Int) :
    ∃ A' c' w', (Builtin.append_ #[43, 43] 43 #[.slice a t.rows.length c, .slice (some ⟨W.heap.size, 0, none⟩) 1 1]).run Tryz.prog (W.alloc (.cells #[.int .i64 x] 3)) = .ok (.slice A' (t.rows.length + 1) c') w' ∧
      (∀ k, w'.frozen? ⟨pb, k, none⟩ = false) ∧ w'.cell? ⟨pb, 3, none⟩ = some (.slice a t.rows.length c) ∧
      PcA B pb ⟨t.lp, t.bound, t.cross, t.rows ++ [x], t.next⟩ vL vB vC (.slice A' (t.rows.length + 1) c') vs X (w'.setCell ⟨pb, 3, none⟩ (.slice A' (t.rows.length + 1) c')) ∧
      Below B W (w'.setCell ⟨pb, 3, none⟩ (.slice A' (t.rows.length + 1) c')) := by
  have hp : Owns W B (pxJ (.slice a t.rows.length c) t.rows :: pcO pb vL vB vC (.slice a t.rows.length c) :: pxL vL t.lp vs :: pxJ vB t.bound :: pxP vC t.cross :: (parO t.lp vs ++ X)) := by
    refine h.own.perm ?_
    refine (List.Perm.cons _ (List.Perm.cons _ (List.Perm.cons _ (List.Perm.swap _ _ _)))).trans ?_
    refine (List.Perm.cons _ (List.Perm.cons _ (List.Perm.swap _ _ _))).trans ?_
    exact (List.Perm.cons _ (List.Perm.swap _ _ _)).trans (List.Perm.swap _ _ _)
  obtain ⟨A', c', w', hr, ho, hb⟩ := pxJ_app hp hB hl x
  have ho' := ho.swap
  obtain ⟨g1, g2, -⟩ := bxT_at ho'.head
  refine ⟨A', c', w', hr, g2, g1 3 _ rfl, ⟨?_, h.vl⟩, hb.trans (bxT_below ho' (Nat.le_trans hB hb.size) 3 _)⟩
  refine (bxT_set ho' 3 (.slice A' (t.rows.length + 1) c')).perm (List.Perm.cons _ ?_)
  refine (List.Perm.swap _ _ _).trans (List.Perm.cons _ ?_)
  exact (List.Perm.swap _ _ _).trans (List.Perm.cons _ (List.Perm.swap _ _ _))
end
end Go.Proofs.YtbnddpknejgmhaaGreat
namespace Go.Proofs.YtbnddpknejgmhaaGreat
open Go.RowKit Go.Shelf Go.Sort
set_option maxRecDepth 100000

theorem PcE.mem {B pb : Nat} {t : Pw} {X : List Own} {W : World} (h : PcE B pb t X W) {o : Own} (ho : o ∈ X) : o.lies W B := by
  obtain ⟨vL, vB, vC, vR, vs, h⟩ := h
  exact h.own.all o (by simp only [List.mem_cons, List.mem_append]; right; right; right; right; right; right; exact ho)
theorem pxJ_at {w : World} {B : Nat} {v : Value} {l : List Int} (h : (pxJ v l).lies w B) {i n : Nat} {x : Int} (hi : l[i]? = some x) (hn : l.length = n) : ∃ g c, v = .slice (some ⟨g, 0, none⟩) n c ∧ w.cell? ⟨g, i, none⟩ = some (.int .i64 x) := by
  have h0 : w.ownsRow B 3 1 v l.length (l.map (Value.int .i64)) := h
  have h1 := (List.getElem?_eq_some_iff.1 hi).1
  subst hn
  rcases h0.2 with ⟨-, e⟩ | ⟨g, cap, cur, hv, -⟩
  · omega
  · subst hv
    refine ⟨g, cap, rfl, ?_⟩
    rw [h0.cellAt i (by omega), List.getElem?_map, hi]; rfl
theorem pxJ_cell {w : World} {B g n c : Nat} {l : List Int} (h : (pxJ (.slice (some ⟨g, 0, none⟩) n c) l).lies w B) {i : Nat} {x : Int} (hi : l[i]? = some x) (hn : l.length = n) : w.cell? ⟨g, i, none⟩ = some (.int .i64 x) := by
  obtain ⟨g', c', e, hc⟩ := pxJ_at h hi hn
  cases e
  exact hc
theorem pxJ_is {w : World} {B n : Nat} {v : Value} {l : List Int} (h : (pxJ v l).lies w B) (hn : l.length = n) : ∃ a c, v = .slice a n c := by
  subst hn
  obtain ⟨a, c, e, -⟩ := own_slice h
  exact ⟨a, c, e⟩
theorem pxJ_lies {w : World} {B n c : Nat} {a : Option Addr} {l : List Int} (h : (pxJ (.slice a n c) l).lies w B) : SlI w w.heap.size a l :=
  pxJ_sl (L := []) ⟨fun o ho => by rw [List.mem_singleton.1 ho]; exact h, List.pairwise_singleton _ _⟩
/-- A literal of numbers. -/
theorem lit_own (w : World) (l : List Int) (h0 : l.length ≤ 100000) : (pxJ (.slice (some ⟨w.heap.size, 0, none⟩) l.length l.length) l).lies (w.alloc (.cells (l.map (Value.int .i64)).toArray 3)) w.heap.size := by
  have e : (w.alloc (.cells (l.map (Value.int .i64)).toArray 3)).heap[w.heap.size]? = some (.cells (l.map (Value.int .i64)).toArray 3 (0, 0)) := Array.getElem?_push_size
  have := own_of_whole (B := w.heap.size) (n := l.length) (c := l.length) (sz := 1) e (Nat.le_refl _) (Nat.le_refl _) (by unfold maxLen; omega) (by simp)
  have e2 : (l.map (Value.int .i64)).toArray.toList.take (l.length * 1) = l.map (Value.int .i64) := by
    rw [List.take_of_length_le]
    simp
  rw [e2] at this
  exact this
set_option maxHeartbeats 1000000 in
theorem rput_any (B pb : Nat) (t : Pw) (row cell : Int) (pa : Option Addr) (pc n : Nat) (par : List Int) (hn : n = par.length) (purl : Bool) (X : List Own) (w : World) (h : PcE B pb t (pxJ (.slice pa par.length pc) par :: X) w) (hB : B ≤ w.heap.size) (hl : t.lp.length ≤ 100000) :
    Calls Tryz.prog 35 #[.pointer (some ⟨pb, 0, none⟩), .int .i64 row, .int .i64 cell, .slice pa n pc, .bool purl] w fun e w' =>
      e = .returned (.tuple #[]) ∧ PcE B pb ⟨t.lp ++ [⟨row, cell, par, purl⟩], t.bound, t.cross, t.rows, t.next⟩ X w' ∧ Below B w w' := by
  obtain ⟨vL, vB, vC, vR, vs, h⟩ := h
  obtain ⟨a, c, rfl⟩ := h.forms.1
  obtain ⟨c0, -⟩ := h.cells
  obtain ⟨A', c', w', hr, hf, c0', hP, hb⟩ := h.push (l := ⟨row, cell, par, purl⟩) hB hl
  simp only [← hn] at hr hP
  have HP := Lib.hid (And.intro hP hb)
  obtain ⟨m, hm⟩ : ∃ m, m = t.lp.length := ⟨_, rfl⟩
  rw [← hm] at hr c0 c0' HP hl
  clear h hP hb hn hm
  go_enter Tryz.func35, Tryz.ntmps35
  go_wp2_with (at_builtin; refine wpList_append_run _ rfl _ _ _ _ rfl _ _ (by rfl) (by rfl) hr ?_)
  refine bodyPost_end (results_none rfl _ _ _) rfl ?_
  exact ⟨rfl, ⟨_, _, _, _, _, HP.out.1⟩, HP.out.2⟩
end Go.Proofs.YtbnddpknejgmhaaGreat
