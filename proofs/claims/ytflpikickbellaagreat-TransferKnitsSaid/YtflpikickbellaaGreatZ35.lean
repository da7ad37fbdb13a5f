/- Layer 27. -/
import Derived.Test.YtflpikickbellaaGreatZ34
namespace Go.Proofs.YtflpikickbellaaGreat
open Go.RowKit Go.Shelf Go.Sort
set_option maxRecDepth 100000
theorem info_lpT : (Tryz.prog.info? 68).map (fun i => (i.zero, i.size, i.bytes)) = some (some (.agg #[.int .i64 0, .int .i64 0, .slice none 0 0, .bool false]), 4, 48) := by kernel_rfl
def bxT (T : TypeId) (pb : Nat) (vals : List Value) : Own := ⟨T, vals.length, 1, .slice (some ⟨pb, 0, none⟩) 1 1, vals⟩
theorem bxT_at {w : World} {B pb : Nat} {T : TypeId} {vals : List Value} (h : (bxT T pb vals).lies w B) : (∀ k v, vals[k]? = some v → w.cell? ⟨pb, k, none⟩ = some v) ∧ (∀ k, w.frozen? ⟨pb, k, none⟩ = false) ∧ B ≤ pb ∧ pb < w.heap.size := by
 have h0 : w.ownsRow B T vals.length (.slice (some ⟨pb, 0, none⟩) 1 1) 1 vals := h
 obtain ⟨h1, h2⟩ := World.ownsRow.lt h0 pb rfl
 exact ⟨fun k v hk => by rw [h0.cellAt k (by rw [Nat.one_mul]; exact (List.getElem?_eq_some_iff.1 hk).1)]; exact hk, fun k => h0.frozenAt k, h1, h2⟩
theorem bxT_set {w : World} {B pb : Nat} {T : TypeId} {vals : List Value} {L : List Own} (h : Owns w B (bxT T pb vals :: L)) (k : Nat) (y : Value) : Owns (w.setCell ⟨pb, k, none⟩ y) B (bxT T pb (vals.set k y) :: L) := by
 have h0 : w.ownsRow B T vals.length (.slice (some ⟨pb, 0, none⟩) 1 1) 1 vals := h.head
 obtain ⟨h1, h2⟩ := World.ownsRow.stored h0 k y
 refine h.turn (o' := bxT T pb (vals.set k y)) h2 ?_ (fun k hk => Or.inl hk)
 unfold bxT Own.lies
 rw [List.length_set]
 exact h1
theorem bxT_below {w : World} {B pb : Nat} {T : TypeId} {vals : List Value} {L : List Own} (h : Owns w B (bxT T pb vals :: L)) (hB : B ≤ w.heap.size) (k : Nat) (y : Value) : Below B w (w.setCell ⟨pb, k, none⟩ y) :=
 Below.of_grown (grown_setAt w pb k y) hB (fun k e => by cases e; exact (bxT_at h.head).2.2.1)
theorem bxT_new (w : World) (T : TypeId) (vals : List Value) : (bxT T w.heap.size vals).lies (w.alloc (.cells vals.toArray T)) w.heap.size := box_new w T vals rfl
abbrev lpC (l : Lp) (v : Value) : List Value := [.int .i64 l.row, .int .i64 l.cell, v, .bool l.purl]
abbrev lpB (l : Lp) (v : Value) : Obj := .cells #[.int .i64 l.row, .int .i64 l.cell, v, .bool l.purl] 68
def lpCs (L : List Lp) (vs : List Value) : List (List Value) := List.zipWith lpC L vs
theorem lpCs_four (L : List Lp) (vs : List Value) : ∀ cs ∈ lpCs L vs, cs.length = 4 := fun cs h => by
 unfold lpCs at h
 rw [← List.map_uncurry_zip_eq_zipWith] at h
 obtain ⟨p, -, rfl⟩ := List.mem_map.1 h
 rfl
theorem lpCs_len {L : List Lp} {vs : List Value} (h : vs.length = L.length) : (lpCs L vs).length = L.length := by unfold lpCs; rw [List.length_zipWith, h, Nat.min_self]
theorem lpCs_app {L : List Lp} {vs : List Value} (h : vs.length = L.length) (l : Lp) (v : Value) : lpCs (L ++ [l]) (vs ++ [v]) = lpCs L vs ++ [lpC l v] := by unfold lpCs; rw [List.zipWith_append h.symm]; rfl
def pxL (v : Value) (L : List Lp) (vs : List Value) : Own := ⟨68, 4, L.length, v, (lpCs L vs).flatten⟩
def parO (L : List Lp) (vs : List Value) : List Own := List.zipWith (fun l v => pxJ v l.par) L vs
theorem parO_app {L : List Lp} {vs : List Value} (h : vs.length = L.length) (l : Lp) (v : Value) : parO (L ++ [l]) (vs ++ [v]) = parO L vs ++ [pxJ v l.par] := by unfold parO; rw [List.zipWith_append h.symm]; rfl
theorem pxL_form {w : World} {B : Nat} {v : Value} {L : List Lp} {vs : List Value} {R : List Own} (h : Owns w B (pxL v L vs :: R)) : ∃ a c, v = .slice a L.length c := by
 obtain ⟨a, c, e, -⟩ := own_slice h.head
 exact ⟨a, c, e⟩
theorem pxL_app {w : World} {B c : Nat} {a : Option Addr} {L : List Lp} {vs : List Value} {R : List Own} (h : Owns w B (pxL (.slice a L.length c) L vs :: R)) (hv : vs.length = L.length) (hB : B ≤ w.heap.size) (hl : L.length ≤ 100000) (l : Lp) (pa : Option Addr) (pn pc : Nat) :
 ∃ A' c' w', (Builtin.append_ #[54, 54] 54 #[.slice a L.length c, .slice (some ⟨w.heap.size, 0, none⟩) 1 1]).run Tryz.prog (w.alloc (lpB l (.slice pa pn pc))) = .ok (.slice A' (L.length + 1) c') w' ∧ Owns w' B (pxL (.slice A' (L.length + 1) c') (L ++ [l]) (vs ++ [.slice pa pn pc]) :: R) ∧ Below B w w' := by
 obtain ⟨ii, hii, hii0, hii1, hii2⟩ := info_parts info_lpT
 have hal := al_t w (lpB l (.slice pa pn pc))
 have h9 := h.to hal
 have h0 : (w.alloc (lpB l (.slice pa pn pc))).ownsRow B 68 4 (.slice a L.length c) L.length (lpCs L vs).flatten := h9.head
 have hsz := hal.size
 have hnew : ∀ j u, (lpC l (.slice pa pn pc))[j]? = some u → (w.alloc (lpB l (.slice pa pn pc))).cell? ((⟨w.heap.size, 0, none⟩ : Addr).add j) = some u := newsT w _ _ _ rfl
 obtain ⟨A', c', w', hr, ho, hg, hn⟩ := run_app_any Tryz.underlying54 hii hii0 hii1 hii2 rfl (by decide) h0 (some ⟨w.heap.size, 0, none⟩) 1 1 (lpC l (.slice pa pn pc)) rfl (fun e => by cases e) (fun ad e => by cases e; exact hnew) (fun u hu => by
  simp only [List.mem_cons, List.not_mem_nil, or_false] at hu
  rcases hu with rfl | rfl | rfl | rfl <;> rfl) (by unfold maxLen; omega) (by omega) (by omega)
 refine ⟨A', c', w', hr, ?_, (hal.mono hB).trans (Below.of_grown hg (by omega) (fun k e => (World.ownsRow.lt h0 k e).1))⟩
 refine h9.turn (o' := pxL (.slice A' (L.length + 1) c') (L ++ [l]) (vs ++ [.slice pa pn pc])) hg ?_ hn
 unfold pxL Own.lies
 rw [List.length_append, lpCs_app hv, List.flatten_append]
 simpa using ho
theorem pxL_at {w : World} {B : Nat} {v : Value} {L : List Lp} {vs : List Value} {R : List Own} (h : Owns w B (pxL v L vs :: R)) (hv : vs.length = L.length) {j : Nat} {l : Lp} (hj : L[j]? = some l) :
 ∃ g c u, v = .slice (some ⟨g, 0, none⟩) L.length c ∧ vs[j]? = some u ∧ w.cell? ⟨g, j * 4, none⟩ = some (.int .i64 l.row) ∧ w.cell? ⟨g, j * 4 + 1, none⟩ = some (.int .i64 l.cell) ∧ w.cell? ⟨g, j * 4 + 2, none⟩ = some u ∧ w.cell? ⟨g, j * 4 + 3, none⟩ = some (.bool l.purl) := by
 have h0 : w.ownsRow B 68 4 v L.length (lpCs L vs).flatten := h.head
 have hl := (List.getElem?_eq_some_iff.1 hj).1
 have hu : vs[j]? = some (vs[j]'(by omega)) := List.getElem?_eq_getElem (by omega)
 rcases h0.2 with ⟨-, e⟩ | ⟨g, cap, cur, hvv, hg, hh, -⟩
 · omega
 · have hc : (lpCs L vs)[j]? = some (lpC l (vs[j]'(by omega))) := by
    unfold lpCs
    rw [List.getElem?_zipWith, hj, hu]
   subst hvv
   have hx : ∀ i x, (lpC l (vs[j]'(by omega)))[i]? = some x → w.cell? ⟨g, j * 4 + i, none⟩ = some x := fun i x hi => by
    have h4 := flat_at (lpCs_four L vs) hc hi
    have h5 := (List.getElem?_eq_some_iff.1 h4).1
    rw [flat_len (lpCs_four L vs), lpCs_len hv] at h5
    exact (h0.cellAt _ h5).trans h4
   exact ⟨g, cap, _, rfl, hu, hx 0 _ rfl, hx 1 _ rfl, hx 2 _ rfl, hx 3 _ rfl⟩
theorem parO_at {L : List Lp} {vs : List Value} {j : Nat} {l : Lp} {u : Value} (hj : L[j]? = some l) (hu : vs[j]? = some u) : pxJ u l.par ∈ parO L vs := by
 refine List.mem_of_getElem? (i := j) ?_
 unfold parO
 rw [List.getElem?_zipWith, hj, hu]
section
variable {B pb : Nat} {t : Pw} {vL vB vC vR : Value} {vs : List Value} {X : List Own} {W : World}
end
theorem pxJ_at {w : World} {B : Nat} {v : Value} {l : List Int} (h : (pxJ v l).lies w B) {i n : Nat} {x : Int} (hi : l[i]? = some x) (hn : l.length = n) : ∃ g c, v = .slice (some ⟨g, 0, none⟩) n c ∧ w.cell? ⟨g, i, none⟩ = some (.int .i64 x) := by
 have h0 : w.ownsRow B 3 1 v l.length (l.map (Value.int .i64)) := h
 have h1 := (List.getElem?_eq_some_iff.1 hi).1
 subst hn
 rcases h0.2 with ⟨-, e⟩ | ⟨g, cap, cur, hv, -⟩
 · omega
 · subst hv
   refine ⟨g, cap, rfl, ?_⟩
   rw [h0.cellAt i (by omega), List.getElem?_map, hi]; rfl
theorem pxJ_is {w : World} {B n : Nat} {v : Value} {l : List Int} (h : (pxJ v l).lies w B) (hn : l.length = n) : ∃ a c, v = .slice a n c := by
 subst hn
 obtain ⟨a, c, e, -⟩ := own_slice h
 exact ⟨a, c, e⟩
theorem pxJ_lies {w : World} {B n c : Nat} {a : Option Addr} {l : List Int} (h : (pxJ (.slice a n c) l).lies w B) : SlI w w.heap.size a l :=
 pxJ_sl (L := []) ⟨fun o ho => by rw [List.mem_singleton.1 ho]; exact h, List.pairwise_singleton _ _⟩
theorem lit_own (w : World) (l : List Int) (h0 : l.length ≤ 100000) : (pxJ (.slice (some ⟨w.heap.size, 0, none⟩) l.length l.length) l).lies (w.alloc (.cells (l.map (Value.int .i64)).toArray 3)) w.heap.size := by
 have e : (w.alloc (.cells (l.map (Value.int .i64)).toArray 3)).heap[w.heap.size]? = some (.cells (l.map (Value.int .i64)).toArray 3 (0, 0)) := Array.getElem?_push_size
 have := own_of_whole (B := w.heap.size) (n := l.length) (c := l.length) (sz := 1) e (Nat.le_refl _) (Nat.le_refl _) (by unfold maxLen; omega) (by simp)
 have e2 : (l.map (Value.int .i64)).toArray.toList.take (l.length * 1) = l.map (Value.int .i64) := by
  rw [List.take_of_length_le]
  simp
 rw [e2] at this
 exact this
abbrev qcO (pb : Nat) (vL vB vC vR : Value) (n : Nat) : Own := bxT 101 pb [vL, vR, vB, vC, .int .i64 (n : Int)]
structure QcA (B pb : Nat) (t : Pw) (vL vB vC vR : Value) (vs : List Value) (X : List Own) (W : World) : Prop where
 own : Owns W B (qcO pb vL vB vC vR t.next :: pxL vL t.lp vs :: pxJ vB t.bound :: pxP vC t.cross :: pxJ vR t.rows :: (parO t.lp vs ++ X))
 vl : vs.length = t.lp.length
def QcE (B pb : Nat) (t : Pw) (X : List Own) (W : World) : Prop := ∃ vL vB vC vR vs, QcA B pb t vL vB vC vR vs X W
section
variable {B pb : Nat} {t : Pw} {vL vB vC vR : Value} {vs : List Value} {X : List Own} {W : World}
theorem QcA.to (h : QcA B pb t vL vB vC vR vs X W) {W' : World} (hb : Below W.heap.size W W') : QcA B pb t vL vB vC vR vs X W' := ⟨h.own.to hb, h.vl⟩
theorem QcE.to (h : QcE B pb t X W) {W' : World} (hb : Below W.heap.size W W') : QcE B pb t X W' := by
 obtain ⟨vL, vB, vC, vR, vs, h⟩ := h
 exact ⟨vL, vB, vC, vR, vs, h.to hb⟩
theorem QcA.lift (h : QcA B pb t vL vB vC vR vs X W) {X' : List Own} (hs : X'.Sublist X) : QcA B pb t vL vB vC vR vs X' W :=
 ⟨h.own.sub (List.Sublist.cons_cons _ (List.Sublist.cons_cons _ (List.Sublist.cons_cons _ (List.Sublist.cons_cons _ (List.Sublist.cons_cons _ ((List.append_sublist_append_left _).2 hs)))))), h.vl⟩
theorem QcE.lift (h : QcE B pb t X W) {X' : List Own} (hs : X'.Sublist X) : QcE B pb t X' W := by
 obtain ⟨vL, vB, vC, vR, vs, h⟩ := h
 exact ⟨vL, vB, vC, vR, vs, h.lift hs⟩
theorem QcA.forms (h : QcA B pb t vL vB vC vR vs X W) : (∃ a c, vL = .slice a t.lp.length c) ∧ (∃ a c, vB = .slice a t.bound.length c) ∧ (∃ a c, vC = .slice a t.cross.length c) ∧ ∃ a c, vR = .slice a t.rows.length c :=
 ⟨pxL_form h.own.tail, pxJ_form h.own.tail.tail, pxP_form h.own.tail.tail.tail, pxJ_form h.own.tail.tail.tail.tail⟩
theorem QcA.cells (h : QcA B pb t vL vB vC vR vs X W) : W.cell? ⟨pb, 0, none⟩ = some vL ∧ W.cell? ⟨pb, 1, none⟩ = some vR ∧ W.cell? ⟨pb, 2, none⟩ = some vB ∧ W.cell? ⟨pb, 3, none⟩ = some vC ∧ W.cell? ⟨pb, 4, none⟩ = some (.int .i64 (t.next : Int)) ∧ (∀ k, W.frozen? ⟨pb, k, none⟩ = false) ∧ B ≤ pb ∧ pb < W.heap.size := by
 obtain ⟨h1, h2, h3, h4⟩ := bxT_at h.own.head
 exact ⟨h1 0 _ rfl, h1 1 _ rfl, h1 2 _ rfl, h1 3 _ rfl, h1 4 _ rfl, h2, h3, h4⟩
theorem QcA.perm (h : QcA B pb t vL vB vC vR vs X W) {X' : List Own} (hp : X.Perm X') : QcA B pb t vL vB vC vR vs X' W :=
 ⟨h.own.perm (List.Perm.cons _ (List.Perm.cons _ (List.Perm.cons _ (List.Perm.cons _ (List.Perm.cons _ (hp.append_left _)))))), h.vl⟩
theorem QcE.perm (h : QcE B pb t X W) {X' : List Own} (hp : X.Perm X') : QcE B pb t X' W := by
 obtain ⟨vL, vB, vC, vR, vs, h⟩ := h
 exact ⟨vL, vB, vC, vR, vs, h.perm hp⟩
theorem QcA.front {o : Own} (h : QcA B pb t vL vB vC vR vs (o :: X) W) : Owns W B (o :: qcO pb vL vB vC vR t.next :: pxL vL t.lp vs :: pxJ vB t.bound :: pxP vC t.cross :: pxJ vR t.rows :: (parO t.lp vs ++ X)) := by
 refine h.own.perm ?_
 have h1 : (parO t.lp vs ++ o :: X).Perm (o :: (parO t.lp vs ++ X)) := List.perm_middle
 refine (List.Perm.cons _ (List.Perm.cons _ (List.Perm.cons _ (List.Perm.cons _ (List.Perm.cons _ h1))))).trans ?_
 refine (List.Perm.cons _ (List.Perm.cons _ (List.Perm.cons _ (List.Perm.cons _ (List.Perm.swap _ _ _))))).trans ?_
 refine (List.Perm.cons _ (List.Perm.cons _ (List.Perm.cons _ (List.Perm.swap _ _ _)))).trans ?_
 refine (List.Perm.cons _ (List.Perm.cons _ (List.Perm.swap _ _ _))).trans ?_
 exact (List.Perm.cons _ (List.Perm.swap _ _ _)).trans (List.Perm.swap _ _ _)
theorem QcA.back {o : Own} (h : Owns W B (o :: qcO pb vL vB vC vR t.next :: pxL vL t.lp vs :: pxJ vB t.bound :: pxP vC t.cross :: pxJ vR t.rows :: (parO t.lp vs ++ X))) (hv : vs.length = t.lp.length) : QcA B pb t vL vB vC vR vs (o :: X) W := by
 refine ⟨h.perm ?_, hv⟩
 have h1 : (o :: (parO t.lp vs ++ X)).Perm (parO t.lp vs ++ o :: X) := List.perm_middle.symm
 refine ((List.Perm.swap _ _ _).trans (List.Perm.cons _ (List.Perm.swap _ _ _))).trans ?_
 refine (List.Perm.cons _ (List.Perm.cons _ (List.Perm.swap _ _ _))).trans ?_
 refine (List.Perm.cons _ (List.Perm.cons _ (List.Perm.cons _ (List.Perm.swap _ _ _)))).trans ?_
 refine (List.Perm.cons _ (List.Perm.cons _ (List.Perm.cons _ (List.Perm.cons _ (List.Perm.swap _ _ _))))).trans ?_
 exact List.Perm.cons _ (List.Perm.cons _ (List.Perm.cons _ (List.Perm.cons _ (List.Perm.cons _ h1))))
theorem QcA.add {o : Own} {W' : World} (h : QcA B pb t vL vB vC vR vs X W) (hb : Below W.heap.size W W') (hB : B ≤ W.heap.size) (ho : o.lies W' W.heap.size) : QcA B pb t vL vB vC vR vs (o :: X) W' :=
 QcA.back (h.own.add hb hB ho) h.vl
theorem QcA.nil (h : QcA B pb t vL vB vC vR vs X W) : QcA B pb t vL vB vC vR vs (pxJ (.slice none 0 0) [] :: X) W := QcA.back (h.own.none 3 1) h.vl
theorem QcA.push {a : Option Addr} {c : Nat} {pa : Option Addr} {pc : Nat} {l : Lp} (h : QcA B pb t (.slice a t.lp.length c) vB vC vR vs (pxJ (.slice pa l.par.length pc) l.par :: X) W) (hB : B ≤ W.heap.size) (hl : t.lp.length ≤ 100000) :
 ∃ A' c' w', (Builtin.append_ #[54, 54] 54 #[.slice a t.lp.length c, .slice (some ⟨W.heap.size, 0, none⟩) 1 1]).run Tryz.prog (W.alloc (lpB l (.slice pa l.par.length pc))) = .ok (.slice A' (t.lp.length + 1) c') w' ∧
   (∀ k, w'.frozen? ⟨pb, k, none⟩ = false) ∧ w'.cell? ⟨pb, 0, none⟩ = some (.slice a t.lp.length c) ∧
   QcA B pb ⟨t.lp ++ [l], t.bound, t.cross, t.rows, t.next⟩ (.slice A' (t.lp.length + 1) c') vB vC vR (vs ++ [.slice pa l.par.length pc]) X (w'.setCell ⟨pb, 0, none⟩ (.slice A' (t.lp.length + 1) c')) ∧
   Below B W (w'.setCell ⟨pb, 0, none⟩ (.slice A' (t.lp.length + 1) c')) := by
 obtain ⟨A', c', w', hr, ho, hb⟩ := pxL_app h.own.swap h.vl hB hl l pa l.par.length pc
 have ho' := ho.swap
 obtain ⟨g1, g2, -⟩ := bxT_at ho'.head
 refine ⟨A', c', w', hr, g2, g1 0 _ rfl, ⟨?_, by rw [List.length_append, List.length_append, h.vl]; rfl⟩, hb.trans (bxT_below ho' (Nat.le_trans hB hb.size) 0 _)⟩
 have := bxT_set ho' 0 (.slice A' (t.lp.length + 1) c')
 simp only [parO_app h.vl, List.append_assoc]
 exact this
theorem QcA.pushX {a : Option Addr} {c : Nat} (h : QcA B pb t vL vB (.slice a t.cross.length c) vR vs X W) (hB : B ≤ W.heap.size) (hl : t.cross.length ≤ 100000) (p : Int × Int) :
 ∃ A' c' w', (Builtin.append_ #[23, 23] 23 #[.slice a t.cross.length c, .slice (some ⟨W.heap.size, 0, none⟩) 1 1]).run Tryz.prog (W.alloc (prB p)) = .ok (.slice A' (t.cross.length + 1) c') w' ∧
   (∀ k, w'.frozen? ⟨pb, k, none⟩ = false) ∧ w'.cell? ⟨pb, 3, none⟩ = some (.slice a t.cross.length c) ∧
   QcA B pb ⟨t.lp, t.bound, t.cross ++ [p], t.rows, t.next⟩ vL vB (.slice A' (t.cross.length + 1) c') vR vs X (w'.setCell ⟨pb, 3, none⟩ (.slice A' (t.cross.length + 1) c')) ∧
   Below B W (w'.setCell ⟨pb, 3, none⟩ (.slice A' (t.cross.length + 1) c')) := by
 have hp : Owns W B (pxP (.slice a t.cross.length c) t.cross :: qcO pb vL vB (.slice a t.cross.length c) vR t.next :: pxL vL t.lp vs :: pxJ vB t.bound :: pxJ vR t.rows :: (parO t.lp vs ++ X)) := by
  refine h.own.perm ?_
  refine (List.Perm.cons _ (List.Perm.cons _ (List.Perm.swap _ _ _))).trans ?_
  exact (List.Perm.cons _ (List.Perm.swap _ _ _)).trans (List.Perm.swap _ _ _)
 obtain ⟨A', c', w', hr, ho, hb⟩ := pxP_app hp hB hl p
 have ho' := ho.swap
 obtain ⟨g1, g2, -⟩ := bxT_at ho'.head
 refine ⟨A', c', w', hr, g2, g1 3 _ rfl, ⟨?_, h.vl⟩, hb.trans (bxT_below ho' (Nat.le_trans hB hb.size) 3 _)⟩
 refine (bxT_set ho' 3 (.slice A' (t.cross.length + 1) c')).perm (List.Perm.cons _ ?_)
 exact (List.Perm.swap _ _ _).trans (List.Perm.cons _ (List.Perm.swap _ _ _))
theorem QcA.pushR {a : Option Addr} {c : Nat} (h : QcA B pb t vL vB vC (.slice a t.rows.length c) vs X W) (hB : B ≤ W.heap.size) (hl : t.rows.length ≤ 100000) (x : Int) :
 ∃ A' c' w', (Builtin.append_ #[22, 22] 22 #[.slice a t.rows.length c, .slice (some ⟨W.heap.size, 0, none⟩) 1 1]).run Tryz.prog (W.alloc (.cells #[.int .i64 x] 3)) = .ok (.slice A' (t.rows.length + 1) c') w' ∧
   (∀ k, w'.frozen? ⟨pb, k, none⟩ = false) ∧ w'.cell? ⟨pb, 1, none⟩ = some (.slice a t.rows.length c) ∧
   QcA B pb ⟨t.lp, t.bound, t.cross, t.rows ++ [x], t.next⟩ vL vB vC (.slice A' (t.rows.length + 1) c') vs X (w'.setCell ⟨pb, 1, none⟩ (.slice A' (t.rows.length + 1) c')) ∧
   Below B W (w'.setCell ⟨pb, 1, none⟩ (.slice A' (t.rows.length + 1) c')) := by
 have hp : Owns W B (pxJ (.slice a t.rows.length c) t.rows :: qcO pb vL vB vC (.slice a t.rows.length c) t.next :: pxL vL t.lp vs :: pxJ vB t.bound :: pxP vC t.cross :: (parO t.lp vs ++ X)) := by
  refine h.own.perm ?_
  refine (List.Perm.cons _ (List.Perm.cons _ (List.Perm.cons _ (List.Perm.swap _ _ _)))).trans ?_
  refine (List.Perm.cons _ (List.Perm.cons _ (List.Perm.swap _ _ _))).trans ?_
  exact (List.Perm.cons _ (List.Perm.swap _ _ _)).trans (List.Perm.swap _ _ _)
 obtain ⟨A', c', w', hr, ho, hb⟩ := pxJ_app hp hB hl x
 have ho' := ho.swap
 obtain ⟨g1, g2, -⟩ := bxT_at ho'.head
 refine ⟨A', c', w', hr, g2, g1 1 _ rfl, ⟨?_, h.vl⟩, hb.trans (bxT_below ho' (Nat.le_trans hB hb.size) 1 _)⟩
 refine (bxT_set ho' 1 (.slice A' (t.rows.length + 1) c')).perm (List.Perm.cons _ ?_)
 refine (List.Perm.swap _ _ _).trans (List.Perm.cons _ ?_)
 exact (List.Perm.swap _ _ _).trans (List.Perm.cons _ (List.Perm.swap _ _ _))
theorem QcA.setNext (h : QcA B pb t vL vB vC vR vs X W) (hB : B ≤ W.heap.size) (n : Nat) : QcA B pb ⟨t.lp, t.bound, t.cross, t.rows, n⟩ vL vB vC vR vs X (W.setCell ⟨pb, 4, none⟩ (.int .i64 (n : Int))) ∧ Below B W (W.setCell ⟨pb, 4, none⟩ (.int .i64 (n : Int))) :=
 ⟨⟨bxT_set h.own 4 _, h.vl⟩, bxT_below h.own hB 4 _⟩
theorem QcE.add {W' : World} {o : Own} (h : QcE B pb t X W) (hb : Below W.heap.size W W') (hB : B ≤ W.heap.size) (ho : o.lies W' W.heap.size) : QcE B pb t (o :: X) W' := by
 obtain ⟨vL, vB, vC, vR, vs, h⟩ := h
 exact ⟨vL, vB, vC, vR, vs, h.add hb hB ho⟩
theorem QcE.mem (h : QcE B pb t X W) {o : Own} (ho : o ∈ X) : o.lies W B := by
 obtain ⟨vL, vB, vC, vR, vs, h⟩ := h
 exact h.own.all o (by simp only [List.mem_cons, List.mem_append]; right; right; right; right; right; right; exact ho)
theorem QcE.nil (h : QcE B pb t X W) : QcE B pb t (pxJ (.slice none 0 0) [] :: X) W := by
 obtain ⟨vL, vB, vC, vR, vs, h⟩ := h
 exact ⟨vL, vB, vC, vR, vs, h.nil⟩
theorem QcE.lit (h : QcE B pb t X W) (hB : B ≤ W.heap.size) (x : Int) : QcE B pb t (pxJ (.slice (some ⟨W.heap.size, 0, none⟩) [x].length 1) [x] :: X) (W.alloc (.cells #[.int .i64 x] 3)) ∧ Below B W (W.alloc (.cells #[.int .i64 x] 3)) := by
 have hal := al_t W (.cells #[.int .i64 x] 3)
 exact ⟨h.add hal hB (lit_own W [x] (by simp)), hal.mono hB⟩
theorem QcE.set {T : TypeId} {b : Nat} {vals : List Value} (h : QcE B pb t (bxT T b vals :: X) W) (hB : B ≤ W.heap.size) (k : Nat) (y : Value) : QcE B pb t (bxT T b (vals.set k y) :: X) (W.setCell ⟨b, k, none⟩ y) ∧ Below B W (W.setCell ⟨b, k, none⟩ y) := by
 obtain ⟨vL, vB, vC, vR, vs, h⟩ := h
 exact ⟨⟨_, _, _, _, _, QcA.back (bxT_set h.front k y) h.vl⟩, bxT_below h.front hB k y⟩
theorem QcE.loops (h : QcE B pb t X W) : ∃ a c, W.cell? ⟨pb, 0, none⟩ = some (.slice a t.lp.length c) ∧ (∀ k, W.frozen? ⟨pb, k, none⟩ = false) ∧ B ≤ pb ∧ pb < W.heap.size := by
 obtain ⟨vL, vB, vC, vR, vs, h⟩ := h
 obtain ⟨a, c, rfl⟩ := h.forms.1
 obtain ⟨h0, -, -, -, -, h5, h6, h7⟩ := h.cells
 exact ⟨a, c, h0, h5, h6, h7⟩
theorem QcE.next_ (h : QcE B pb t X W) : W.cell? ⟨pb, 4, none⟩ = some (.int .i64 (t.next : Int)) := by
 obtain ⟨vL, vB, vC, vR, vs, h⟩ := h
 exact h.cells.2.2.2.2.1
theorem QcE.loop_at (h : QcE B pb t X W) {j n : Nat} {l : Lp} (hj : t.lp[j]? = some l) (hn : t.lp.length = n) : ∃ g c, W.cell? ⟨pb, 0, none⟩ = some (.slice (some ⟨g, 0, none⟩) n c) ∧ W.cell? ⟨g, j * 4 + 3, none⟩ = some (.bool l.purl) := by
 subst hn
 obtain ⟨vL, vB, vC, vR, vs, h⟩ := h
 obtain ⟨g, c, u, rfl, -, -, -, -, hq⟩ := pxL_at h.own.tail h.vl hj
 exact ⟨g, c, h.cells.1, hq⟩
end
def pxV (v : Value) (ks : List Value) : Own := ⟨22, 1, ks.length, v, ks⟩
def rowsO (ks : List Value) (K : List (List Int)) : List Own := List.zipWith pxJ ks K
section
variable {B : Nat} {v : Value} {ks : List Value} {K : List (List Int)} {X : List Own} {W : World}
end
theorem mk_ints (n : Nat) (hn : n ≤ 1000000) (w : World) : ∃ w', (Instr.makeSlice 22 (.int .i64 (n : Int)) (.int .i64 (n : Int))).run Tryz.prog w = .ok (.slice (some ⟨w.heap.size, 0, none⟩) n n) w' ∧ (pxJ (.slice (some ⟨w.heap.size, 0, none⟩) n n) (List.replicate n 0)).lies w' w.heap.size ∧ Below w.heap.size w w' := by
 obtain ⟨i1, hi', hz0', hz1', hz2'⟩ := info_parts info_int'
 obtain ⟨w3, hmr, hob, hgb⟩ := run_make_full (P := Tryz.prog) w w.heap.size 22 3 i1 (.int .i64 0) 1 Tryz.underlying22 hi' hz0' hz1' .i64 .i64 n (by rw [hz2']; omega) (by unfold maxLen; omega) (Nat.le_refl _)
 have hb := (Below.refl w.heap.size w).grown hgb (Nat.le_refl _) (fun k e => by cases e)
 refine ⟨w3, hmr, ?_, hb⟩
 have e : (madeCells (Value.int .i64 0).cells (n * 1)).toList = (List.replicate n (0 : Int)).map (Value.int .i64) := by
  rw [Nat.mul_one, List.map_replicate]
  exact toList_madeCells_one _ _
 rw [e] at hob
 unfold pxJ Own.lies
 rw [List.length_replicate]
 exact hob
theorem pxJ_set {w : World} {B g n c : Nat} {l : List Int} {L : List Own} (h : Owns w B (pxJ (.slice (some ⟨g, 0, none⟩) n c) l :: L)) (hn : l.length = n) (hB : B ≤ w.heap.size) (k : Nat) (x : Int) :
 Owns (w.setCell ⟨g, k, none⟩ (.int .i64 x)) B (pxJ (.slice (some ⟨g, 0, none⟩) n c) (l.set k x) :: L) ∧ Below B w (w.setCell ⟨g, k, none⟩ (.int .i64 x)) ∧ w.frozen? ⟨g, k, none⟩ = false ∧ ∀ j y, l[j]? = some y → w.cell? ⟨g, j, none⟩ = some (.int .i64 y) := by
 subst hn
 have h0 : w.ownsRow B 3 1 (.slice (some ⟨g, 0, none⟩) l.length c) l.length (l.map (Value.int .i64)) := h.head
 obtain ⟨s1, s2⟩ := World.ownsRow.stored h0 k (.int .i64 x)
 obtain ⟨g1, -⟩ := World.ownsRow.lt h0 g rfl
 refine ⟨h.turn (o' := pxJ (.slice (some ⟨g, 0, none⟩) l.length c) (l.set k x)) s2 ?_ (fun k hk => Or.inl hk), Below.of_grown s2 hB (fun k e => by cases e; exact g1), h0.frozenAt k, fun j y hy => ?_⟩
 · unfold pxJ Own.lies
   rw [List.length_set, List.map_set]
   exact s1
 · rw [h0.cellAt j (by have := (List.getElem?_eq_some_iff.1 hy).1; omega), List.getElem?_map, hy]; rfl
theorem QcE.setJ {B pb : Nat} {t : Pw} {X : List Own} {W : World} {g n c : Nat} {l : List Int} (h : QcE B pb t (pxJ (.slice (some ⟨g, 0, none⟩) n c) l :: X) W) (hn : l.length = n) (hB : B ≤ W.heap.size) (k : Nat) (x : Int) :
 QcE B pb t (pxJ (.slice (some ⟨g, 0, none⟩) n c) (l.set k x) :: X) (W.setCell ⟨g, k, none⟩ (.int .i64 x)) ∧ Below B W (W.setCell ⟨g, k, none⟩ (.int .i64 x)) ∧ W.frozen? ⟨g, k, none⟩ = false ∧ ∀ j y, l[j]? = some y → W.cell? ⟨g, j, none⟩ = some (.int .i64 y) := by
 obtain ⟨vL, vB, vC, vR, vs, h⟩ := h
 obtain ⟨h1, h2, h3, h4⟩ := pxJ_set h.front hn hB k x
 exact ⟨⟨_, _, _, _, _, QcA.back h1 h.vl⟩, h2, h3, h4⟩
def takeK (a n k : Nat) : List Int := usedN a k ++ List.replicate (n - k) 0
theorem takeK_len {a n k : Nat} (h : k ≤ n) : (takeK a n k).length = n := by unfold takeK; rw [List.length_append, usedN_len, List.length_replicate]; omega
theorem takeK_next {a n k : Nat} (h : k < n) : (takeK a n k)[k]? = some 0 ∧ (takeK a n k).set k ((a + k : Nat) : Int) = takeK a n (k + 1) := by
 unfold takeK
 obtain ⟨m, hm⟩ : ∃ m, n - k = m + 1 := ⟨n - k - 1, by omega⟩
 rw [hm, List.replicate_succ, show n - (k + 1) = m by omega]
 refine ⟨?_, ?_⟩
 · rw [List.getElem?_append_right (by rw [usedN_len]; exact Nat.le_refl _), usedN_len, Nat.sub_self]; rfl
 · rw [List.set_append_right _ _ (by rw [usedN_len]; exact Nat.le_refl _), usedN_len, Nat.sub_self, List.set_cons_zero, usedN_next, List.append_assoc]
   rfl
def TkPost (B pb : Nat) (t : Pw) (n : Nat) (X : List Own) (w : World) (e : Ending) (w' : World) : Prop := ∃ v, e = .returned v ∧ QcE B pb ⟨t.lp, t.bound, t.cross, t.rows, t.next + n⟩ (pxJ v (usedN t.next n) :: X) w' ∧ Below B w w'
set_option maxHeartbeats 2000000 in
theorem ptake_any (B pb : Nat) (t : Pw) (n : Nat) (hn : n ≤ 1000) (hx : t.next ≤ 1000000) (X : List Own) (w : World) (h : QcE B pb t X w) (hB : B ≤ w.heap.size) :
 Calls Tryz.prog 124 #[.pointer (some ⟨pb, 0, none⟩), .int .i64 (n : Int)] w fun e w' => TkPost B pb t n X w e w' := by
 obtain ⟨w1, hmk, ho, hb⟩ := mk_ints n (by omega) w
 obtain ⟨g, hg⟩ : ∃ g, g = w.heap.size := ⟨_, rfl⟩
 rw [← hg] at hmk
 have H1 : Hid (QcE B pb t (pxJ (.slice (some ⟨g, 0, none⟩) n n) (takeK t.next n 0) :: X) w1 ∧ Below B w w1) := by
  rw [hg]
  have e : takeK t.next n 0 = List.replicate n 0 := by unfold takeK usedN; simp
  rw [e]
  exact ⟨h.add hb hB ho, hb.mono hB⟩
 clear h ho hb hg
 go_enter Tryz.func124, Tryz.ntmps124
 go_wp2
 go_loopw [6, 11] (fun s6 s11 wr => ∃ (k : Nat) (v6 : Value), k ≤ n ∧ s11 = .int .i64 (k : Int) ∧ v6 = s6 ∧ Hid (QcE B pb t (pxJ (.slice (some ⟨g, 0, none⟩) n n) (takeK t.next n k) :: X) wr ∧ Below B w wr)) (fun _ s11 _ => n - (intOf s11).toNat)
 case atStart => exact ⟨0, _, Nat.zero_le _, rfl, rfl, H1.out⟩
 case round =>
  obtain ⟨k, v6, hk, rfl, rfl, HX⟩ := hrel
  clear H1 hmk
  have hBs : B ≤ wr.heap.size := Nat.le_trans hB HX.out.2.size
  have y4 := HX.out.1.next_
  by_cases hlt : k < n
  · obtain ⟨q1, q2⟩ := takeK_next (a := t.next) hlt
    obtain ⟨h1, h2, h3, h4⟩ := HX.out.1.setJ (takeK_len hk) hBs k ((t.next + k : Nat) : Int)
    rw [q2] at h1
    have z0 := h4 k _ q1
    have HQ := Lib.hid (And.intro h1 (HX.out.2.trans h2))
    have hw1 : IntKind.i64.wrap ((t.next : Int) + (k : Int)) = ((t.next + k : Nat) : Int) := by rw [Int.natCast_add]; exact IntWalk.i64_in _ (by omega)
    clear h1 h2 h4 q1 q2 HX
    go_wp2
    go_roundw
    case rel => exact ⟨k + 1, _, by omega, by go_num, rfl, HQ.out⟩
    case measure => simp [intOf]; omega
  · have hkn : k = n := by omega
    have hX := HX.out
    rw [hkn] at hX
    obtain ⟨⟨vL, vB, vC, vR, vs, hP⟩, hb⟩ := hX
    obtain ⟨h1, h2⟩ := hP.setNext hBs (t.next + n)
    have e : takeK t.next n n = usedN t.next n := by unfold takeK; simp
    rw [e] at h1
    have f4 := hP.cells.2.2.2.2.2.1 4
    have HQ : Hid (TkPost B pb t n X w (.returned (.slice (some ⟨g, 0, none⟩) n n)) (wr.setCell ⟨pb, 4, none⟩ (.int .i64 ((t.next + n : Nat) : Int)))) := ⟨_, rfl, ⟨vL, vB, vC, vR, vs, h1⟩, hb.trans h2⟩
    have hw1 : IntKind.i64.wrap ((t.next : Int) + (n : Int)) = ((t.next + n : Nat) : Int) := by rw [Int.natCast_add]; exact IntWalk.i64_in _ (by omega)
    clear h1 h2 e hP hb HX
    go_wp2
    go_ret
    exact HQ.out
end Go.Proofs.YtflpikickbellaaGreat
