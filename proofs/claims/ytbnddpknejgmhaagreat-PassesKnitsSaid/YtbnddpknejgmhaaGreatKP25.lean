/- Layer 27: the program's piece in memory (a box of five cells: loops, rows, bound, cross, next). Layer 28: rows of numbers in an outer row, all owned (the kids). Layer 27, the program: take, add. -/
import Derived.Test.YtbnddpknejgmhaaGreatKP24
import Derived.Test.YtbnddpknejgmhaaGreatKP23
namespace Go.Proofs.YtbnddpknejgmhaaGreat
open Go.RowKit Go.Shelf Go.Sort
set_option maxRecDepth 100000

/-! The program's piece. -/
abbrev qcO (pb : Nat) (vL vB vC vR : Value) (n : Nat) : Own := bxT 76 pb [vL, vR, vB, vC, .int .i64 (n : Int)]
structure QcA (B pb : Nat) (t : Pw) (vL vB vC vR : Value) (vs : List Value) (X : List Own) (W : World) : Prop where
  own : Owns W B (qcO pb vL vB vC vR t.next :: pxL vL t.lp vs :: pxJ vB t.bound :: pxP vC t.cross :: pxJ vR t.rows :: (parO t.lp vs ++ X))
  vl : vs.length = t.lp.length
def QcE (B pb : Nat) (t : Pw) (X : List Own) (W : World) : Prop := ∃ vL vB vC vR vs, QcA B pb t vL vB vC vR vs X W
section
variable {B pb : Nat} {t : Pw} {vL vB vC vR : Value} {vs : List Value} {X : List Own} {W : World}
theorem QcA.to (h : QcA B pb t vL vB vC vR vs X W) {W' : World} (hb : Below W.heap.size W W') : QcA B pb t vL vB vC vR vs X W' := ⟨h.own.to hb, h.vl⟩
theorem QcE.to (h : QcE B pb t X W) {W' : World} (hb : Below W.heap.size W W') : QcE B pb t X W' := by
  obtain ⟨vL, vB, vC, vR, vs, h⟩ := h
  exact ⟨vL, vB, vC, vR, vs, h.to hb⟩
theorem QcA.lift (h : QcA B pb t vL vB vC vR vs X W) {X' : List Own} (hs : X'.Sublist X) : QcA B pb t vL vB vC vR vs X' W :=
  ⟨h.own.sub (List.Sublist.cons_cons _ (List.Sublist.cons_cons _ (List.Sublist.cons_cons _ (List.Sublist.cons_cons _ (List.Sublist.cons_cons _ ((List.append_sublist_append_left _).2 hs)))))), h.vl⟩
theorem QcE.lift (h : QcE B pb t X W) {X' : List Own} (hs : X'.Sublist X) : QcE B pb t X' W := by
  obtain ⟨vL, vB, vC, vR, vs, h⟩ := h
  exact ⟨vL, vB, vC, vR, vs, h.lift hs⟩
theorem QcA.forms (h : QcA B pb t vL vB vC vR vs X W) : (∃ a c, vL = .slice a t.lp.length c) ∧ (∃ a c, vB = .slice a t.bound.length c) ∧ (∃ a c, vC = .slice a t.cross.length c) ∧ ∃ a c, vR = .slice a t.rows.length c :=
  ⟨pxL_form h.own.tail, pxJ_form h.own.tail.tail, pxP_form h.own.tail.tail.tail, pxJ_form h.own.tail.tail.tail.tail⟩
theorem QcA.cells (h : QcA B pb t vL vB vC vR vs X W) : W.cell? ⟨pb, 0, none⟩ = some vL ∧ W.cell? ⟨pb, 1, none⟩ = some vR ∧ W.cell? ⟨pb, 2, none⟩ = some vB ∧ W.cell? ⟨pb, 3, none⟩ = some vC ∧ W.cell? ⟨pb, 4, none⟩ = some (.int .i64 (t.next : Int)) ∧ (∀ k, W.frozen? ⟨pb, k, none⟩ = false) ∧ B ≤ pb ∧ pb < W.heap.size := by
  obtain ⟨h1, h2, h3, h4⟩ := bxT_at h.own.head
  exact ⟨h1 0 _ rfl, h1 1 _ rfl, h1 2 _ rfl, h1 3 _ rfl, h1 4 _ rfl, h2, h3, h4⟩
/-- A row beside the piece, brought to the front, turned and laid back. -/
theorem QcA.perm (h : QcA B pb t vL vB vC vR vs X W) {X' : List Own} (hp : X.Perm X') : QcA B pb t vL vB vC vR vs X' W :=
  ⟨h.own.perm (List.Perm.cons _ (List.Perm.cons _ (List.Perm.cons _ (List.Perm.cons _ (List.Perm.cons _ (hp.append_left _)))))), h.vl⟩
theorem QcE.perm (h : QcE B pb t X W) {X' : List Own} (hp : X.Perm X') : QcE B pb t X' W := by
  obtain ⟨vL, vB, vC, vR, vs, h⟩ := h
  exact ⟨vL, vB, vC, vR, vs, h.perm hp⟩
/-- The list of rows with one of X at the front. -/
theorem QcA.front {o : Own} (h : QcA B pb t vL vB vC vR vs (o :: X) W) : Owns W B (o :: qcO pb vL vB vC vR t.next :: pxL vL t.lp vs :: pxJ vB t.bound :: pxP vC t.cross :: pxJ vR t.rows :: (parO t.lp vs ++ X)) := by
  refine h.own.perm ?_
  have h1 : (parO t.lp vs ++ o :: X).Perm (o :: (parO t.lp vs ++ X)) := List.perm_middle
  refine (List.Perm.cons _ (List.Perm.cons _ (List.Perm.cons _ (List.Perm.cons _ (List.Perm.cons _ h1))))).trans ?_
  refine (List.Perm.cons _ (List.Perm.cons _ (List.Perm.cons _ (List.Perm.cons _ (List.Perm.swap _ _ _))))).trans ?_
  refine (List.Perm.cons _ (List.Perm.cons _ (List.Perm.cons _ (List.Perm.swap _ _ _)))).trans ?_
  refine (List.Perm.cons _ (List.Perm.cons _ (List.Perm.swap _ _ _))).trans ?_
  exact (List.Perm.cons _ (List.Perm.swap _ _ _)).trans (List.Perm.swap _ _ _)
theorem QcA.back {o : Own} (h : Owns W B (o :: qcO pb vL vB vC vR t.next :: pxL vL t.lp vs :: pxJ vB t.bound :: pxP vC t.cross :: pxJ vR t.rows :: (parO t.lp vs ++ X))) (hv : vs.length = t.lp.length) : QcA B pb t vL vB vC vR vs (o :: X) W := by
  refine ⟨h.perm ?_, hv⟩
  have h1 : (o :: (parO t.lp vs ++ X)).Perm (parO t.lp vs ++ o :: X) := List.perm_middle.symm
  refine ((List.Perm.swap _ _ _).trans (List.Perm.cons _ (List.Perm.swap _ _ _))).trans ?_
  refine (List.Perm.cons _ (List.Perm.cons _ (List.Perm.swap _ _ _))).trans ?_
  refine (List.Perm.cons _ (List.Perm.cons _ (List.Perm.cons _ (List.Perm.swap _ _ _)))).trans ?_
  refine (List.Perm.cons _ (List.Perm.cons _ (List.Perm.cons _ (List.Perm.cons _ (List.Perm.swap _ _ _))))).trans ?_
  exact List.Perm.cons _ (List.Perm.cons _ (List.Perm.cons _ (List.Perm.cons _ (List.Perm.cons _ h1))))
/-- A new row beside the piece. -/
theorem QcA.add {o : Own} {W' : World} (h : QcA B pb t vL vB vC vR vs X W) (hb : Below W.heap.size W W') (hB : B ≤ W.heap.size) (ho : o.lies W' W.heap.size) : QcA B pb t vL vB vC vR vs (o :: X) W' :=
  QcA.back (h.own.add hb hB ho) h.vl
theorem QcA.nil (h : QcA B pb t vL vB vC vR vs X W) : QcA B pb t vL vB vC vR vs (pxJ (.slice none 0 0) [] :: X) W := QcA.back (h.own.none 3 1) h.vl
/-- p.loops = append(p.loops, ..): the parents come out of the rows beside the piece. -/
theorem QcA.push {a : Option Addr} {c : Nat} {pa : Option Addr} {pc : Nat} {l : Lp} (h : QcA B pb t (.slice a t.lp.length c) vB vC vR vs (pxJ (.slice pa l.par.length pc) l.par :: X) W) (hB : B ≤ W.heap.size) (hl : t.lp.length ≤ 100000) :
    ∃ A' c' w', (Builtin.append_ #[32, 32] 32 #[.slice a t.lp.length c, .slice (some ⟨W.heap.size, 0, none⟩) 1 1]).run Tryz.prog (W.alloc (lpB l (.slice pa l.par.length pc))) = .ok (.slice A' (t.lp.length + 1) c') w' ∧
      (∀ k, w'.frozen? ⟨pb, k, none⟩ = false) ∧ w'.cell? ⟨pb, 0, none⟩ = some (.slice a t.lp.length c) ∧
      QcA B pb ⟨t.lp ++ [l], t.bound, t.cross, t.rows, t.next⟩ (.slice A' (t.lp.length + 1) c') vB vC vR (vs ++ [.slice pa l.par.length pc]) X (w'.setCell ⟨pb, 0, none⟩ (.slice A' (t.lp.length + 1) c')) ∧
      Below B W (w'.setCell ⟨pb, 0, none⟩ (.slice A' (t.lp.length + 1) c')) := by
  obtain ⟨A', c', w', hr, ho, hb⟩ := pxL_app h.own.swap h.vl hB hl l pa l.par.length pc
  have ho' := ho.swap
  obtain ⟨g1, g2, -⟩ := bxT_at ho'.head
  refine ⟨A', c', w', hr, g2, g1 0 _ rfl, ⟨?_, by rw [List.length_append, List.length_append, h.vl]; rfl⟩, hb.trans (bxT_below ho' (Nat.le_trans hB hb.size) 0 _)⟩
  have := bxT_set ho' 0 (.slice A' (t.lp.length + 1) c')
  simp only [parO_app h.vl, List.append_assoc]
  exact this
/-- p.cross = append(p.cross, pair). -/
theorem QcA.pushX {a : Option Addr} {c : Nat} (h : QcA B pb t vL vB (.slice a t.cross.length c) vR vs X W) (hB : B ≤ W.heap.size) (hl : t.cross.length ≤ 100000) (p : Int × Int) :
    ∃ A' c' w', (Builtin.append_ #[44, 44] 44 #[.slice a t.cross.length c, .slice (some ⟨W.heap.size, 0, none⟩) 1 1]).run Tryz.prog (W.alloc (prB p)) = .ok (.slice A' (t.cross.length + 1) c') w' ∧
      (∀ k, w'.frozen? ⟨pb, k, none⟩ = false) ∧ w'.cell? ⟨pb, 3, none⟩ = some (.slice a t.cross.length c) ∧
      QcA B pb ⟨t.lp, t.bound, t.cross ++ [p], t.rows, t.next⟩ vL vB (.slice A' (t.cross.length + 1) c') vR vs X (w'.setCell ⟨pb, 3, none⟩ (.slice A' (t.cross.length + 1) c')) ∧
      Below B W (w'.setCell ⟨pb, 3, none⟩ (.slice A' (t.cross.length + 1) c')) := by
  have hp : Owns W B (pxP (.slice a t.cross.length c) t.cross :: qcO pb vL vB (.slice a t.cross.length c) vR t.next :: pxL vL t.lp vs :: pxJ vB t.bound :: pxJ vR t.rows :: (parO t.lp vs ++ X)) := by
    refine h.own.perm ?_
    refine (List.Perm.cons _ (List.Perm.cons _ (List.Perm.swap _ _ _))).trans ?_
    exact (List.Perm.cons _ (List.Perm.swap _ _ _)).trans (List.Perm.swap _ _ _)
  obtain ⟨A', c', w', hr, ho, hb⟩ := pxP_app hp hB hl p
  have ho' := ho.swap
  obtain ⟨g1, g2, -⟩ := bxT_at ho'.head
  refine ⟨A', c', w', hr, g2, g1 3 _ rfl, ⟨?_, h.vl⟩, hb.trans (bxT_below ho' (Nat.le_trans hB hb.size) 3 _)⟩
  refine (bxT_set ho' 3 (.slice A' (t.cross.length + 1) c')).perm (List.Perm.cons _ ?_)
  exact (List.Perm.swap _ _ _).trans (List.Perm.cons _ (List.Perm.swap _ _ _))
/-- p.bound = append(p.bound, ..). -/
theorem QcA.pushB {a : Option Addr} {c : Nat} (h : QcA B pb t vL (.slice a t.bound.length c) vC vR vs X W) (hB : B ≤ W.heap.size) (hl : t.bound.length ≤ 100000) (A2 : Option Addr) (c2 : Nat) (l2 : List Int) (hl2 : l2.length ≤ 100000) (h2 : SlI W W.heap.size A2 l2) (hne : A2 = none → l2.length = 0) :
    ∃ A' c' w', (Builtin.append_ #[43, 43] 43 #[.slice a t.bound.length c, .slice A2 l2.length c2]).run Tryz.prog W = .ok (.slice A' (t.bound.length + l2.length) c') w' ∧
      (∀ k, w'.frozen? ⟨pb, k, none⟩ = false) ∧ w'.cell? ⟨pb, 2, none⟩ = some (.slice a t.bound.length c) ∧
      QcA B pb ⟨t.lp, t.bound ++ l2, t.cross, t.rows, t.next⟩ vL (.slice A' (t.bound.length + l2.length) c') vC vR vs X (w'.setCell ⟨pb, 2, none⟩ (.slice A' (t.bound.length + l2.length) c')) ∧
      Below B W (w'.setCell ⟨pb, 2, none⟩ (.slice A' (t.bound.length + l2.length) c')) := by
  have hp : Owns W B (pxJ (.slice a t.bound.length c) t.bound :: qcO pb vL (.slice a t.bound.length c) vC vR t.next :: pxL vL t.lp vs :: pxP vC t.cross :: pxJ vR t.rows :: (parO t.lp vs ++ X)) := by
    refine h.own.perm ?_
    exact (List.Perm.cons _ (List.Perm.swap _ _ _)).trans (List.Perm.swap _ _ _)
  obtain ⟨A', c', w', hr, ho, hb, -⟩ := pxJ_apps hp hB hl A2 c2 l2 hl2 h2 hne
  have ho' := ho.swap
  obtain ⟨g1, g2, -⟩ := bxT_at ho'.head
  refine ⟨A', c', w', hr, g2, g1 2 _ rfl, ⟨?_, h.vl⟩, hb.trans (bxT_below ho' (Nat.le_trans hB hb.size) 2 _)⟩
  exact (bxT_set ho' 2 (.slice A' (t.bound.length + l2.length) c')).perm (List.Perm.cons _ (List.Perm.swap _ _ _))
/-- A row beside the piece grows by one number. -/
theorem QcE.grow {a : Option Addr} {c : Nat} {l : List Int} (h : QcE B pb t (pxJ (.slice a l.length c) l :: X) W) (hB : B ≤ W.heap.size) (hl : l.length ≤ 100000) (x : Int) :
    ∃ A' c' w', (Builtin.append_ #[43, 43] 43 #[.slice a l.length c, .slice (some ⟨W.heap.size, 0, none⟩) 1 1]).run Tryz.prog (W.alloc (.cells #[.int .i64 x] 3)) = .ok (.slice A' (l.length + 1) c') w' ∧ QcE B pb t (pxJ (.slice A' (l.length + 1) c') (l ++ [x]) :: X) w' ∧ Below B W w' := by
  obtain ⟨vL, vB, vC, vR, vs, h⟩ := h
  obtain ⟨A', c', w', hr, ho, hb⟩ := pxJ_app h.front hB hl x
  exact ⟨A', c', w', hr, ⟨vL, vB, vC, vR, vs, QcA.back ho h.vl⟩, hb⟩
/-- p.rows = append(p.rows, x). -/
theorem QcA.pushR {a : Option Addr} {c : Nat} (h : QcA B pb t vL vB vC (.slice a t.rows.length c) vs X W) (hB : B ≤ W.heap.size) (hl : t.rows.length ≤ 100000) (x : Int) :
    ∃ A' c' w', (Builtin.append_ #[43, 43] 43 #[.slice a t.rows.length c, .slice (some ⟨W.heap.size, 0, none⟩) 1 1]).run Tryz.prog (W.alloc (.cells #[.int .i64 x] 3)) = .ok (.slice A' (t.rows.length + 1) c') w' ∧
      (∀ k, w'.frozen? ⟨pb, k, none⟩ = false) ∧ w'.cell? ⟨pb, 1, none⟩ = some (.slice a t.rows.length c) ∧
      QcA B pb ⟨t.lp, t.bound, t.cross, t.rows ++ [x], t.next⟩ vL vB vC (.slice A' (t.rows.length + 1) c') vs X (w'.setCell ⟨pb, 1, none⟩ (.slice A' (t.rows.length + 1) c')) ∧
      Below B W (w'.setCell ⟨pb, 1, none⟩ (.slice A' (t.rows.length + 1) c')) := by
  have hp : Owns W B (pxJ (.slice a t.rows.length c) t.rows :: qcO pb vL vB vC (.slice a t.rows.length c) t.next :: pxL vL t.lp vs :: pxJ vB t.bound :: pxP vC t.cross :: (parO t.lp vs ++ X)) := by
    refine h.own.perm ?_
    refine (List.Perm.cons _ (List.Perm.cons _ (List.Perm.cons _ (List.Perm.swap _ _ _)))).trans ?_
    refine (List.Perm.cons _ (List.Perm.cons _ (List.Perm.swap _ _ _))).trans ?_
    exact (List.Perm.cons _ (List.Perm.swap _ _ _)).trans (List.Perm.swap _ _ _)
  obtain ⟨A', c', w', hr, ho, hb⟩ := pxJ_app hp hB hl x
  have ho' := ho.swap
  obtain ⟨g1, g2, -⟩ := bxT_at ho'.head
  refine ⟨A', c', w', hr, g2, g1 1 _ rfl, ⟨?_, h.vl⟩, hb.trans (bxT_below ho' (Nat.le_trans hB hb.size) 1 _)⟩
  refine (bxT_set ho' 1 (.slice A' (t.rows.length + 1) c')).perm (List.Perm.cons _ ?_)
  refine (List.Perm.swap _ _ _).trans (List.Perm.cons _ ?_)
  exact (List.Perm.swap _ _ _).trans (List.Perm.cons _ (List.Perm.swap _ _ _))
/-- p.next = n. -/
theorem QcA.setNext (h : QcA B pb t vL vB vC vR vs X W) (hB : B ≤ W.heap.size) (n : Nat) : QcA B pb ⟨t.lp, t.bound, t.cross, t.rows, n⟩ vL vB vC vR vs X (W.setCell ⟨pb, 4, none⟩ (.int .i64 (n : Int))) ∧ Below B W (W.setCell ⟨pb, 4, none⟩ (.int .i64 (n : Int))) :=
  ⟨⟨bxT_set h.own 4 _, h.vl⟩, bxT_below h.own hB 4 _⟩
theorem QcE.add {W' : World} {o : Own} (h : QcE B pb t X W) (hb : Below W.heap.size W W') (hB : B ≤ W.heap.size) (ho : o.lies W' W.heap.size) : QcE B pb t (o :: X) W' := by
  obtain ⟨vL, vB, vC, vR, vs, h⟩ := h
  exact ⟨vL, vB, vC, vR, vs, h.add hb hB ho⟩
theorem QcE.mem (h : QcE B pb t X W) {o : Own} (ho : o ∈ X) : o.lies W B := by
  obtain ⟨vL, vB, vC, vR, vs, h⟩ := h
  exact h.own.all o (by simp only [List.mem_cons, List.mem_append]; right; right; right; right; right; right; exact ho)
theorem QcE.nil (h : QcE B pb t X W) : QcE B pb t (pxJ (.slice none 0 0) [] :: X) W := by
  obtain ⟨vL, vB, vC, vR, vs, h⟩ := h
  exact ⟨vL, vB, vC, vR, vs, h.nil⟩
/-- A literal of one number beside the piece. -/
theorem QcE.lit (h : QcE B pb t X W) (hB : B ≤ W.heap.size) (x : Int) : QcE B pb t (pxJ (.slice (some ⟨W.heap.size, 0, none⟩) [x].length 1) [x] :: X) (W.alloc (.cells #[.int .i64 x] 3)) ∧ Below B W (W.alloc (.cells #[.int .i64 x] 3)) := by
  have hal := al_t W (.cells #[.int .i64 x] 3)
  exact ⟨h.add hal hB (lit_own W [x] (by simp)), hal.mono hB⟩
/-- A box beside the piece is written. -/
theorem QcE.set {T : TypeId} {b : Nat} {vals : List Value} (h : QcE B pb t (bxT T b vals :: X) W) (hB : B ≤ W.heap.size) (k : Nat) (y : Value) : QcE B pb t (bxT T b (vals.set k y) :: X) (W.setCell ⟨b, k, none⟩ y) ∧ Below B W (W.setCell ⟨b, k, none⟩ y) := by
  obtain ⟨vL, vB, vC, vR, vs, h⟩ := h
  exact ⟨⟨_, _, _, _, _, QcA.back (bxT_set h.front k y) h.vl⟩, bxT_below h.front hB k y⟩
theorem QcE.loops (h : QcE B pb t X W) : ∃ a c, W.cell? ⟨pb, 0, none⟩ = some (.slice a t.lp.length c) ∧ (∀ k, W.frozen? ⟨pb, k, none⟩ = false) ∧ B ≤ pb ∧ pb < W.heap.size := by
  obtain ⟨vL, vB, vC, vR, vs, h⟩ := h
  obtain ⟨a, c, rfl⟩ := h.forms.1
  obtain ⟨h0, -, -, -, -, h5, h6, h7⟩ := h.cells
  exact ⟨a, c, h0, h5, h6, h7⟩
theorem QcE.next_ (h : QcE B pb t X W) : W.cell? ⟨pb, 4, none⟩ = some (.int .i64 (t.next : Int)) := by
  obtain ⟨vL, vB, vC, vR, vs, h⟩ := h
  exact h.cells.2.2.2.2.1
/-- A loop of the piece. -/
theorem QcE.loop_at (h : QcE B pb t X W) {j n : Nat} {l : Lp} (hj : t.lp[j]? = some l) (hn : t.lp.length = n) : ∃ g c, W.cell? ⟨pb, 0, none⟩ = some (.slice (some ⟨g, 0, none⟩) n c) ∧ W.cell? ⟨g, j * 4 + 3, none⟩ = some (.bool l.purl) := by
  subst hn
  obtain ⟨vL, vB, vC, vR, vs, h⟩ := h
  obtain ⟨g, c, u, rfl, -, -, -, -, hq⟩ := pxL_at h.own.tail h.vl hj
  exact ⟨g, c, h.cells.1, hq⟩
end
end Go.Proofs.YtbnddpknejgmhaaGreat
namespace Go.Proofs.YtbnddpknejgmhaaGreat
open Go.RowKit Go.Shelf Go.Sort
set_option maxRecDepth 100000

def pxV (v : Value) (ks : List Value) : Own := ⟨43, 1, ks.length, v, ks⟩
def rowsO (ks : List Value) (K : List (List Int)) : List Own := List.zipWith pxJ ks K
theorem rowsO_erase : ∀ {ks : List Value} {K : List (List Int)} {j : Nat} {v : Value} {r : List Int}, ks[j]? = some v → K[j]? = some r → (rowsO ks K).Perm (pxJ v r :: rowsO (ks.eraseIdx j) (K.eraseIdx j))
  | [], _, _, _, _, h, _ => by simp at h
  | _ :: _, [], _, _, _, _, h => by simp at h
  | k :: ks, x :: K, 0, v, r, h, h' => by
    simp at h h'
    subst h; subst h'
    exact List.Perm.refl _
  | k :: ks, x :: K, j + 1, v, r, h, h' => by
    rw [List.getElem?_cons_succ] at h h'
    exact (List.Perm.cons _ (rowsO_erase h h')).trans (List.Perm.swap _ _ _)
theorem rowsO_set {ks : List Value} {K : List (List Int)} {j : Nat} (v : Value) (r : List Int) (h : j < ks.length) (h' : j < K.length) : (rowsO (ks.set j v) (K.set j r)).Perm (pxJ v r :: rowsO (ks.eraseIdx j) (K.eraseIdx j)) := by
  have := rowsO_erase (ks := ks.set j v) (K := K.set j r) (j := j) (v := v) (r := r) (by rw [List.getElem?_set_self h]) (by rw [List.getElem?_set_self h'])
  rw [List.eraseIdx_set_eq, List.eraseIdx_set_eq] at this
  exact this
/-- An outer row, its rows, further rows. -/
structure KdA (B : Nat) (v : Value) (ks : List Value) (K : List (List Int)) (X : List Own) (W : World) : Prop where
  own : Owns W B (pxV v ks :: (rowsO ks K ++ X))
  len : ks.length = K.length
def KdE (B : Nat) (v : Value) (K : List (List Int)) (X : List Own) (W : World) : Prop := ∃ ks, KdA B v ks K X W
section
variable {B : Nat} {v : Value} {ks : List Value} {K : List (List Int)} {X : List Own} {W : World}
theorem KdE.to (h : KdE B v K X W) {W' : World} (hb : Below W.heap.size W W') : KdE B v K X W' := by
  obtain ⟨ks, h⟩ := h
  exact ⟨ks, h.own.to hb, h.len⟩
theorem KdE.form (h : KdE B v K X W) {n : Nat} (hn : K.length = n) : ∃ a c, v = .slice a n c := by
  obtain ⟨ks, h⟩ := h
  subst hn
  obtain ⟨a, c, e, -⟩ := own_slice h.own.head
  rw [← h.len]
  exact ⟨a, c, e⟩
theorem KdE.mem (h : KdE B v K X W) {o : Own} (ho : o ∈ X) : o.lies W B := by
  obtain ⟨ks, h⟩ := h
  exact h.own.all o (List.mem_cons_of_mem _ (List.mem_append_right _ ho))
theorem KdE.add (h : KdE B v K X W) {W' : World} {o : Own} (hb : Below W.heap.size W W') (hB : B ≤ W.heap.size) (ho : o.lies W' W.heap.size) : KdE B v K (o :: X) W' := by
  obtain ⟨ks, h⟩ := h
  refine ⟨ks, (h.own.add hb hB ho).perm ?_, h.len⟩
  exact (List.Perm.swap _ _ _).trans (List.Perm.cons _ List.perm_middle.symm)
theorem KdE.lift (h : KdE B v K X W) {X' : List Own} (hs : X'.Sublist X) : KdE B v K X' W := by
  obtain ⟨ks, h⟩ := h
  exact ⟨ks, h.own.sub (List.Sublist.cons_cons _ ((List.append_sublist_append_left _).2 hs)), h.len⟩
/-- Rows that hold nothing. -/
theorem owns_nils (h : Owns W B X) : ∀ n, Owns W B (rowsO (List.replicate n (.slice none 0 0)) (List.replicate n []) ++ X)
  | 0 => h
  | n + 1 => by
    rw [List.replicate_succ, List.replicate_succ]
    exact (owns_nils h n).none 3 1
theorem KdE.read {v0 : Option Addr} {n c : Nat} (h : KdE B (.slice v0 n c) K X W) : SlRows W W.heap.size v0 K := fun hne => by
  obtain ⟨ks, h⟩ := h
  have h0 : W.ownsRow B 43 1 (.slice v0 n c) ks.length ks := h.own.head
  have hl := h.len
  rcases h0.2 with ⟨-, e⟩ | ⟨g, cap, cur, hv, hg, hh, -⟩
  · exact absurd (List.length_eq_zero_iff.1 (by omega)) hne
  · cases hv
    refine ⟨g, 0, rfl, (Array.getElem?_eq_some_iff.1 hh).1, fun j row hr => ?_⟩
    have hj := (List.getElem?_eq_some_iff.1 hr).1
    have hk : ks[j]? = some (ks[j]'(by omega)) := List.getElem?_eq_getElem (by omega)
    have hx : pxJ (ks[j]'(by omega)) row ∈ rowsO ks K := by
      refine List.mem_of_getElem? (i := j) ?_
      unfold rowsO
      rw [List.getElem?_zipWith, hk, hr]
    have ho := h.own.all _ (List.mem_cons_of_mem _ (List.mem_append_left _ hx))
    obtain ⟨a', c', e⟩ := pxJ_is ho rfl
    refine ⟨a', c', ?_, ?_, ?_⟩
    · rw [Nat.zero_add, World.ownsRow.cellAt h0 j (by omega), hk, e]
    · rw [e] at ho
      obtain ⟨a2, c2, e2, h2⟩ := own_slice ho
      cases e2
      exact h2
    · rw [e] at ho
      exact pxJ_lies ho
/-- k[j] = append(k[j], x). -/
theorem KdE.grow {g c : Nat} {j n : Nat} {row : List Int} (h : KdE B (.slice (some ⟨g, 0, none⟩) n c) K X W) (hB : B ≤ W.heap.size) (hr : K[j]? = some row) (hl : row.length ≤ 100000) (x : Int) :
    ∃ a cc A' c' w', W.cell? ⟨g, j, none⟩ = some (.slice a row.length cc) ∧
      (Builtin.append_ #[43, 43] 43 #[.slice a row.length cc, .slice (some ⟨W.heap.size, 0, none⟩) 1 1]).run Tryz.prog (W.alloc (.cells #[.int .i64 x] 3)) = .ok (.slice A' (row.length + 1) c') w' ∧
      (∀ k, w'.frozen? ⟨g, k, none⟩ = false) ∧ w'.cell? ⟨g, j, none⟩ = some (.slice a row.length cc) ∧
      KdE B (.slice (some ⟨g, 0, none⟩) n c) (K.set j (row ++ [x])) X (w'.setCell ⟨g, j, none⟩ (.slice A' (row.length + 1) c')) ∧ Below B W (w'.setCell ⟨g, j, none⟩ (.slice A' (row.length + 1) c')) := by
  obtain ⟨ks, h⟩ := h
  have hlen := h.len
  have hj := (List.getElem?_eq_some_iff.1 hr).1
  have hn : n = ks.length := by
    have h0 : W.ownsRow B 43 1 (.slice (some ⟨g, 0, none⟩) n c) ks.length ks := h.own.head
    obtain ⟨a', c', e, -⟩ := own_slice h0
    cases e
    rfl
  subst hn
  obtain ⟨v, hv⟩ : ∃ v, ks[j]? = some v := ⟨_, List.getElem?_eq_getElem (by omega)⟩
  have hp : Owns W B (pxJ v row :: pxV (.slice (some ⟨g, 0, none⟩) ks.length c) ks :: (rowsO (ks.eraseIdx j) (K.eraseIdx j) ++ X)) := by
    refine (h.own.perm (List.Perm.cons _ ((rowsO_erase hv hr).append_right X))).swap
  obtain ⟨a, cc, e⟩ := pxJ_is hp.head rfl
  subst e
  obtain ⟨A', c', w', hrun, ho, hb⟩ := pxJ_app hp hB hl x
  have ho' := ho.swap
  have h0 : W.ownsRow B 43 1 (.slice (some ⟨g, 0, none⟩) ks.length c) ks.length ks := h.own.head
  have h1 : w'.ownsRow B 43 1 (.slice (some ⟨g, 0, none⟩) ks.length c) ks.length ks := ho'.head
  obtain ⟨s1, s2⟩ := World.ownsRow.stored h1 j (.slice A' (row.length + 1) c')
  obtain ⟨g1, g2⟩ := World.ownsRow.lt h1 g rfl
  refine ⟨a, cc, A', c', w', ?_, hrun, fun k => h1.frozenAt k, ?_, ⟨ks.set j (.slice A' (row.length + 1) c'), ?_, by rw [List.length_set, List.length_set]; exact hlen⟩, ?_⟩
  · rw [h0.cellAt j (by omega), hv]
  · rw [h1.cellAt j (by omega), hv]
  · refine (ho'.turn (o' := pxV (.slice (some ⟨g, 0, none⟩) ks.length c) (ks.set j (.slice A' (row.length + 1) c'))) s2 ?_ (fun k hk => Or.inl hk)).perm ?_
    · unfold pxV Own.lies
      rw [List.length_set]
      exact s1
    · exact List.Perm.cons _ ((rowsO_set _ _ (by omega) hj).symm.append_right X)
  · exact hb.trans (Below.of_grown s2 (by omega) (fun k e => by cases e; exact g1))
end
end Go.Proofs.YtbnddpknejgmhaaGreat
namespace Go.Proofs.YtbnddpknejgmhaaGreat
open Go.RowKit Go.Shelf Go.Sort
set_option maxRecDepth 100000

theorem mk_ints (n : Nat) (hn : n ≤ 1000000) (w : World) : ∃ w', (Instr.makeSlice 43 (.int .i64 (n : Int)) (.int .i64 (n : Int))).run Tryz.prog w = .ok (.slice (some ⟨w.heap.size, 0, none⟩) n n) w' ∧ (pxJ (.slice (some ⟨w.heap.size, 0, none⟩) n n) (List.replicate n 0)).lies w' w.heap.size ∧ Below w.heap.size w w' := by
  obtain ⟨i1, hi', hz0', hz1', hz2'⟩ := info_parts info_int'
  obtain ⟨w3, hmr, hob, hgb⟩ := run_make_full (P := Tryz.prog) w w.heap.size 43 3 i1 (.int .i64 0) 1 Tryz.underlying43 hi' hz0' hz1' .i64 .i64 n (by rw [hz2']; omega) (by unfold maxLen; omega) (Nat.le_refl _)
  have hb := (Below.refl w.heap.size w).grown hgb (Nat.le_refl _) (fun k e => by cases e)
  refine ⟨w3, hmr, ?_, hb⟩
  have e : (madeCells (Value.int .i64 0).cells (n * 1)).toList = (List.replicate n (0 : Int)).map (Value.int .i64) := by
    rw [Nat.mul_one, List.map_replicate]
    exact toList_madeCells_one _ _
  rw [e] at hob
  unfold pxJ Own.lies
  rw [List.length_replicate]
  exact hob
/-- A cell of a row of numbers is written. -/
theorem pxJ_set {w : World} {B g n c : Nat} {l : List Int} {L : List Own} (h : Owns w B (pxJ (.slice (some ⟨g, 0, none⟩) n c) l :: L)) (hn : l.length = n) (hB : B ≤ w.heap.size) (k : Nat) (x : Int) :
    Owns (w.setCell ⟨g, k, none⟩ (.int .i64 x)) B (pxJ (.slice (some ⟨g, 0, none⟩) n c) (l.set k x) :: L) ∧ Below B w (w.setCell ⟨g, k, none⟩ (.int .i64 x)) ∧ w.frozen? ⟨g, k, none⟩ = false ∧ ∀ j y, l[j]? = some y → w.cell? ⟨g, j, none⟩ = some (.int .i64 y) := by
  subst hn
  have h0 : w.ownsRow B 3 1 (.slice (some ⟨g, 0, none⟩) l.length c) l.length (l.map (Value.int .i64)) := h.head
  obtain ⟨s1, s2⟩ := World.ownsRow.stored h0 k (.int .i64 x)
  obtain ⟨g1, -⟩ := World.ownsRow.lt h0 g rfl
  refine ⟨h.turn (o' := pxJ (.slice (some ⟨g, 0, none⟩) l.length c) (l.set k x)) s2 ?_ (fun k hk => Or.inl hk), Below.of_grown s2 hB (fun k e => by cases e; exact g1), h0.frozenAt k, fun j y hy => ?_⟩
  · unfold pxJ Own.lies
    rw [List.length_set, List.map_set]
    exact s1
  · rw [h0.cellAt j (by have := (List.getElem?_eq_some_iff.1 hy).1; omega), List.getElem?_map, hy]; rfl
theorem QcE.setJ {B pb : Nat} {t : Pw} {X : List Own} {W : World} {g n c : Nat} {l : List Int} (h : QcE B pb t (pxJ (.slice (some ⟨g, 0, none⟩) n c) l :: X) W) (hn : l.length = n) (hB : B ≤ W.heap.size) (k : Nat) (x : Int) :
    QcE B pb t (pxJ (.slice (some ⟨g, 0, none⟩) n c) (l.set k x) :: X) (W.setCell ⟨g, k, none⟩ (.int .i64 x)) ∧ Below B W (W.setCell ⟨g, k, none⟩ (.int .i64 x)) ∧ W.frozen? ⟨g, k, none⟩ = false ∧ ∀ j y, l[j]? = some y → W.cell? ⟨g, j, none⟩ = some (.int .i64 y) := by
  obtain ⟨vL, vB, vC, vR, vs, h⟩ := h
  obtain ⟨h1, h2, h3, h4⟩ := pxJ_set h.front hn hB k x
  exact ⟨⟨_, _, _, _, _, QcA.back h1 h.vl⟩, h2, h3, h4⟩
/-- The row that take fills. -/
def takeK (a n k : Nat) : List Int := usedN a k ++ List.replicate (n - k) 0
theorem takeK_len {a n k : Nat} (h : k ≤ n) : (takeK a n k).length = n := by unfold takeK; rw [List.length_append, usedN_len, List.length_replicate]; omega
theorem takeK_next {a n k : Nat} (h : k < n) : (takeK a n k)[k]? = some 0 ∧ (takeK a n k).set k ((a + k : Nat) : Int) = takeK a n (k + 1) := by
  unfold takeK
  obtain ⟨m, hm⟩ : ∃ m, n - k = m + 1 := ⟨n - k - 1, by omega⟩
  rw [hm, List.replicate_succ, show n - (k + 1) = m by omega]
  refine ⟨?_, ?_⟩
  · rw [List.getElem?_append_right (by rw [usedN_len]; exact Nat.le_refl _), usedN_len, Nat.sub_self]; rfl
  · rw [List.set_append_right _ _ (by rw [usedN_len]; exact Nat.le_refl _), usedN_len, Nat.sub_self, List.set_cons_zero, usedN_next, List.append_assoc]
    rfl
/-- What take hands back. -/
def TkPost (B pb : Nat) (t : Pw) (n : Nat) (X : List Own) (w : World) (e : Ending) (w' : World) : Prop := ∃ v, e = .returned v ∧ QcE B pb ⟨t.lp, t.bound, t.cross, t.rows, t.next + n⟩ (pxJ v (usedN t.next n) :: X) w' ∧ Below B w w'
set_option maxHeartbeats 2000000 in
theorem ptake_any (B pb : Nat) (t : Pw) (n : Nat) (hn : n ≤ 1000) (hx : t.next ≤ 1000000) (X : List Own) (w : World) (h : QcE B pb t X w) (hB : B ≤ w.heap.size) :
    Calls Tryz.prog 83 #[.pointer (some ⟨pb, 0, none⟩), .int .i64 (n : Int)] w fun e w' => TkPost B pb t n X w e w' := by
  obtain ⟨w1, hmk, ho, hb⟩ := mk_ints n (by omega) w
  obtain ⟨g, hg⟩ : ∃ g, g = w.heap.size := ⟨_, rfl⟩
  rw [← hg] at hmk
  have H1 : Hid (QcE B pb t (pxJ (.slice (some ⟨g, 0, none⟩) n n) (takeK t.next n 0) :: X) w1 ∧ Below B w w1) := by
    rw [hg]
    have e : takeK t.next n 0 = List.replicate n 0 := by unfold takeK usedN; simp
    rw [e]
    exact ⟨h.add hb hB ho, hb.mono hB⟩
  clear h ho hb hg
  go_enter Tryz.func83, Tryz.ntmps83
  go_wp2
  go_loopw [6, 11] (fun s6 s11 wr => ∃ (k : Nat) (v6 : Value), k ≤ n ∧ s11 = .int .i64 (k : Int) ∧ v6 = s6 ∧ Hid (QcE B pb t (pxJ (.slice (some ⟨g, 0, none⟩) n n) (takeK t.next n k) :: X) wr ∧ Below B w wr)) (fun _ s11 _ => n - (intOf s11).toNat)
  case atStart => exact ⟨0, _, Nat.zero_le _, rfl, rfl, H1.out⟩
  case round =>
    obtain ⟨k, v6, hk, rfl, rfl, HX⟩ := hrel
    clear H1 hmk
    have hBs : B ≤ wr.heap.size := Nat.le_trans hB HX.out.2.size
    have y4 := HX.out.1.next_
    by_cases hlt : k < n
    · obtain ⟨q1, q2⟩ := takeK_next (a := t.next) hlt
      obtain ⟨h1, h2, h3, h4⟩ := HX.out.1.setJ (takeK_len hk) hBs k ((t.next + k : Nat) : Int)
      rw [q2] at h1
      have z0 := h4 k _ q1
      have HQ := Lib.hid (And.intro h1 (HX.out.2.trans h2))
      have hw1 : IntKind.i64.wrap ((t.next : Int) + (k : Int)) = ((t.next + k : Nat) : Int) := by rw [Int.natCast_add]; exact IntWalk.i64_in _ (by omega)
      clear h1 h2 h4 q1 q2 HX
      go_wp2
      go_roundw
      case rel => exact ⟨k + 1, _, by omega, by go_num, rfl, HQ.out⟩
      case measure => simp [intOf]; omega
    · have hkn : k = n := by omega
      have hX := HX.out
      rw [hkn] at hX
      obtain ⟨⟨vL, vB, vC, vR, vs, hP⟩, hb⟩ := hX
      obtain ⟨h1, h2⟩ := hP.setNext hBs (t.next + n)
      have e : takeK t.next n n = usedN t.next n := by unfold takeK; simp
      rw [e] at h1
      have f4 := hP.cells.2.2.2.2.2.1 4
      have HQ : Hid (TkPost B pb t n X w (.returned (.slice (some ⟨g, 0, none⟩) n n)) (wr.setCell ⟨pb, 4, none⟩ (.int .i64 ((t.next + n : Nat) : Int)))) := ⟨_, rfl, ⟨vL, vB, vC, vR, vs, h1⟩, hb.trans h2⟩
      have hw1 : IntKind.i64.wrap ((t.next : Int) + (n : Int)) = ((t.next + n : Nat) : Int) := by rw [Int.natCast_add]; exact IntWalk.i64_in _ (by omega)
      clear h1 h2 e hP hb HX
      go_wp2
      go_ret
      exact HQ.out
end Go.Proofs.YtbnddpknejgmhaaGreat
