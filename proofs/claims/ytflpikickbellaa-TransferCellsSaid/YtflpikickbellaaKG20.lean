/- Layer 32: the reference's Of: its memory. Layer 32: the reference's Of: what its loops have found. Layer 32: the reference's Of, walked. -/
import Derived.Test.YtflpikickbellaaKG16
import Derived.Test.YtflpikickbellaaKG19
import Derived.Test.YtflpikickbellaaKG23
import Derived.Test.YtflpikickbellaaKOf
import Derived.Test.YtflpikickbellaaKG21
namespace Go.Proofs.Ytflpikickbellaa
open Go.RowKit Go.Shelf Go.Sort
set_option maxRecDepth 100000

/-! The matrix: a row of k rows that are made, the others nil. -/
def mtO (mb n k : Nat) (gs : Nat → Nat) : Own := ⟨85, 1, n, .slice (some ⟨mb, 0, none⟩) n n, (List.range n).map fun i => if i < k then .slice (some ⟨gs i, 0, none⟩) n n else .slice none 0 0⟩
def mtI (n k : Nat) (gs : Nat → Nat) (f : Nat → Nat → Bool) : List Own := (List.range k).map fun i => pxB (gs i) n (f i)
theorem info_sbT : (Try.prog.info? 85).map (fun i => (i.zero, i.size, i.bytes)) = some (some (.slice none 0 0), 1, 24) := by kernel_rfl
theorem mtO_at {w : World} {B mb n k : Nat} {gs : Nat → Nat} (h : (mtO mb n k gs).lies w B) : (∀ i, i < n → w.cell? ⟨mb, i, none⟩ = some (if i < k then .slice (some ⟨gs i, 0, none⟩) n n else .slice none 0 0)) ∧ (∀ j, w.frozen? ⟨mb, j, none⟩ = false) ∧ B ≤ mb := by
  have h0 : w.ownsRow B 85 1 (.slice (some ⟨mb, 0, none⟩) n n) n ((List.range n).map fun i => if i < k then Value.slice (some ⟨gs i, 0, none⟩) n n else .slice none 0 0) := h
  refine ⟨fun i hi => ?_, fun j => h0.frozenAt j, (World.ownsRow.lt h0 mb rfl).1⟩
  rw [h0.cellAt i (by omega), List.getElem?_map, List.getElem?_range hi]; rfl
theorem mk_matT (w : World) (n : Nat) (hn : n ≤ 1000000) : ∃ w', (Instr.makeSlice 109 (.int .i64 (n : Int)) (.int .i64 (n : Int))).run Try.prog w = .ok (.slice (some ⟨w.heap.size, 0, none⟩) n n) w' ∧ (mtO w.heap.size n 0 (fun _ => 0)).lies w' w.heap.size ∧ Below w.heap.size w w' := by
  obtain ⟨i1, hi', hz0', hz1', hz2'⟩ := info_parts info_sbT
  obtain ⟨w3, hmr, hob, hgb⟩ := run_make_full (P := Try.prog) w w.heap.size 109 85 i1 (.slice none 0 0) 1 Try.underlying109 hi' hz0' hz1' .i64 .i64 n (by rw [hz2']; omega) (by unfold maxLen; omega) (Nat.le_refl _)
  have hb := (Below.refl w.heap.size w).grown hgb (Nat.le_refl _) (fun k e => by cases e)
  refine ⟨w3, hmr, ?_, hb⟩
  have e : (madeCells (Value.slice none 0 0).cells (n * 1)).toList = (List.range n).map fun i => if i < 0 then Value.slice (some ⟨0, 0, none⟩) n n else .slice none 0 0 := by
    simp only [Nat.not_lt_zero, if_false]
    rw [Nat.mul_one, List.map_const', List.length_range]
    exact toList_madeCells_one _ _
  rw [e] at hob
  exact hob
/-- One row of the matrix is laid. -/
theorem mtO_put {w : World} {B mb n k g : Nat} {gs : Nat → Nat} {L : List Own} (h : Owns w B (mtO mb n k gs :: L)) : Owns (w.setCell ⟨mb, k, none⟩ (.slice (some ⟨g, 0, none⟩) n n)) B (mtO mb n (k + 1) (fun i => if i = k then g else gs i) :: L) := by
  have h0 : w.ownsRow B 85 1 (.slice (some ⟨mb, 0, none⟩) n n) n ((List.range n).map fun i => if i < k then Value.slice (some ⟨gs i, 0, none⟩) n n else .slice none 0 0) := h.head
  obtain ⟨h1, h2⟩ := World.ownsRow.stored h0 k (.slice (some ⟨g, 0, none⟩) n n)
  have e : ((List.range n).map fun i => if i < k then Value.slice (some ⟨gs i, 0, none⟩) n n else .slice none 0 0).set k (.slice (some ⟨g, 0, none⟩) n n) = (List.range n).map fun i => if i < k + 1 then Value.slice (some ⟨if i = k then g else gs i, 0, none⟩) n n else .slice none 0 0 := by
    apply List.ext_getElem (by simp)
    intro j h1 h2
    rw [List.getElem_set]
    simp only [List.getElem_map, List.getElem_range]
    by_cases hj : k = j
    · subst hj
      rw [if_pos rfl, if_pos (by omega), if_pos rfl]
    · rw [if_neg hj]
      by_cases hjk : j < k
      · rw [if_pos hjk, if_pos (by omega), if_neg (by omega)]
      · rw [if_neg hjk, if_neg (by omega)]
  rw [e] at h1
  exact h.turn (o' := mtO mb n (k + 1) (fun i => if i = k then g else gs i)) h2 h1 (fun j hj => Or.inl hj)
theorem mtI_next {n k g : Nat} {gs : Nat → Nat} {f : Nat → Nat → Bool} (hf : ∀ b, b < n → f k b = false) : mtI n (k + 1) (fun i => if i = k then g else gs i) f = mtI n k gs f ++ [pxB g n (fun _ => false)] := by
  unfold mtI
  rw [List.range_succ, List.map_append]
  congr 1
  · apply List.map_congr_left
    intro i hi
    have := List.mem_range.1 hi
    simp only
    rw [if_neg (show ¬ i = k by omega)]
  · simp only [List.map_cons, List.map_nil, if_true]
    congr 1
    unfold pxB
    congr 1
    apply List.map_congr_left
    intro b hb
    rw [hf b (List.mem_range.1 hb)]
theorem mtI_pick (n : Nat) {k i : Nat} (hi : i < k) (gs : Nat → Nat) (f : Nat → Nat → Bool) : (mtI n k gs f).Perm (pxB (gs i) n (f i) :: ((List.range k).erase i).map fun j => pxB (gs j) n (f j)) := by
  unfold mtI
  exact (List.perm_cons_erase (List.mem_range.2 hi)).map _
/-- One mark in the matrix. -/
def putM (f : Nat → Nat → Bool) (a b : Nat) : Nat → Nat → Bool := fun i j => f i j || (decide (i = a) && decide (j = b))
theorem mtI_put {w : World} {B n k a : Nat} {gs : Nat → Nat} {f : Nat → Nat → Bool} {L R : List Own} (ha : a < k) (h : Owns w B (L ++ (mtI n k gs f ++ R))) (b : Nat) : Owns (w.setCell ⟨gs a, b, none⟩ (.bool true)) B (L ++ (mtI n k gs (putM f a b) ++ R)) := by
  have hp := mtI_pick n ha gs f
  have h1 : Owns w B (pxB (gs a) n (f a) :: (L ++ ((((List.range k).erase a).map fun j => pxB (gs j) n (f j)) ++ R))) := by
    refine h.perm (((hp.append_right R).append_left L).trans ?_)
    exact List.perm_middle
  have h2 := pxB_put h1 b
  have e1 : pxB (gs a) n (putN (f a) b) = pxB (gs a) n (putM f a b a) := by
    unfold pxB putN putM
    congr 1
    apply List.map_congr_left
    intro j _
    simp
  have e2 : (((List.range k).erase a).map fun j => pxB (gs j) n (f j)) = ((List.range k).erase a).map fun j => pxB (gs j) n (putM f a b j) := by
    apply List.map_congr_left
    intro j hj
    have hne := (List.nodup_range.mem_erase_iff.1 hj).1
    unfold pxB putM
    congr 1
    apply List.map_congr_left
    intro q _
    rw [decide_eq_false hne]; simp
  rw [e1, e2] at h2
  refine h2.perm ?_
  refine List.perm_middle.symm.trans ?_
  exact ((mtI_pick n ha gs (putM f a b)).symm.append_right R).append_left L
theorem mtI_mem {n k i : Nat} (hi : i < k) (gs : Nat → Nat) (f : Nat → Nat → Bool) : pxB (gs i) n (f i) ∈ mtI n k gs f := by
  unfold mtI
  exact List.mem_map.2 ⟨i, List.mem_range.2 hi, rfl⟩
theorem mtI_eq {n k : Nat} {gs gs' : Nat → Nat} {f f' : Nat → Nat → Bool} (hg : ∀ i, i < k → gs i = gs' i) (hf : ∀ i j, i < k → j < n → f i j = f' i j) : mtI n k gs f = mtI n k gs' f' := by
  unfold mtI
  apply List.map_congr_left
  intro i hi
  rw [hg i (List.mem_range.1 hi)]
  unfold pxB
  congr 1
  apply List.map_congr_left
  intro j hj
  rw [hf i j (List.mem_range.1 hi) (List.mem_range.1 hj)]
/-! All together: the shift's box, its two rows, the matrix. -/
structure RfA (B n sb tb mb k : Nat) (gs : Nat → Nat) (vF : Value) (fr : List (Int × Int)) (g : Nat → Int) (f : Nat → Nat → Bool) (X : List Own) (W : World) : Prop where
  own : Owns W B (sfO sb (.slice (some ⟨tb, 0, none⟩) n n) vF :: pxZ tb n g :: pxP vF fr :: mtO mb n k gs :: (mtI n k gs f ++ X))
section
variable {B n sb tb mb k : Nat} {gs : Nat → Nat} {vF : Value} {fr : List (Int × Int)} {g : Nat → Int} {f : Nat → Nat → Bool} {X : List Own} {W : World}
theorem RfA.to (h : RfA B n sb tb mb k gs vF fr g f X W) {W' : World} (hb : Below W.heap.size W W') : RfA B n sb tb mb k gs vF fr g f X W' := ⟨h.own.to hb⟩
theorem RfA.mem (h : RfA B n sb tb mb k gs vF fr g f X W) {o : Own} (ho : o ∈ X) : o.lies W B := h.own.all o (by simp only [List.mem_cons, List.mem_append]; right; right; right; right; right; exact ho)
theorem RfA.sb_ (h : RfA B n sb tb mb k gs vF fr g f X W) : W.cell? ⟨sb, 0, none⟩ = some (.slice (some ⟨tb, 0, none⟩) n n) ∧ W.cell? ⟨sb, 1, none⟩ = some vF ∧ ∀ k, W.frozen? ⟨sb, k, none⟩ = false := sfO_at h.own.head
theorem RfA.tb_ (h : RfA B n sb tb mb k gs vF fr g f X W) : (∀ i, i < n → W.cell? ⟨tb, i, none⟩ = some (.int .i64 (g i))) ∧ (∀ k, W.frozen? ⟨tb, k, none⟩ = false) ∧ B ≤ tb ∧ tb < W.heap.size := pxZ_at h.own.tail.head
theorem RfA.mb_ (h : RfA B n sb tb mb k gs vF fr g f X W) : (∀ i, i < n → W.cell? ⟨mb, i, none⟩ = some (if i < k then .slice (some ⟨gs i, 0, none⟩) n n else .slice none 0 0)) ∧ (∀ j, W.frozen? ⟨mb, j, none⟩ = false) ∧ B ≤ mb := mtO_at h.own.tail.tail.tail.head
theorem RfA.gs_ (h : RfA B n sb tb mb k gs vF fr g f X W) {i : Nat} (hi : i < k) : (∀ j, j < n → W.cell? ⟨gs i, j, none⟩ = some (.bool (f i j))) ∧ (∀ j, W.frozen? ⟨gs i, j, none⟩ = false) ∧ B ≤ gs i := by
  obtain ⟨h1, h2, h3⟩ := pxB_at (h.own.all (pxB (gs i) n (f i)) (by simp only [List.mem_cons, List.mem_append]; right; right; right; right; left; exact mtI_mem hi gs f))
  exact ⟨h1.2, h2, h3⟩
theorem RfA.form (h : RfA B n sb tb mb k gs vF fr g f X W) : ∃ a c, vF = .slice a fr.length c := pxP_form h.own.tail.tail
theorem rf_set {b : Nat} (hb : B ≤ b) (hB : B ≤ W.heap.size) (j : Nat) (y : Value) : Below B W (W.setCell ⟨b, j, none⟩ y) := Below.of_grown (grown_setAt W b j y) hB (fun k e => by cases e; exact hb)
/-- s.To[u] = x. -/
theorem RfA.putT (h : RfA B n sb tb mb k gs vF fr g f X W) (hB : B ≤ W.heap.size) (u : Nat) (x : Int) : RfA B n sb tb mb k gs vF fr (fun j => if j = u then x else g j) f X (W.setCell ⟨tb, u, none⟩ (.int .i64 x)) ∧ Below B W (W.setCell ⟨tb, u, none⟩ (.int .i64 x)) :=
  ⟨⟨(pxZ_put h.own.swap u x).swap⟩, rf_set h.tb_.2.2.1 hB u _⟩
/-- before[a][b] = true. -/
theorem RfA.putB (h : RfA B n sb tb mb k gs vF fr g f X W) (hB : B ≤ W.heap.size) {a : Nat} (ha : a < k) (b : Nat) : RfA B n sb tb mb k gs vF fr g (putM f a b) X (W.setCell ⟨gs a, b, none⟩ (.bool true)) ∧ Below B W (W.setCell ⟨gs a, b, none⟩ (.bool true)) :=
  ⟨⟨mtI_put (L := [sfO sb (.slice (some ⟨tb, 0, none⟩) n n) vF, pxZ tb n g, pxP vF fr, mtO mb n k gs]) ha h.own b⟩, rf_set (h.gs_ ha).2.2 hB b _⟩
/-- s.First = append(s.First, p). -/
theorem RfA.pushF {a : Option Addr} {c : Nat} (h : RfA B n sb tb mb k gs (.slice a fr.length c) fr g f X W) (hB : B ≤ W.heap.size) (hl : fr.length ≤ 100000) (p : Int × Int) :
    ∃ A' c' w', (Builtin.append_ #[23, 23] 23 #[.slice a fr.length c, .slice (some ⟨W.heap.size, 0, none⟩) 1 1]).run Try.prog (W.alloc (prB p)) = .ok (.slice A' (fr.length + 1) c') w' ∧
      w'.cell? ⟨sb, 1, none⟩ = some (.slice a fr.length c) ∧ (∀ k, w'.frozen? ⟨sb, k, none⟩ = false) ∧
      RfA B n sb tb mb k gs (.slice A' (fr.length + 1) c') (fr ++ [p]) g f X (w'.setCell ⟨sb, 1, none⟩ (.slice A' (fr.length + 1) c')) ∧ Below B W (w'.setCell ⟨sb, 1, none⟩ (.slice A' (fr.length + 1) c')) := by
  have hp : Owns W B (pxP (.slice a fr.length c) fr :: sfO sb (.slice (some ⟨tb, 0, none⟩) n n) (.slice a fr.length c) :: pxZ tb n g :: mtO mb n k gs :: (mtI n k gs f ++ X)) := h.own.perm ((List.Perm.cons _ (List.Perm.swap _ _ _)).trans (List.Perm.swap _ _ _))
  obtain ⟨A', c', w', hr, ho, hb⟩ := pxP_app hp hB hl p
  have ho' : Owns w' B (sfO sb (.slice (some ⟨tb, 0, none⟩) n n) (.slice a fr.length c) :: pxZ tb n g :: pxP (.slice A' (fr.length + 1) c') (fr ++ [p]) :: mtO mb n k gs :: (mtI n k gs f ++ X)) := ho.perm ((List.Perm.swap _ _ _).trans (List.Perm.cons _ (List.Perm.swap _ _ _)))
  obtain ⟨-, q0, q1⟩ := sfO_at ho'.head
  exact ⟨A', c', w', hr, q0, q1, ⟨sfO_set ho' 1 _⟩, hb.trans (sfO_below ho' (Nat.le_trans hB hb.size) 1 _)⟩
/-- One more row of the matrix. -/
theorem RfA.row (h : RfA B n sb tb mb k gs vF fr g (fun _ _ => false) X W) (hB : B ≤ W.heap.size) (hn : n ≤ 1000000) :
    ∃ w', (Instr.makeSlice 85 (.int .i64 (n : Int)) (.int .i64 (n : Int))).run Try.prog W = .ok (.slice (some ⟨W.heap.size, 0, none⟩) n n) w' ∧ (k < n → w'.cell? ⟨mb, k, none⟩ = some (.slice none 0 0)) ∧ (∀ j, w'.frozen? ⟨mb, j, none⟩ = false) ∧
      RfA B n sb tb mb (k + 1) (fun i => if i = k then W.heap.size else gs i) vF fr g (fun _ _ => false) X (w'.setCell ⟨mb, k, none⟩ (.slice (some ⟨W.heap.size, 0, none⟩) n n)) ∧ Below B W (w'.setCell ⟨mb, k, none⟩ (.slice (some ⟨W.heap.size, 0, none⟩) n n)) := by
  obtain ⟨w', hr, ho, hb⟩ := mk_boolsT W n hn
  have h1 : Owns w' B (pxB W.heap.size n (fun _ => false) :: sfO sb (.slice (some ⟨tb, 0, none⟩) n n) vF :: pxZ tb n g :: pxP vF fr :: mtO mb n k gs :: (mtI n k gs (fun _ _ => false) ++ X)) := h.own.add hb hB ho.head
  have h2 : Owns w' B (mtO mb n k gs :: pxB W.heap.size n (fun _ => false) :: sfO sb (.slice (some ⟨tb, 0, none⟩) n n) vF :: pxZ tb n g :: pxP vF fr :: (mtI n k gs (fun _ _ => false) ++ X)) := by
    refine h1.perm ?_
    refine (List.Perm.cons _ (List.Perm.cons _ (List.Perm.cons _ (List.Perm.swap _ _ _)))).trans ?_
    refine (List.Perm.cons _ (List.Perm.cons _ (List.Perm.swap _ _ _))).trans ?_
    exact (List.Perm.cons _ (List.Perm.swap _ _ _)).trans (List.Perm.swap _ _ _)
  obtain ⟨m1, m2, m3⟩ := mtO_at h2.head
  have h3 := mtO_put (g := W.heap.size) h2
  have hb2 : Below B w' (w'.setCell ⟨mb, k, none⟩ (.slice (some ⟨W.heap.size, 0, none⟩) n n)) := Below.of_grown (grown_setAt w' mb k _) (Nat.le_trans hB hb.size) (fun k e => by cases e; exact m3)
  refine ⟨w', hr, fun hk => by rw [m1 k hk, if_neg (Nat.lt_irrefl k)], m2, ⟨?_⟩, (hb.mono hB).trans hb2⟩
  rw [mtI_next (fun _ _ => rfl)]
  refine h3.perm ?_
  have e1 : (pxB W.heap.size n (fun _ => false) :: (mtI n k gs (fun _ _ => false) ++ X)).Perm (mtI n k gs (fun _ _ => false) ++ [pxB W.heap.size n (fun _ => false)] ++ X) := by
    rw [List.append_assoc]
    exact List.perm_middle.symm
  refine List.Perm.trans ?_ (List.Perm.cons _ (List.Perm.cons _ (List.Perm.cons _ (List.Perm.cons _ e1))))
  refine (List.Perm.cons _ (List.Perm.swap _ _ _)).trans ?_
  refine (List.Perm.swap _ _ _).trans (List.Perm.cons _ ?_)
  refine (List.Perm.cons _ (List.Perm.swap _ _ _)).trans ?_
  refine (List.Perm.swap _ _ _).trans (List.Perm.cons _ ?_)
  refine (List.Perm.cons _ (List.Perm.swap _ _ _)).trans ?_
  exact (List.Perm.swap _ _ _).trans (List.Perm.cons _ (List.Perm.refl _))
end
end Go.Proofs.Ytflpikickbellaa
namespace Go.Proofs.Ytflpikickbellaa
open Go.RowKit Go.Shelf Go.Sort
set_option maxRecDepth 100000

def BL3 (n : Nat) (P : List (List Int)) (m : Nat) (f : Nat → Nat → Bool) : Prop := ∀ a b : Nat, a < n → b < n → (f a b = true ↔ ∃ j, j < m ∧ bfP (P.getD (n + j) []) a b)
def BL4 (n : Nat) (P : List (List Int)) (m k : Nat) (f : Nat → Nat → Bool) : Prop := ∀ a b : Nat, a < n → b < n → (f a b = true ↔ (∃ j, j < m ∧ bfP (P.getD (n + j) []) a b) ∨ ∃ k' q, k' < k ∧ k' < q ∧ (P.getD (n + m) [])[k']? = some (a : Int) ∧ (P.getD (n + m) [])[q]? = some (b : Int))
def BL5 (n : Nat) (P : List (List Int)) (m k q : Nat) (f : Nat → Nat → Bool) : Prop := ∀ a b : Nat, a < n → b < n → (f a b = true ↔ ((∃ j, j < m ∧ bfP (P.getD (n + j) []) a b) ∨ ∃ k' q, k' < k ∧ k' < q ∧ (P.getD (n + m) [])[k']? = some (a : Int) ∧ (P.getD (n + m) [])[q]? = some (b : Int)) ∨ ∃ q', k < q' ∧ q' < q ∧ (P.getD (n + m) [])[k]? = some (a : Int) ∧ (P.getD (n + m) [])[q']? = some (b : Int))
def BL6 (n : Nat) (P : List (List Int)) (cr : List (Int × Int)) (j : Nat) (f : Nat → Nat → Bool) : Prop := ∀ a b : Nat, a < n → b < n → (f a b = true ↔ (∃ j', n ≤ j' ∧ bfP (P.getD j' []) a b) ∨ ∃ c ∈ cr.take j, hdP P c.1 = a ∧ hdP P c.2 = b)
def TL4 (n : Nat) (P : List (List Int)) (m k : Nat) (g : Nat → Int) : Prop := ∀ u, u < n → g u = if (u : Int) ∈ (P.getD (n + m) []).take k then (m : Int) else toG P n m u
theorem TL4.start {n : Nat} {P : List (List Int)} {m : Nat} {g : Nat → Int} (h : ∀ u, u < n → g u = toG P n m u) : TL4 n P m 0 g := fun u hu => by rw [h u hu, List.take_zero, if_neg List.not_mem_nil]
theorem TL4.next {n : Nat} {P : List (List Int)} {m k : Nat} {g : Nat → Int} (h : TL4 n P m k g) {x : Nat} (hx : (P.getD (n + m) [])[k]? = some (x : Int)) : TL4 n P m (k + 1) (fun j => if j = x then (m : Int) else g j) := fun u hu => by
  obtain ⟨hk, e⟩ := List.getElem?_eq_some_iff.1 hx
  simp only
  rw [List.take_succ_eq_append_getElem hk, e]
  by_cases e2 : u = x
  · subst e2; rw [if_pos rfl, if_pos (List.mem_append.2 (Or.inr List.mem_cons_self))]
  · rw [if_neg e2, h u hu]
    by_cases hm : (u : Int) ∈ (P.getD (n + m) []).take k
    · rw [if_pos hm, if_pos (List.mem_append.2 (Or.inl hm))]
    · rw [if_neg hm, if_neg (fun hc => by
        rcases List.mem_append.1 hc with hc | hc
        · exact hm hc
        · have := List.mem_singleton.1 hc; omega)]
theorem TL4.end_ {n : Nat} {P : List (List Int)} {m : Nat} {g : Nat → Int} (h : TL4 n P m (P.getD (n + m) []).length g) : ∀ u, u < n → g u = toG P n (m + 1) u := fun u hu => by
  rw [h u hu, List.take_length]; rfl
theorem BL4.start {n : Nat} {P : List (List Int)} {m : Nat} {f : Nat → Nat → Bool} (h : BL3 n P m f) : BL4 n P m 0 f := fun a b ha hb => by
  rw [h a b ha hb]
  constructor
  · exact Or.inl
  · rintro (h1 | ⟨k, q, h1, -⟩)
    · exact h1
    · omega
theorem BL5.start {n : Nat} {P : List (List Int)} {m k : Nat} {f : Nat → Nat → Bool} (h : BL4 n P m k f) : BL5 n P m k (k + 1) f := fun a b ha hb => by
  rw [h a b ha hb]
  constructor
  · exact Or.inl
  · rintro (h1 | ⟨q, h1, h2, -⟩)
    · exact h1
    · omega
theorem putM_iff {f : Nat → Nat → Bool} {a0 b0 a b : Nat} : putM f a0 b0 a b = true ↔ f a b = true ∨ (a = a0 ∧ b = b0) := by
  unfold putM
  rw [Bool.or_eq_true, Bool.and_eq_true, decide_eq_true_eq, decide_eq_true_eq]
theorem BL5.next {n : Nat} {P : List (List Int)} {m k q : Nat} {f : Nat → Nat → Bool} (h : BL5 n P m k q f) (hkq : k < q) {x y : Nat} (hx : (P.getD (n + m) [])[k]? = some (x : Int)) (hy : (P.getD (n + m) [])[q]? = some (y : Int)) : BL5 n P m k (q + 1) (putM f x y) := fun a b ha hb => by
  rw [putM_iff, h a b ha hb]
  constructor
  · rintro ((h1 | ⟨q', h1, h2, h3, h4⟩) | ⟨rfl, rfl⟩)
    · exact Or.inl h1
    · exact Or.inr ⟨q', h1, by omega, h3, h4⟩
    · exact Or.inr ⟨q, hkq, by omega, hx, hy⟩
  · rintro (h1 | ⟨q', h1, h2, h3, h4⟩)
    · exact Or.inl (Or.inl h1)
    · by_cases e : q' = q
      · subst e
        rw [hx] at h3
        rw [hy] at h4
        exact Or.inr ⟨by have := Option.some.inj h3; omega, by have := Option.some.inj h4; omega⟩
      · exact Or.inl (Or.inr ⟨q', h1, by omega, h3, h4⟩)
theorem BL5.end_ {n : Nat} {P : List (List Int)} {m k q : Nat} {f : Nat → Nat → Bool} (h : BL5 n P m k q f) (hq : (P.getD (n + m) []).length ≤ q) : BL4 n P m (k + 1) f := fun a b ha hb => by
  rw [h a b ha hb]
  constructor
  · rintro ((h1 | ⟨k', q', h1, h2, h3, h4⟩) | ⟨q', h1, h2, h3, h4⟩)
    · exact Or.inl h1
    · exact Or.inr ⟨k', q', by omega, h2, h3, h4⟩
    · exact Or.inr ⟨k, q', by omega, h1, h3, h4⟩
  · rintro (h1 | ⟨k', q', h1, h2, h3, h4⟩)
    · exact Or.inl (Or.inl h1)
    · by_cases e : k' = k
      · subst e
        have := (List.getElem?_eq_some_iff.1 h4).1
        exact Or.inr ⟨q', h2, by omega, h3, h4⟩
      · exact Or.inl (Or.inr ⟨k', q', by omega, h2, h3, h4⟩)
theorem BL4.end_ {n : Nat} {P : List (List Int)} {m k : Nat} {f : Nat → Nat → Bool} (h : BL4 n P m k f) (hk : (P.getD (n + m) []).length ≤ k) : BL3 n P (m + 1) f := fun a b ha hb => by
  rw [h a b ha hb]
  constructor
  · rintro (⟨j, h1, h2⟩ | ⟨k', q, h1, h2, h3, h4⟩)
    · exact ⟨j, by omega, h2⟩
    · exact ⟨m, by omega, k', q, h2, h3, h4⟩
  · rintro ⟨j, h1, h2⟩
    by_cases e : j = m
    · subst e
      obtain ⟨k', q, h3, h4, h5⟩ := h2
      have := (List.getElem?_eq_some_iff.1 h4).1
      exact Or.inr ⟨k', q, by omega, h3, h4, h5⟩
    · exact Or.inl ⟨j, by omega, h2⟩
theorem BL6.start {n nd : Nat} {P : List (List Int)} (cr : List (Int × Int)) {f : Nat → Nat → Bool} (hP : P.length = n + nd) (h : BL3 n P nd f) : BL6 n P cr 0 f := fun a b ha hb => by
  rw [h a b ha hb, List.take_zero]
  constructor
  · rintro ⟨j, -, h2⟩
    exact Or.inl ⟨n + j, by omega, h2⟩
  · rintro (⟨j, h1, h2⟩ | ⟨c, hc, -⟩)
    · refine ⟨j - n, ?_, by rw [show n + (j - n) = j by omega]; exact h2⟩
      by_cases e : j < n + nd
      · omega
      · rw [getD_far (by omega)] at h2
        exact absurd h2 pr_nil
    · cases hc
theorem BL6.next {n : Nat} {P : List (List Int)} {cr : List (Int × Int)} {j : Nat} {f : Nat → Nat → Bool} (h : BL6 n P cr j f) {c : Int × Int} (hc : cr[j]? = some c) {x y : Nat} (hx : hdP P c.1 = (x : Int)) (hy : hdP P c.2 = (y : Int)) : BL6 n P cr (j + 1) (putM f x y) := fun a b ha hb => by
  obtain ⟨hj, e⟩ := List.getElem?_eq_some_iff.1 hc
  rw [putM_iff, h a b ha hb, List.take_succ_eq_append_getElem hj, e]
  constructor
  · rintro ((h1 | ⟨d, hd, h1, h2⟩) | ⟨rfl, rfl⟩)
    · exact Or.inl h1
    · exact Or.inr ⟨d, List.mem_append.2 (Or.inl hd), h1, h2⟩
    · exact Or.inr ⟨c, List.mem_append.2 (Or.inr List.mem_cons_self), hx, hy⟩
  · rintro (h1 | ⟨d, hd, h1, h2⟩)
    · exact Or.inl (Or.inl h1)
    · rcases List.mem_append.1 hd with hd | hd
      · exact Or.inl (Or.inr ⟨d, hd, h1, h2⟩)
      · rw [List.mem_singleton.1 hd] at h1 h2
        exact Or.inr ⟨by omega, by omega⟩
theorem BL6.end_ {n : Nat} {P : List (List Int)} {cr : List (Int × Int)} {f : Nat → Nat → Bool} (h : BL6 n P cr cr.length f) : ∀ a b : Nat, a < n → b < n → (f a b = true ↔ befA n P cr a b) := fun a b ha hb => by
  rw [h a b ha hb, List.take_length]; rfl
/-! The memory at its beginning. -/
theorem Owns.low {w : World} {B B' : Nat} {L : List Own} (h : Owns w B L) (hb : B' ≤ B) : Owns w B' L := ⟨fun o ho => World.ownsRow.mono (h.all o ho) hb, h.apart⟩
theorem rf_new {B : Nat} {X : List Own} {W : World} (h : Owns W B X) (hB : B ≤ W.heap.size) (n : Nat) (hn : n ≤ 1000000) :
    ∃ w6 w8, (Instr.makeSlice 22 (.int .i64 (n : Int)) (.int .i64 (n : Int))).run Try.prog W = .ok (.slice (some ⟨W.heap.size, 0, none⟩) n n) w6 ∧
      (Instr.makeSlice 109 (.int .i64 (n : Int)) (.int .i64 (n : Int))).run Try.prog (w6.alloc (.cells #[.slice (some ⟨W.heap.size, 0, none⟩) n n, .slice none 0 0] 25)) = .ok (.slice (some ⟨(w6.alloc (.cells #[.slice (some ⟨W.heap.size, 0, none⟩) n n, .slice none 0 0] 25)).heap.size, 0, none⟩) n n) w8 ∧
      RfA B n w6.heap.size W.heap.size (w6.alloc (.cells #[.slice (some ⟨W.heap.size, 0, none⟩) n n, .slice none 0 0] 25)).heap.size 0 (fun _ => 0) (.slice none 0 0) [] (fun _ => 0) (fun _ _ => false) X w8 ∧ Below B W w8 := by
  obtain ⟨w6, hr6, ho6, hb6⟩ := mk_intsT W n hn
  have h6 : Owns w6 B (pxZ W.heap.size n (fun _ => 0) :: X) := h.add hb6 hB ho6.head
  have hB6 := Nat.le_trans hB hb6.size
  have hb7 := al_t w6 (.cells #[.slice (some ⟨W.heap.size, 0, none⟩) n n, .slice none 0 0] 25)
  have h7 : Owns (w6.alloc (.cells #[.slice (some ⟨W.heap.size, 0, none⟩) n n, .slice none 0 0] 25)) B (sfO w6.heap.size (.slice (some ⟨W.heap.size, 0, none⟩) n n) (.slice none 0 0) :: pxZ W.heap.size n (fun _ => 0) :: X) := h6.add hb7 hB6 (box_new w6 25 [.slice (some ⟨W.heap.size, 0, none⟩) n n, .slice none 0 0] rfl)
  obtain ⟨w8, hr8, ho8, hb8⟩ := mk_matT (w6.alloc (.cells #[.slice (some ⟨W.heap.size, 0, none⟩) n n, .slice none 0 0] 25)) n hn
  have h8 := (h7.add hb8 (Nat.le_trans hB6 hb7.size) ho8).none 63 2
  refine ⟨w6, w8, hr6, hr8, ⟨?_⟩, (hb6.mono hB).trans ((hb7.mono hB6).trans (hb8.mono (Nat.le_trans hB6 hb7.size)))⟩
  refine h8.perm ?_
  show (pxP (.slice none 0 0) [] :: _ :: _ :: _ :: X).Perm (_ :: _ :: _ :: _ :: ([] ++ X))
  rw [List.nil_append]
  refine (List.Perm.cons _ (List.Perm.swap _ _ _)).trans ?_
  refine (List.Perm.swap _ _ _).trans (List.Perm.cons _ ?_)
  refine (List.Perm.cons _ (List.Perm.swap _ _ _)).trans ?_
  exact List.Perm.swap _ _ _
end Go.Proofs.Ytflpikickbellaa
namespace Go.Proofs.Ytflpikickbellaa
open Go.RowKit Go.Shelf Go.Sort
set_option maxRecDepth 100000

theorem rof_close {W : World} {tmps : Array Value} {v f : Value} {x : Int} {b : Nat} {R : Ending → World → Prop} (c0 : W.cell? ⟨b, 0, none⟩ = some v) (c1 : W.cell? ⟨b, 1, none⟩ = some f) (h6 : tmps[2]?.getD undef = .pointer (some ⟨b, 0, none⟩)) (h7 : tmps[3]?.getD undef = .int .i64 x) (hR : R (.returned (.tuple #[.agg #[v, f], .int .i64 x])) W) :
    bodyPost Try.prog Try.f22 R .ret { tmps := tmps, defers := [] } W := by
  refine bodyPost_ret (v := .tuple #[.agg #[v, f], .int .i64 x]) ?_ rfl hR
  simp [results, Try.results22, go_sem, h6, h7, c0, c1]
/-- off, a needle of any size. -/
theorem roff_wide (A F : Option Addr) (c fc : Nat) (s : Sft) (i : Nat) (hi : i < s.n) (h0 : 0 ≤ s.to_.getD i 0) (h1 : s.to_.getD i 0 ≤ 100000) (hn : s.n ≤ 1000) (w : World) (h : SfAt A F s w) :
    Calls Try.prog 42 #[sftV A F c fc s, .int .i64 (i : Int)] w fun e w' => e = .returned (.int .i64 (offN s i)) ∧ Below w.heap.size w w' := by
  have hbx := SfBx.new c fc h
  obtain ⟨b, off, hA, hcl⟩ := hbx.to_at hi
  have c0 := hbx.c0
  have HF : Hid (offN s i = s.to_.getD i 0 - (i : Int)) := rfl
  obtain ⟨z, hz⟩ : ∃ z, z = s.to_.getD i 0 := ⟨_, rfl⟩
  rw [← hz] at h0 h1 hcl HF
  have HB := Lib.hid (al_t w (sftB A F c fc s))
  have hi' : i < s.to_.length := hi
  have hn' : s.to_.length ≤ 1000 := hn
  subst hA
  clear h hbx hz hi hn
  go_enter Try.func42, Try.ntmps42
  go_wp2
  go_ret
  exact ⟨ret_int HF.out.symm, HB.out⟩
theorem Owns.one {w : World} {B : Nat} {o : Own} (h : o.lies w B) : Owns w B [o] := ⟨fun x hx => by rw [List.mem_singleton.1 hx]; exact h, List.pairwise_singleton _ _⟩
/-- The piece is among the rows. -/
structure PcR (t : Pw) (pb : Nat) (vL vC : Value) (vs : List Value) (X : List Own) : Prop where
  box : ∃ vB vR, bxT 102 pb [vL, vB, vC, vR] ∈ X
  lp : pxL vL t.lp vs ∈ X
  cr : pxP vC t.cross ∈ X
  par : ∀ o ∈ parO t.lp vs, o ∈ X
  vl : vs.length = t.lp.length
theorem PcR.cells {t : Pw} {pb : Nat} {vL vC : Value} {vs : List Value} {X : List Own} (h : PcR t pb vL vC vs X) {W : World} {B : Nat} (hX : ∀ o ∈ X, o.lies W B) : W.cell? ⟨pb, 0, none⟩ = some vL ∧ W.cell? ⟨pb, 2, none⟩ = some vC := by
  obtain ⟨vB, vR, hb⟩ := h.box
  obtain ⟨h1, -⟩ := bxT_at (hX _ hb)
  exact ⟨h1 0 _ rfl, h1 2 _ rfl⟩
/-- A loop's parents, as they are read. -/
theorem PcR.at_ {t : Pw} {pb : Nat} {vL vC : Value} {vs : List Value} {X : List Own} (h : PcR t pb vL vC vs X) {W0 : World} {B : Nat} (hX0 : ∀ o ∈ X, o.lies W0 B) {j : Nat} {x : Lp} (hj : t.lp[j]? = some x) :
    ∃ g c a k, vL = .slice (some ⟨g, 0, none⟩) t.lp.length c ∧ ∀ W : World, (∀ o ∈ X, o.lies W B) → W.cell? ⟨g, j * 4 + 2, none⟩ = some (.slice a x.par.length k) ∧ ∀ i y, x.par[i]? = some y → ∃ q, a = some ⟨q, 0, none⟩ ∧ W.cell? ⟨q, i, none⟩ = some (.int .i64 y) := by
  obtain ⟨g, c, u, e, hu, -⟩ := pxL_at (Owns.one (hX0 _ h.lp)) h.vl hj
  obtain ⟨a, k, rfl⟩ := pxJ_is (hX0 _ (h.par _ (parO_at hj hu))) rfl
  refine ⟨g, c, a, k, e, fun W hX => ?_⟩
  obtain ⟨g', c', u', e', hu', -, -, h2, -⟩ := pxL_at (Owns.one (hX _ h.lp)) h.vl hj
  rw [e] at e'
  cases e'
  rw [hu] at hu'
  cases hu'
  refine ⟨h2, fun i y hi => ?_⟩
  obtain ⟨q, c', e2, hc⟩ := pxJ_at (hX _ (h.par _ (parO_at hj hu))) hi rfl
  cases e2
  exact ⟨q, rfl, hc⟩
theorem Owns.past {W W' : World} {B rb : Nat} {L : List Own} (h : Owns W B L) (hg : W.grownBy W' (some rb)) (hlt : rb < B) : Owns W' B L :=
  ⟨fun o ho => World.ownsRow.kept (h.all o ho) hg (by
    cases e : o.v.ownBlock with
    | none => exact Or.inl rfl
    | some k =>
      refine Or.inr fun e2 => ?_
      have := (World.ownsRow.lt (h.all o ho) k e).1
      cases e2
      omega), h.apart⟩
theorem pxZ_sl {w : World} {B g n : Nat} {f : Nat → Int} (h : (pxZ g n f).lies w B) : SlI w w.heap.size (some ⟨g, 0, none⟩) ((List.range n).map f) := fun _ => by
  obtain ⟨h1, -, -, h4⟩ := pxZ_at h
  refine ⟨g, 0, rfl, h4, fun j z hz => ?_⟩
  have hj := (List.getElem?_eq_some_iff.1 hz).1
  rw [List.length_map, List.length_range] at hj
  rw [List.getElem?_map, List.getElem?_range hj] at hz
  cases hz
  rw [Nat.zero_add]
  exact h1 j hj
theorem pxP_at {w : World} {B n : Nat} {v : Value} {l : List (Int × Int)} (h : (pxP v l).lies w B) {i : Nat} {p : Int × Int} (hi : l[i]? = some p) (hn : l.length = n) : ∃ g c, v = .slice (some ⟨g, 0, none⟩) n c ∧ w.cell? ⟨g, i * 2, none⟩ = some (.int .i64 p.1) ∧ w.cell? ⟨g, i * 2 + 1, none⟩ = some (.int .i64 p.2) := by
  have h0 : w.ownsRow B 63 2 v l.length (l.map prC).flatten := h
  have h1 := (List.getElem?_eq_some_iff.1 hi).1
  subst hn
  rcases h0.2 with ⟨-, e⟩ | ⟨g, cap, cur, hv, -⟩
  · omega
  · subst hv
    have hz : (l.map prC)[i]? = some (prC p) := by rw [List.getElem?_map, hi]; rfl
    have hx : ∀ j x, (prC p)[j]? = some x → w.cell? ⟨g, i * 2 + j, none⟩ = some x := fun j x hj => by
      have h4 := flat_at (cells_two l) hz hj
      have h5 := (List.getElem?_eq_some_iff.1 h4).1
      rw [flat_len (cells_two l), List.length_map] at h5
      exact (h0.cellAt _ h5).trans h4
    exact ⟨g, cap, rfl, hx 0 _ rfl, hx 1 _ rfl⟩
set_option maxHeartbeats 64000000 in
theorem rof_any (A : Option Addr) (c : Nat) (l : List Stc) (hlc : l.length ≤ c) (w : World) (hs : SlT w w.heap.size A l) :
    Calls Try.prog 22 #[.slice A l.length c] w fun e w' => ShPost w (ofE l) e w' := by
  have hb1 := al_t w (.cells #[.slice none 0 0, .slice none 0 0] 25)
  have HR0 := Lib.hid (RbA.new w)
  have hs1 := (hs.below hb1).more hb1.size
  have HA := Lib.hid (rall_any A c l _ hs1)
  have HT := Lib.hid hs1
  obtain ⟨r, hr⟩ : ∃ r, r = ofE l := ⟨_, rfl⟩
  rw [← hr]
  obtain ⟨rb, hrb⟩ : ∃ rb, rb = w.heap.size := ⟨_, rfl⟩
  have HR0 : Hid (RbA w rb (w.alloc (.cells #[.slice none 0 0, .slice none 0 0] 25))) := by rw [hrb]; exact HR0.out
  clear hs hb1 hs1
  by_cases hE : allE l = 0
  case neg =>
    have HR : Hid (r = (⟨[], []⟩, allE l)) := by show _ = _; rw [hr]; unfold ofE; rw [if_pos hE]
    have d0 : (allE l != 0) = true := by simpa using hE
    have HA2 : Hid (∀ W, SlT W W.heap.size A l → Calls Try.prog 54 #[.slice A l.length c] W fun e w' => RetE (allE l) W e w') := fun W h => rall_any A c l W h
    obtain ⟨x, hx⟩ : ∃ x, x = allE l := ⟨_, rfl⟩
    rw [← hx] at HR d0 HA
    simp only [← hx] at HA2
    clear hr hE hx
    go_enter Try.func22, Try.ntmps22
    go_upto_region 2 with ((go_at_call 54; refine HA.out.mono ?_; rintro e w1 ⟨rfl, hb1⟩))
    rw [← hrb]
    refine abs_world (Q := fun W => Code.wp _ _ _ _ W) (F := fun W => RbA w rb W ∧ SlT W W.heap.size A l) _ ⟨HR0.out.to hb1, (HT.out.below hb1).more hb1.size⟩ ?_
    clear hb1 HA HR0 hrb HT
    rintro W ⟨h, ht⟩
    have HC2 := Lib.hid (HA2.out W ht)
    have HXs : Hid (∀ W', Below W.heap.size W W' → RbA w rb W') := fun W' hb => h.to hb
    clear h ht HA2
    go_wp2_with ((go_at_call 54; refine HC2.out.mono ?_; rintro e w2 ⟨rfl, hb2⟩; obtain ⟨r0, r1, rf, -, -⟩ := HXs.out w2 hb2; have HL := Lib.hid ((HXs.out w2 hb2).lay (.slice none 0 0) (.slice none 0 0))))
    (try simp only [Exit.inBlock, Exit.then])
    refine rof_close HL.out.1 HL.out.2.1 ?_ ?_ (ShPost.none HR.out HL.out.2.2.1) <;> rfl
  case pos =>
  obtain ⟨hl200, hok, hsu, hsm⟩ := all_zero hE
  have hue : usesE l = sumU l := by unfold usesE; rw [if_pos hE]
  have HUs : Hid (∀ W, SlT W W.heap.size A l → Calls Try.prog 55 #[.slice A l.length c] W fun e w' => e = .returned (.tuple #[.int .i64 (sumU l), .int .i64 0]) ∧ Below W.heap.size W w') := fun W h => by
    have := ruses_any A c l W h
    rw [hE, hue] at this
    exact this
  rw [hE] at HA
  obtain ⟨n, hn⟩ : ∃ n : Nat, sumU l = (n : Int) := ⟨(sumU l).toNat, by have := sumU_nn (fun s hs => stc_k (hok s hs)); omega⟩
  simp only [hn] at HUs
  have hn200 : n ≤ 200 := by omega
  have HBk : Hid (l.any kindB = true → r = (⟨[], []⟩, 2)) := fun h => by rw [hr]; unfold ofE; rw [if_neg (by rw [hE]; simp), if_pos h]
  have HMa : Hid (l.any kindB = false → 40 < n → r = (⟨[], []⟩, 4)) := fun h h2 => by rw [hr]; unfold ofE; rw [if_neg (by rw [hE]; simp), if_neg (by rw [h]; simp), if_pos (by rw [hn]; omega)]
  have HRf : Hid (l.any kindB = false → n ≤ 40 → ∀ {t : Pw}, t = rowRun 1 l (startP n) l.length → _) := fun h h2 t ht => of_ref hE h (by rw [hn]; omega) hn.symm ht
  have HRe := Lib.hid hr
  have HKs := Lib.hid hok
  have HSm := Lib.hid hsm
  have HSu := Lib.hid hn
  clear hr hE hue hsm hok hsu hn
  go_enter Try.func22, Try.ntmps22
  go_upto_region 3 with ((go_at_call 54; refine HA.out.mono ?_; rintro e w1 ⟨rfl, hb1⟩))
  rw [← hrb]
  refine abs_world (Q := fun W => Code.wp _ _ _ _ W) (F := fun W => RbA w rb W ∧ SlT W W.heap.size A l) _ ⟨HR0.out.to hb1, (HT.out.below hb1).more hb1.size⟩ ?_
  clear hb1 HA HR0 HT hrb
  rintro W0 ⟨hr0, ht0⟩
  have HXs : Hid (∀ W, Below W0.heap.size W0 W → RbA w rb W ∧ SlT W W.heap.size A l) := fun W hb => ⟨hr0.to hb, (ht0.below hb).more hb.size⟩
  clear hr0 ht0
  go_wp2
  go_loopw [4] (fun s4 wr => ∃ k : Nat, k ≤ l.length ∧ s4 = .int .i64 (k : Int) ∧ Hid (∀ j (x : Stc), j < k → l[j]? = some x → kindB x = false) ∧ Hid (W0 = wr)) (fun s4 _ => l.length - (intOf s4).toNat)
  case atStart => exact ⟨0, Nat.zero_le _, rfl, (fun j x h => absurd h (Nat.not_lt_zero j)), rfl⟩
  case round =>
    obtain ⟨k, hk, rfl, HN, HW⟩ := hrel
    obtain rfl := HW.out
    clear HW
    by_cases hlt : k < l.length
    case pos =>
      obtain ⟨b, off, x, hA, -, hx, hc0, -, -, -⟩ := (HXs.out W0 (Below.refl _ _)).2.at_ hlt
      have HBx := Lib.hid (show kindB x = (decide (x.kind = 5) || decide (9 ≤ x.kind)) from rfl)
      have HX := Lib.hid hx
      have hxk := stc_k (HKs.out x (List.mem_of_getElem? hx))
      have hx1 := hxk.lo
      have hx2 := hxk.hi
      have hRb := (HXs.out W0 (Below.refl _ _)).1
      have r0 := hRb.r0
      have r1 := hRb.r1
      have rf := hRb.fz
      have HL := Lib.hid (hRb.lay (.slice none 0 0) (.slice none 0 0))
      obtain ⟨kind, purl, sa, sb⟩ := x
      simp only at hc0 hx1 hx2
      subst hA
      clear hx hRb hxk
      have HSt : Hid (kindB ⟨kind, purl, sa, sb⟩ = true → r = (⟨[], []⟩, 2)) := fun h => HBk.out (List.any_eq_true.2 ⟨_, List.mem_of_getElem? HX.out, h⟩)
      have HGo : Hid (kindB ⟨kind, purl, sa, sb⟩ = false → ∀ j (x : Stc), j < k + 1 → l[j]? = some x → kindB x = false) := fun h j y hj hy => by
        by_cases e : j = k
        · subst e
          rw [HX.out] at hy
          cases hy
          exact h
        · exact HN.out j y (by omega) hy
      have hbad : ∀ kd : Int, kd = kind → (kd = 5 ∨ 9 ≤ kd) → kindB ⟨kind, purl, sa, sb⟩ = true := fun kd e h => by
        rw [HBx.out]; simp only; rw [Bool.or_eq_true, decide_eq_true_eq, decide_eq_true_eq]; omega
      have hgood : (¬ (kind = 5 ∨ 9 ≤ kind)) → kindB ⟨kind, purl, sa, sb⟩ = false := fun h => by
        rw [HBx.out]; simp only; rw [Bool.or_eq_false_iff, decide_eq_false_iff_not, decide_eq_false_iff_not]; omega
      clear HBx HX
      rcases (by omega : (kind = 5 ∨ kind = 9 ∨ kind = 10) ∨ (kind = 1 ∨ kind = 2 ∨ kind = 3 ∨ kind = 4 ∨ kind = 6 ∨ kind = 7 ∨ kind = 8)) with h | h
      · have HR := Lib.hid (HSt.out (hbad kind rfl (by omega)))
        clear hbad hgood HSt HGo hx1 hx2
        rcases h with rfl | rfl | rfl
        all_goals
          go_wp2
          (try simp only [Exit.inBlock, Exit.then])
          refine rof_close HL.out.1 HL.out.2.1 ?_ ?_ (ShPost.none HR.out HL.out.2.2.1) <;> rfl
      · have HN2 := Lib.hid (HGo.out (hgood (by omega)))
        clear hbad hgood HSt HGo hx1 hx2 HL r0 r1 rf HN
        rcases h with rfl | rfl | rfl | rfl | rfl | rfl | rfl
        all_goals
          go_wp2
          go_roundw
          case rel => exact ⟨k + 1, by omega, by go_num, HN2.out, by first | rfl | trivial⟩
          case measure => simp [intOf]; omega
    case neg =>
      obtain rfl : k = l.length := by omega
      have hany : l.any kindB = false := by
        rw [List.any_eq_false]
        intro x hx
        obtain ⟨j, hj⟩ := List.mem_iff_getElem?.1 hx
        rw [HN.out j x (List.getElem?_eq_some_iff.1 hj).1 hj]; simp
      have HMa2 := Lib.hid (HMa.out hany)
      have HRf2 := Lib.hid (HRf.out hany)
      have HC1 := Lib.hid (HUs.out W0 (HXs.out W0 (Below.refl _ _)).2)
      clear HN hany HMa HRf HBk HUs hk hlt
      go_upto_region 10 with ((go_at_call 55; refine HC1.out.mono ?_; rintro e w1 ⟨rfl, hb1⟩))
      refine abs_world (Q := fun W => Code.wp _ _ _ _ W) (F := fun W => RbA w rb W ∧ SlT W W.heap.size A l) _ (HXs.out _ hb1) ?_
      clear hb1 HC1 HXs
      rintro W2 ⟨hr0, ht0⟩
      by_cases h40 : 40 < n
      case pos =>
        have d1 : decide (40 < (n : Int)) = true := decide_eq_true (by omega)
        have d1' : decide (40 < n) = true := decide_eq_true h40
        have HR := Lib.hid (HMa2.out h40)
        have r0 := hr0.r0
        have r1 := hr0.r1
        have rf := hr0.fz
        have HL := Lib.hid (hr0.lay (.slice none 0 0) (.slice none 0 0))
        clear HMa2 HRf2 hr0 ht0
        go_wp2
        (try simp only [Exit.inBlock, Exit.then])
        refine rof_close HL.out.1 HL.out.2.1 ?_ ?_ (ShPost.none HR.out HL.out.2.2.1) <;> rfl
      case neg =>
        have d1 : decide (40 < (n : Int)) = false := decide_eq_false (by omega)
        have d1' : decide (40 < n) = false := decide_eq_false h40
        have hn40 : n ≤ 40 := by omega
        have HXs : Hid (∀ W, Below W2.heap.size W2 W → RbA w rb W ∧ SlT W W.heap.size A l) := fun W hb => ⟨hr0.to hb, (ht0.below hb).more hb.size⟩
        have HRf3 := Lib.hid (HRf2.out hn40 rfl)
        obtain ⟨t, ht⟩ : ∃ t, t = rowRun 1 l (startP n) l.length := ⟨_, rfl⟩
        rw [← ht] at HRf3
        have HTe := Lib.hid ht
        have HPn : Hid (∀ x ∈ t.lp, x.par.length ≤ 200) := by rw [ht]; exact fun x hx => par_few (fun s hs => stc_k (HKs.out s hs)) (startP n) (start_few n) l.length (Nat.le_refl _) x hx
        clear HMa2 HRf2 hr0 ht0 ht
        have hwk : WkOk n [l] := ⟨hn200, by simp, fun k l' hl' => by
          cases k with
          | succ k => simp at hl'
          | zero =>
            obtain rfl : l = l' := by simpa using hl'
            refine ⟨HKs.out, hl200, by have := HSu.out; omega, HSm.out, ?_⟩
            show ((startP n).next : Int) + sumU l = (startP n).lp.length
            rw [startP_len, HSu.out]
            show (0 : Int) + _ = _
            omega⟩
        have hbr := al_t W2 (.cells #[.bool false, .slice A l.length c] 105)
        have hsc : SlC (W2.alloc (.cells #[.bool false, .slice A l.length c] 105)) (W2.alloc (.cells #[.bool false, .slice A l.length c] 105)).heap.size (some ⟨W2.heap.size, 0, none⟩) [(false, l)] := fun _ => by
          refine ⟨_, 0, rfl, by simp, fun j r hj => ?_⟩
          cases j with
          | succ j => simp at hj
          | zero =>
            obtain rfl : (false, l) = r := by simpa using hj
            refine ⟨A, c, cell_new rfl rfl rfl, cell_new rfl rfl rfl, hlc, ((HXs.out W2 (Below.refl _ _)).2.below hbr).more hbr.size⟩
        have HWk : Hid (Calls Try.prog 56 #[.agg #[.int .i64 (n : Int), .slice (some ⟨W2.heap.size, 0, none⟩) 1 1]] (W2.alloc (.cells #[.bool false, .slice A l.length c] 105)) fun e w' => WkPost (workP n [l] 1) (W2.alloc (.cells #[.bool false, .slice A l.length c] 105)) e w') :=
          rwork_any n (some ⟨W2.heap.size, 0, none⟩) 1 [(false, l)] [l] rfl hwk _ hsc (fun k r f hr hf W A c hs => by
            cases k with
            | succ k => simp at hr
            | zero =>
              obtain rfl : (false, l) = r := by simpa using hr
              obtain rfl : l = f := by simpa using hf
              exact rseen_plain A c l (by omega) W hs)
        have HEq : Hid (workP n [l] 1 = endR t) := by show _ = _; rw [HTe.out]; rfl
        rw [HEq.out] at HWk
        have HBr := Lib.hid hbr
        clear hwk hbr hsc HEq
        go_upto_region 13 with ((go_at_call 56; refine HWk.out.mono ?_; rintro e w5 ⟨vL, vB, vC, vR, vs, rfl, hv, ho, hb5⟩; obtain ⟨a1, c1, rfl⟩ := pxL_form ho; obtain ⟨a2, c2, rfl⟩ := pxJ_form ho.tail; obtain ⟨a3, c3, rfl⟩ := pxP_form ho.tail.tail; obtain ⟨a4, c4, rfl⟩ := pxJ_form ho.tail.tail.tail))
        have hb25 := HBr.out.trans (hb5.mono HBr.out.size)
        have ho2 := (ho.low HBr.out.size).add (al_t w5 (.cells #[.slice a1 (endR t).lp.length c1, .slice a2 (endR t).bound.length c2, .slice a3 (endR t).cross.length c3, .slice a4 (endR t).rows.length c4] 102)) hb25.size (bxT_new w5 102 [.slice a1 (endR t).lp.length c1, .slice a2 (endR t).bound.length c2, .slice a3 (endR t).cross.length c3, .slice a4 (endR t).rows.length c4])
        have HF : Hid (∃ X, PcR t w5.heap.size (.slice a1 t.lp.length c1) (.slice a3 t.cross.length c3) vs X ∧ Owns (w5.alloc (.cells #[.slice a1 (endR t).lp.length c1, .slice a2 (endR t).bound.length c2, .slice a3 (endR t).cross.length c3, .slice a4 (endR t).rows.length c4] 102)) W2.heap.size X ∧ Below W2.heap.size W2 (w5.alloc (.cells #[.slice a1 (endR t).lp.length c1, .slice a2 (endR t).bound.length c2, .slice a3 (endR t).cross.length c3, .slice a4 (endR t).rows.length c4] 102))) :=
          ⟨_, ⟨⟨_, _, List.mem_cons_self⟩, by simp [endR], by simp [endR], fun o ho => by simp only [List.mem_cons]; right; right; right; right; right; exact ho, hv⟩, ho2, hb25.trans ((al_t _ _).mono hb25.size)⟩
        obtain ⟨X, hPR, hO, hB⟩ := HF.out
        obtain ⟨pb, hpb⟩ : ∃ pb, pb = w5.heap.size := ⟨_, rfl⟩
        rw [← hpb] at hPR
        have HPR := Lib.hid hPR
        refine abs_world (Q := fun W => Code.wp _ _ _ _ W) (F := fun W => Owns W W2.heap.size X ∧ Below W2.heap.size W2 W) _ ⟨hO, hB⟩ ?_
        rw [← hpb]
        clear HF ho2 hb25 hO hB hPR hpb ho hb5 hv HWk HBr
        rintro W5 ⟨hO, hB⟩
        obtain ⟨w6, w8, hr6, hr8, hRf, hbf⟩ := rf_new hO hB.size n (by omega)
        have HRf0 := Lib.hid (And.intro hRf (hB.trans hbf))
        clear hRf hbf hO hB
        go_upto_region 15 with fail
        obtain ⟨tb, htb⟩ : ∃ x, x = W5.heap.size := ⟨_, rfl⟩
        obtain ⟨mb, hmb⟩ : ∃ x, x = (w6.alloc (.cells #[.slice (some ⟨W5.heap.size, 0, none⟩) n n, .slice none 0 0] 25)).heap.size := ⟨_, rfl⟩
        obtain ⟨sb, hsb⟩ : ∃ x, x = w6.heap.size := ⟨_, rfl⟩
        rw [← hmb, ← hsb, ← htb] at HRf0
        refine abs_world (Q := fun W => Code.wp _ _ _ _ W) (F := fun W => RfA W2.heap.size n sb tb mb 0 (fun _ => 0) (.slice none 0 0) [] (fun _ => 0) (fun _ _ => false) X W ∧ Below W2.heap.size W2 W) _ HRf0.out ?_
        have hmb2 : mb = sb + 1 := by rw [hmb, hsb]; simp
        rw [← hsb, ← hmb2]
        clear HRf0 hr6 hr8 htb hmb hsb hmb2 w6 w8
        obtain ⟨nd, q1, q2, q3, q4, q5, q6⟩ := HRf3.out
        obtain ⟨P, hP⟩ : ∃ P, P = t.lp.map Lp.par := ⟨_, rfl⟩
        rw [← hP] at q3 q5 q6
        simp only [← hP] at q4
        have HP := Lib.hid hP
        have HQ1 := Lib.hid q1
        have HQ3 := Lib.hid q3
        have HQ4 := Lib.hid q4
        have HQ5 := Lib.hid q5
        have HQ6 := Lib.hid q6
        have hnd : nd ≤ 2400 := by omega
        have hPl : Hid (P.length = n + nd) := by show _ = _; rw [hP, List.length_map]; exact q1
        clear HRf3 q1 q2 q3 q4 q5 q6 hP
        obtain ⟨N, hN⟩ : ∃ N, N = t.lp.length := ⟨_, rfl⟩
        obtain ⟨CL, hCL⟩ : ∃ CL, CL = t.cross.length := ⟨_, rfl⟩
        rw [← hN, ← hCL] at HPR
        have HNe : Hid (N = n + nd) := by show _ = _; rw [hN]; exact HQ1.out
        have HCe := Lib.hid hCL
        have hCL4 : CL ≤ 4000 := by
          have h := (rowRun_bc (row := 1) (fun s hs => stc_k (HKs.out s hs)) (startP n) l.length (Nat.le_refl _)).2
          rw [← HTe.out, List.take_length, HSu.out] at h
          have h2 : (startP n).cross.length = 0 := rfl
          rw [h2] at h
          omega
        have HNl := Lib.hid hN
        clear hN hCL
        rintro W8 ⟨hRf, hB⟩
        have HRfA := Lib.hid hRf
        have HB8 := Lib.hid hB
        clear hRf hB
        go_wp2
        go_loopw [11] (fun s11 wr => ∃ k : Nat, s11 = .int .i64 (k : Int) ∧ k ≤ n ∧ Hid (∃ gs, RfA W2.heap.size n sb tb mb k gs (.slice none 0 0) [] (fun _ => 0) (fun _ _ => false) X wr) ∧ Hid (Below W2.heap.size W2 wr)) (fun s11 _ => n - (intOf s11).toNat)
        case atStart => exact ⟨0, rfl, Nat.zero_le _, ⟨_, HRfA.out⟩, HB8.out⟩
        case round =>
          obtain ⟨k, rfl, hk, HR, HB⟩ := hrel
          clear HRfA HB8
          obtain ⟨W9, hW9⟩ : ∃ x : World, x = wr := ⟨_, rfl⟩
          rw [← hW9] at HR HB ⊢
          clear hW9
          by_cases hlt : k < n
          case pos =>
            have d1 : decide ((k : Int) < (n : Int)) = true := decide_eq_true (by omega)
            have d1' : decide (k < n) = true := decide_eq_true hlt
            obtain ⟨gs, hR⟩ := HR.out
            obtain ⟨w', hr, m1, m2, hR2, hb2⟩ := hR.row HB.out.size (by omega)
            have m1' := m1 hlt
            have m2' := m2 k
            have HQ : Hid ((∃ gs, RfA W2.heap.size n sb tb mb (k + 1) gs (.slice none 0 0) [] (fun _ => 0) (fun _ _ => false) X (w'.setCell ⟨mb, k, none⟩ (.slice (some ⟨W9.heap.size, 0, none⟩) n n))) ∧ Below W2.heap.size W2 (w'.setCell ⟨mb, k, none⟩ (.slice (some ⟨W9.heap.size, 0, none⟩) n n))) := ⟨⟨_, hR2⟩, HB.out.trans hb2⟩
            clear hR hR2 hb2 m1 m2 HR
            go_wp2
            go_roundw
            case rel => exact ⟨k + 1, by go_num, by omega, HQ.out.1, HQ.out.2⟩
            case measure => simp [intOf]; omega
          case neg =>
            obtain rfl : n = k := by omega
            have d1 : decide ((n : Int) < (n : Int)) = false := decide_eq_false (by omega)
            obtain ⟨gs, hR⟩ := HR.out
            have HL0 : Hid (∃ g f, RfA W2.heap.size n sb tb mb n gs (.slice none 0 0) [] g f X W9 ∧ (∀ u, u < n → g u = toG P n 0 u) ∧ BL3 n P 0 f) := ⟨_, _, hR, fun _ _ => rfl, fun a b _ _ => by
              constructor
              · intro h; cases h
              · rintro ⟨j, hj, -⟩; omega⟩
            clear hR HR hk hlt
            go_wp2
            go_loopw [12] (fun s12 wr => ∃ m : Nat, s12 = .int .i64 ((n + m : Nat) : Int) ∧ m ≤ nd ∧ Hid (∃ g f, RfA W2.heap.size n sb tb mb n gs (.slice none 0 0) [] g f X wr ∧ (∀ u, u < n → g u = toG P n m u) ∧ BL3 n P m f) ∧ Hid (Below W2.heap.size W2 wr)) (fun s12 _ => (n + nd) - (intOf s12).toNat)
            case atStart => exact ⟨0, rfl, Nat.zero_le _, HL0.out, HB.out⟩
            case round =>
              obtain ⟨m, rfl, hm, HS, HB⟩ := hrel
              clear HL0
              obtain ⟨W10, hW10⟩ : ∃ x : World, x = wr := ⟨_, rfl⟩
              rw [← hW10] at HS HB ⊢
              clear hW10
              obtain ⟨g, f, hR, hT, hBL⟩ := HS.out
              obtain ⟨p0, p2⟩ := HPR.out.cells (fun o ho => hR.mem ho)
              obtain ⟨i, hi⟩ : ∃ i, i = n + m := ⟨_, rfl⟩
              rw [← hi]
              have HIe := Lib.hid hi
              by_cases hlt : m < nd
              case pos =>
                have d1 : decide ((i : Int) < (N : Int)) = true := decide_eq_true (by have := HNe.out; omega)
                have d1' : decide (i < N) = true := decide_eq_true (by have := HNe.out; omega)
                have hil : i < t.lp.length := by have := HNe.out; have := HNl.out; omega
                obtain ⟨x, hx⟩ : ∃ x, t.lp[i]? = some x := ⟨_, List.getElem?_eq_getElem hil⟩
                have HPx : Hid (P.getD (n + m) [] = x.par) := by show _ = _; rw [← hi, HP.out, List.getD_eq_getElem?_getD, List.getElem?_map, hx]; rfl
                obtain ⟨lg, lc, ua, uk, e, hup⟩ := HPR.out.at_ (fun o ho => hR.mem ho) hx
                rw [← HNl.out] at e
                have h2 := (hup W10 (fun o ho => hR.mem ho)).1
                have HUp := Lib.hid (fun W (h : ∃ vF fr g f, RfA W2.heap.size n sb tb mb n gs vF fr g f X W) => (hup W (by obtain ⟨_, _, _, _, h⟩ := h; exact fun o ho => h.mem ho)).2)
                obtain ⟨par, hpar⟩ : ∃ par, par = x.par := ⟨_, rfl⟩
                rw [← hpar] at HPx h2 HUp
                obtain ⟨pl, hpl⟩ : ∃ pl, pl = par.length := ⟨_, rfl⟩
                rw [← hpl] at h2
                have HPl := Lib.hid hpl
                have hp200 : pl ≤ 200 := by rw [hpl, hpar]; exact HPn.out x (List.mem_of_getElem? hx)
                have HRng : Hid (∀ k y, par[k]? = some y → 0 ≤ y ∧ y < (n : Int)) := fun k y hy => HQ3.out (n + m) (by omega) y (by rw [HPx.out]; exact List.mem_of_getElem? hy)
                have HL4 : Hid (∃ g f, RfA W2.heap.size n sb tb mb n gs (.slice none 0 0) [] g f X W10 ∧ TL4 n P m 0 g ∧ BL4 n P m 0 f) := ⟨g, f, hR, TL4.start hT, BL4.start hBL⟩
                have hiN : (i : Int) < (N : Int) := by have := HNe.out; omega
                have hi0 : (0 : Int) ≤ (i : Int) := by omega
                have hwm : IntKind.i64.wrap ((i : Int) - (n : Int)) = (m : Int) := by rw [show (i : Int) - (n : Int) = (m : Int) by omega]; exact IntWalk.i64_in _ (by omega)
                cases e
                clear hR hT hBL HS hup hx hi hil hpar hpl
                go_upto_region 23 with fail
                go_wp2
                go_loopw [14] (fun s14 wr => ∃ k : Nat, s14 = .int .i64 (k : Int) ∧ k ≤ pl ∧ Hid (∃ g f, RfA W2.heap.size n sb tb mb n gs (.slice none 0 0) [] g f X wr ∧ TL4 n P m k g ∧ BL4 n P m k f) ∧ Hid (Below W2.heap.size W2 wr)) (fun s14 _ => pl - (intOf s14).toNat)
                case atStart => exact ⟨0, rfl, Nat.zero_le _, HL4.out, HB.out⟩
                case round =>
                  obtain ⟨k, rfl, hk, HS, HB⟩ := hrel
                  clear HL4 p0 p2 h2
                  obtain ⟨W11, hW11⟩ : ∃ x : World, x = wr := ⟨_, rfl⟩
                  rw [← hW11] at HS HB ⊢
                  clear hW11
                  obtain ⟨g, f, hR, hT, hBL⟩ := HS.out
                  by_cases hkl : k < pl
                  case neg =>
                    have d2 : decide ((k : Int) < (pl : Int)) = false := decide_eq_false (by omega)
                    have d2' : decide (k < pl) = false := decide_eq_false hkl
                    have hke : k = (P.getD (n + m) []).length := by rw [HPx.out, ← HPl.out]; omega
                    have HQ : Hid (∃ g f, RfA W2.heap.size n sb tb mb n gs (.slice none 0 0) [] g f X W11 ∧ (∀ u, u < n → g u = toG P n (m + 1) u) ∧ BL3 n P (m + 1) f) := ⟨g, f, hR, (by rw [hke] at hT; exact hT.end_), hBL.end_ (by omega)⟩
                    have HIn : Hid (i + 1 = n + (m + 1)) := by show _ = _; have := HIe.out; omega
                    have hi3 : i ≤ 3000 := by have := HIe.out; omega
                    clear hR hT hBL HS hke hwm
                    go_wp2
                    go_roundw
                    case rel => exact ⟨m + 1, by rw [← HIn.out]; go_num, by omega, HQ.out, HB.out⟩
                    case measure => have h := HIe.out; have h2 : i = n + m := h; simp [intOf]; omega
                  case pos =>
                    have d2 : decide ((k : Int) < (pl : Int)) = true := decide_eq_true (by omega)
                    have d2' : decide (k < pl) = true := decide_eq_true hkl
                    obtain ⟨y, hy⟩ : ∃ y, par[k]? = some y := ⟨_, List.getElem?_eq_getElem (by have := HPl.out; omega)⟩
                    obtain ⟨y0, y1⟩ := HRng.out k y hy
                    obtain ⟨yn, rfl⟩ : ∃ yn : Nat, y = (yn : Int) := ⟨y.toNat, by omega⟩
                    have hyn : yn < n := by omega
                    obtain ⟨uq, he, hc⟩ := HUp.out W11 ⟨_, _, _, _, hR⟩ k _ hy
                    have HY := Lib.hid hy
                    subst he
                    obtain ⟨s0, -, -⟩ := hR.sb_
                    have t0 := hR.tb_.1 yn hyn
                    have tf := hR.tb_.2.1 yn
                    obtain ⟨hR2, hb2⟩ := hR.putT HB.out.size yn (m : Int)
                    have hdr : Below (W11.setCell ⟨tb, yn, none⟩ (.int .i64 (m : Int))).heap.size (W11.setCell ⟨tb, yn, none⟩ (.int .i64 (m : Int))) (W11.setCell ⟨tb, yn, none⟩ (.int .i64 (m : Int))).drew := Below.drew (Below.refl _ _)
                    have hT2 := hT.next (x := yn) (by rw [HPx.out]; exact hy)
                    have hRd := hR2.to hdr
                    have HK1 : Hid (W11.drew.cell? ⟨sb, 0, none⟩ = some (.slice (some ⟨tb, 0, none⟩) n n) ∧ W11.drew.cell? ⟨uq, k, none⟩ = some (.int .i64 (yn : Int))) := ⟨s0, hc⟩
                    have HK2 : Hid ((W11.setCell ⟨tb, yn, none⟩ (.int .i64 (m : Int))).drew.cell? ⟨sb, 0, none⟩ = some (.slice (some ⟨tb, 0, none⟩) n n) ∧ (W11.setCell ⟨tb, yn, none⟩ (.int .i64 (m : Int))).drew.cell? ⟨uq, k, none⟩ = some (.int .i64 (yn : Int))) := ⟨hRd.sb_.1, by obtain ⟨q, e, h⟩ := HUp.out _ ⟨_, _, _, _, hRd⟩ k _ hy; cases e; exact h⟩
                    have HQ : Hid ((∃ g f, RfA W2.heap.size n sb tb mb n gs (.slice none 0 0) [] g f X (W11.setCell ⟨tb, yn, none⟩ (.int .i64 (m : Int))).drew ∧ TL4 n P m (k + 1) g ∧ BL5 n P m k (k + 1) f) ∧ Below W2.heap.size W2 (W11.setCell ⟨tb, yn, none⟩ (.int .i64 (m : Int))).drew) := ⟨⟨_, _, hRd, hT2, BL5.start hBL⟩, (HB.out.trans hb2).trans (hdr.mono (HB.out.trans hb2).size)⟩
                    have hyN : (yn : Int) < (n : Int) := by omega
                    have hk0 : (0 : Int) ≤ (k : Int) := by omega
                    have hkp : (k : Int) < (pl : Int) := by omega
                    clear hR hT hBL HS hR2 hb2 hdr hT2 hRd y0 y1 hy
                    go_upto_region 26 with fail
                    go_region_held3 (fun W' => W'.cell? ⟨sb, 0, none⟩ = some (.slice (some ⟨tb, 0, none⟩) n n) ∧ W'.cell? ⟨uq, k, none⟩ = some (.int .i64 (yn : Int)))
                      (first | (with_reducible exact HK1.out) | (with_reducible exact HK2.out) | fail)
                      (fail)
                    go_upto_region 27 with fail
                    refine abs_world (Q := fun W => Code.wp _ _ _ _ W) (F := fun W => (∃ g f, RfA W2.heap.size n sb tb mb n gs (.slice none 0 0) [] g f X W ∧ TL4 n P m (k + 1) g ∧ BL5 n P m k (k + 1) f) ∧ Below W2.heap.size W2 W) _ HQ.out ?_
                    clear HQ HK1 HK2 s0 hc t0 tf HB
                    rintro W12 ⟨hS, hB⟩
                    have HS12 := Lib.hid hS
                    have HB12 := Lib.hid hB
                    clear hS hB
                    go_wp2
                    go_loopw [15] (fun s15 wr => ∃ q : Nat, s15 = .int .i64 (q : Int) ∧ k + 1 ≤ q ∧ q ≤ pl ∧ Hid (∃ g f, RfA W2.heap.size n sb tb mb n gs (.slice none 0 0) [] g f X wr ∧ TL4 n P m (k + 1) g ∧ BL5 n P m k q f) ∧ Hid (Below W2.heap.size W2 wr)) (fun s15 _ => pl - (intOf s15).toNat)
                    case atStart => exact ⟨k + 1, by go_num, Nat.le_refl _, by omega, HS12.out, HB12.out⟩
                    case round =>
                      obtain ⟨q, rfl, hkq, hq, HS, HB⟩ := hrel
                      clear HS12 HB12
                      obtain ⟨W13, hW13⟩ : ∃ x : World, x = wr := ⟨_, rfl⟩
                      rw [← hW13] at HS HB ⊢
                      clear hW13
                      obtain ⟨g, f, hR, hT, hBL⟩ := HS.out
                      by_cases hql : q < pl
                      case neg =>
                        have d3 : decide ((q : Int) < (pl : Int)) = false := decide_eq_false (by omega)
                        have d3' : decide (q < pl) = false := decide_eq_false hql
                        have HQ : Hid (∃ g f, RfA W2.heap.size n sb tb mb n gs (.slice none 0 0) [] g f X W13 ∧ TL4 n P m (k + 1) g ∧ BL4 n P m (k + 1) f) := ⟨g, f, hR, hT, hBL.end_ (by rw [HPx.out, ← HPl.out]; omega)⟩
                        clear hR hT hBL HS hwm
                        go_wp2
                        go_roundw
                        case rel => exact ⟨k + 1, by go_num, by omega, HQ.out, HB.out⟩
                        case measure => simp [intOf]; omega
                      case pos =>
                        have d3 : decide ((q : Int) < (pl : Int)) = true := decide_eq_true (by omega)
                        have d3' : decide (q < pl) = true := decide_eq_true hql
                        obtain ⟨z, hz⟩ : ∃ z, par[q]? = some z := ⟨_, List.getElem?_eq_getElem (by have := HPl.out; omega)⟩
                        obtain ⟨z0, z1⟩ := HRng.out q z hz
                        obtain ⟨zn, rfl⟩ : ∃ zn : Nat, z = (zn : Int) := ⟨z.toNat, by omega⟩
                        have hzn : zn < n := by omega
                        obtain ⟨uq', he, hc⟩ := HUp.out W13 ⟨_, _, _, _, hR⟩ k _ HY.out
                        cases he
                        obtain ⟨uq', he, hcz⟩ := HUp.out W13 ⟨_, _, _, _, hR⟩ q _ hz
                        cases he
                        have b0 := hR.mb_.1 yn hyn
                        rw [if_pos hyn] at b0
                        have e0 := (hR.gs_ hyn).1 zn hzn
                        have ef := (hR.gs_ hyn).2.1 zn
                        obtain ⟨hR2, hb2⟩ := hR.putB HB.out.size hyn zn
                        obtain ⟨gy, hgy⟩ : ∃ x, x = gs yn := ⟨_, rfl⟩
                        rw [← hgy] at b0 e0 ef hR2 hb2
                        have hdr : Below (W13.setCell ⟨gy, zn, none⟩ (.bool true)).heap.size (W13.setCell ⟨gy, zn, none⟩ (.bool true)) (W13.setCell ⟨gy, zn, none⟩ (.bool true)).drew := Below.drew (Below.refl _ _)
                        have hRd := hR2.to hdr
                        have hB5 := hBL.next (by omega) (x := yn) (y := zn) (by rw [HPx.out]; exact HY.out) (by rw [HPx.out]; exact hz)
                        have HK1 : Hid (W13.drew.cell? ⟨uq, k, none⟩ = some (.int .i64 (yn : Int)) ∧ W13.drew.cell? ⟨uq, q, none⟩ = some (.int .i64 (zn : Int)) ∧ W13.drew.cell? ⟨mb, yn, none⟩ = some (.slice (some ⟨gy, 0, none⟩) n n)) := ⟨hc, hcz, b0⟩
                        have HK2 : Hid ((W13.setCell ⟨gy, zn, none⟩ (.bool true)).drew.cell? ⟨uq, k, none⟩ = some (.int .i64 (yn : Int)) ∧ (W13.setCell ⟨gy, zn, none⟩ (.bool true)).drew.cell? ⟨uq, q, none⟩ = some (.int .i64 (zn : Int)) ∧ (W13.setCell ⟨gy, zn, none⟩ (.bool true)).drew.cell? ⟨mb, yn, none⟩ = some (.slice (some ⟨gy, 0, none⟩) n n)) :=
                          ⟨by obtain ⟨q, e, h⟩ := HUp.out _ ⟨_, _, _, _, hRd⟩ k _ HY.out; cases e; exact h, by obtain ⟨q, e, h⟩ := HUp.out _ ⟨_, _, _, _, hRd⟩ q _ hz; cases e; exact h, by have h := hRd.mb_.1 yn hyn; rw [if_pos hyn, ← hgy] at h; exact h⟩
                        have HQ : Hid ((∃ g f, RfA W2.heap.size n sb tb mb n gs (.slice none 0 0) [] g f X (W13.setCell ⟨gy, zn, none⟩ (.bool true)).drew ∧ TL4 n P m (k + 1) g ∧ BL5 n P m k (q + 1) f) ∧ Below W2.heap.size W2 (W13.setCell ⟨gy, zn, none⟩ (.bool true)).drew) := ⟨⟨_, _, hRd, hT, hB5⟩, (HB.out.trans hb2).trans (hdr.mono (HB.out.trans hb2).size)⟩
                        have hzN : (zn : Int) < (n : Int) := by omega
                        have hqp : (q : Int) < (pl : Int) := by omega
                        have hq0 : (0 : Int) ≤ (q : Int) := by omega
                        have hzz : (0 : Int) ≤ (zn : Int) := by omega
                        have hyy : (0 : Int) ≤ (yn : Int) := by omega
                        clear hR hT hBL HS hR2 hb2 hdr hRd hB5 z0 z1 hz hgy
                        go_upto_region 30 with fail
                        go_region_held3 (fun W' => W'.cell? ⟨uq, k, none⟩ = some (.int .i64 (yn : Int)) ∧ W'.cell? ⟨uq, q, none⟩ = some (.int .i64 (zn : Int)) ∧ W'.cell? ⟨mb, yn, none⟩ = some (.slice (some ⟨gy, 0, none⟩) n n))
                          (first | (with_reducible exact HK1.out) | (with_reducible exact HK2.out) | fail)
                          (fail)
                        clear HK1 HK2 hc hcz b0 e0 ef
                        go_wp2
                        go_roundw
                        case rel => exact ⟨q + 1, by go_num, by omega, by omega, HQ.out.1, HQ.out.2⟩
                        case measure => simp [intOf]; omega
              case neg =>
                have d1 : decide ((i : Int) < (N : Int)) = false := decide_eq_false (by have := HNe.out; omega)
                have d1' : decide (i < N) = false := decide_eq_false (by have := HNe.out; omega)
                have hme : m = nd := by omega
                rw [hme] at hT hBL
                have HL6 : Hid (∃ g f, RfA W2.heap.size n sb tb mb n gs (.slice none 0 0) [] g f X W10 ∧ (∀ u, u < n → g u = toG P n nd u) ∧ BL6 n P t.cross 0 f) := ⟨g, f, hR, hT, BL6.start _ hPl.out hBL⟩
                clear hR hT hBL HS hi hme hlt
                go_wp2
                go_loopw [16] (fun s16 wr => ∃ j : Nat, s16 = .int .i64 (j : Int) ∧ j ≤ CL ∧ Hid (∃ g f, RfA W2.heap.size n sb tb mb n gs (.slice none 0 0) [] g f X wr ∧ (∀ u, u < n → g u = toG P n nd u) ∧ BL6 n P t.cross j f) ∧ Hid (Below W2.heap.size W2 wr)) (fun s16 _ => CL - (intOf s16).toNat)
                case atStart => exact ⟨0, rfl, Nat.zero_le _, HL6.out, HB.out⟩
                case round =>
                  obtain ⟨j, rfl, hj, HS, HB⟩ := hrel
                  clear HL6 d1 d1' p0 p2
                  obtain ⟨W14, hW14⟩ : ∃ x : World, x = wr := ⟨_, rfl⟩
                  rw [← hW14] at HS HB ⊢
                  clear hW14
                  obtain ⟨g, f, hR, hT, hBL⟩ := HS.out
                  obtain ⟨p0, p2⟩ := HPR.out.cells (fun o ho => hR.mem ho)
                  by_cases hlt : j < CL
                  case pos =>
                    have d1 : decide ((j : Int) < (CL : Int)) = true := decide_eq_true (by omega)
                    have d1' : decide (j < CL) = true := decide_eq_true hlt
                    obtain ⟨cc, hcc⟩ : ∃ cc, t.cross[j]? = some cc := ⟨_, List.getElem?_eq_getElem (by have := HCe.out; omega)⟩
                    obtain ⟨xg, xc, e, x0, x1⟩ := pxP_at (hR.mem HPR.out.cr) hcc HCe.out.symm
                    cases e
                    obtain ⟨e1, e2, e3, e4, e5, e6, ⟨ya, e7⟩, yb, e8⟩ := HQ4.out cc (List.mem_of_getElem? hcc)
                    obtain ⟨ca, cd⟩ := cc
                    simp only at e1 e2 e3 e4 e5 e6 e7 e8 x0 x1
                    obtain ⟨i1, rfl⟩ : ∃ i1 : Nat, ca = (i1 : Int) := ⟨ca.toNat, by omega⟩
                    obtain ⟨i2, rfl⟩ : ∃ i2 : Nat, cd = (i2 : Int) := ⟨cd.toNat, by omega⟩
                    rw [Int.toNat_natCast] at e2 e3 e5 e6 e7 e8
                    obtain ⟨l1, hl1⟩ : ∃ x, t.lp[i1]? = some x := ⟨_, List.getElem?_eq_getElem e3⟩
                    obtain ⟨l2, hl2⟩ : ∃ x, t.lp[i2]? = some x := ⟨_, List.getElem?_eq_getElem e6⟩
                    have g7 : l1.par = [ya] := by rw [← e7, HP.out, List.getD_eq_getElem?_getD, List.getElem?_map, hl1]; rfl
                    have g8 : l2.par = [yb] := by rw [← e8, HP.out, List.getD_eq_getElem?_getD, List.getElem?_map, hl2]; rfl
                    obtain ⟨lg, lc, ua, uk, e9, hup⟩ := HPR.out.at_ (fun o ho => hR.mem ho) hl1
                    rw [← HNl.out] at e9
                    cases e9
                    obtain ⟨lg', lc', ub, uk', e10, hup'⟩ := HPR.out.at_ (fun o ho => hR.mem ho) hl2
                    rw [← HNl.out] at e10
                    cases e10
                    obtain ⟨h1, h1'⟩ := hup W14 (fun o ho => hR.mem ho)
                    obtain ⟨h2, h2'⟩ := hup' W14 (fun o ho => hR.mem ho)
                    rw [g7] at h1 h1'
                    rw [g8] at h2 h2'
                    obtain ⟨uq, he, hc1⟩ := h1' 0 _ rfl
                    subst he
                    obtain ⟨uq', he, hc2⟩ := h2' 0 _ rfl
                    subst he
                    have h1b : W14.cell? ⟨lg, i1 * 4 + 2, none⟩ = some (.slice (some ⟨uq, 0, none⟩) 1 uk) := h1
                    have h2b : W14.cell? ⟨lg, i2 * 4 + 2, none⟩ = some (.slice (some ⟨uq', 0, none⟩) 1 uk') := h2
                    obtain ⟨a0, a1'⟩ := HQ3.out i1 e2 ya (by rw [e7]; exact List.mem_cons_self)
                    obtain ⟨b0, b1'⟩ := HQ3.out i2 e5 yb (by rw [e8]; exact List.mem_cons_self)
                    obtain ⟨yn, rfl⟩ : ∃ yn : Nat, ya = (yn : Int) := ⟨ya.toNat, by omega⟩
                    obtain ⟨zn, rfl⟩ : ∃ zn : Nat, yb = (zn : Int) := ⟨yb.toNat, by omega⟩
                    have hyn : yn < n := by omega
                    have hzn : zn < n := by omega
                    have hB7 := hBL.next hcc (x := yn) (y := zn) (by unfold hdP; rw [Int.toNat_natCast, e7]; rfl) (by unfold hdP; rw [Int.toNat_natCast, e8]; rfl)
                    have HB7 := Lib.hid hB7
                    have HR := Lib.hid hR
                    have HTg := Lib.hid hT
                    have hi1 : (i1 : Int) < (N : Int) := by have := HNl.out; omega
                    have hi2 : (i2 : Int) < (N : Int) := by have := HNl.out; omega
                    have hi10 : (0 : Int) ≤ (i1 : Int) := by omega
                    have hi20 : (0 : Int) ≤ (i2 : Int) := by omega
                    have hjc : (j : Int) < (CL : Int) := by omega
                    have hj0 : (0 : Int) ≤ (j : Int) := by omega
                    clear hR hT hBL HS hB7 hup hup' h1 h2 h1' h2' g7 g8 e1 e2 e3 e4 e5 e6 e7 e8 hl1 hl2 a0 a1' b0 b1' hcc
                    go_upto_region 34 with fail
                    go_quiet (fail)
                    go_upto_region 35 with fail
                    refine abs_world (Q := fun W => Code.wp _ _ _ _ W) (F := fun W => RfA W2.heap.size n sb tb mb n gs (.slice none 0 0) [] g f X W ∧ Below W2.heap.size W2 W) _ ⟨HR.out.to (below_drewT (Below.refl _ _) _), HB.out.trans (below_drewT (Below.refl _ _) _)⟩ ?_
                    clear HR HB p0 p2 x0 x1 h1b h2b hc1 hc2
                    rintro W15 ⟨hR, hB⟩
                    have b0 := hR.mb_.1 yn hyn
                    rw [if_pos hyn] at b0
                    have e0 := (hR.gs_ hyn).1 zn hzn
                    have ef := (hR.gs_ hyn).2.1 zn
                    obtain ⟨hR2, hb2⟩ := hR.putB hB.size hyn zn
                    obtain ⟨gy, hgy⟩ : ∃ x, x = gs yn := ⟨_, rfl⟩
                    rw [← hgy] at b0 e0 ef hR2 hb2
                    have HQ : Hid ((∃ g f, RfA W2.heap.size n sb tb mb n gs (.slice none 0 0) [] g f X (W15.setCell ⟨gy, zn, none⟩ (.bool true)) ∧ (∀ u, u < n → g u = toG P n nd u) ∧ BL6 n P t.cross (j + 1) f) ∧ Below W2.heap.size W2 (W15.setCell ⟨gy, zn, none⟩ (.bool true))) := ⟨⟨_, _, hR2, HTg.out, HB7.out⟩, hB.trans hb2⟩
                    have hyN : (yn : Int) < (n : Int) := by omega
                    have hzN : (zn : Int) < (n : Int) := by omega
                    have hzz : (0 : Int) ≤ (zn : Int) := by omega
                    have hyy : (0 : Int) ≤ (yn : Int) := by omega
                    clear hR hB hR2 hb2 hgy HB7 HTg
                    go_wp2
                    go_roundw
                    case rel => exact ⟨j + 1, by go_num, by omega, HQ.out.1, HQ.out.2⟩
                    case measure => simp [intOf]; omega
                  case neg =>
                    have d1 : decide ((j : Int) < (CL : Int)) = false := decide_eq_false (by omega)
                    have d1' : decide (j < CL) = false := decide_eq_false hlt
                    have hjc : j = t.cross.length := by have := HCe.out; omega
                    rw [hjc] at hBL
                    have HFq := Lib.hid (HQ6.out f hBL.end_)
                    have hgR : RfA W2.heap.size n sb tb mb n gs (.slice none 0 0) (firN n f 0) (toG P n nd) f X W14 := by
                      have h := hR.own
                      rw [pxZ_eq hT] at h
                      exact ⟨h⟩
                    have HL7 : Hid (∃ vF, RfA W2.heap.size n sb tb mb n gs vF (firN n f 0) (toG P n nd) f X W14) := ⟨_, hgR⟩
                    clear hR hT hBL HS hjc hlt hgR hj
                    go_wp2
                    go_loopw [19] (fun s19 wr => ∃ i : Nat, s19 = .int .i64 (i : Int) ∧ i ≤ n ∧ Hid (∃ vF, RfA W2.heap.size n sb tb mb n gs vF (firN n f i) (toG P n nd) f X wr) ∧ Hid (Below W2.heap.size W2 wr) ∧ Hid (∀ u, u < i → -8 ≤ toG P n nd u - (u : Int) ∧ toG P n nd u - (u : Int) ≤ 8)) (fun s19 _ => n - (intOf s19).toNat)
                    case atStart => exact ⟨0, rfl, Nat.zero_le _, HL7.out, HB.out, fun u h => absurd h (Nat.not_lt_zero u)⟩
                    case round =>
                      obtain ⟨i, rfl, hi, HS, HB, HOK⟩ := hrel
                      clear HL7 d1 d1' p0 p2
                      obtain ⟨W16, hW16⟩ : ∃ x : World, x = wr := ⟨_, rfl⟩
                      rw [← hW16] at HS HB ⊢
                      clear hW16
                      obtain ⟨vF, hR⟩ := HS.out
                      obtain ⟨aF, cF, rfl⟩ := hR.form
                      obtain ⟨s0, s1, sf⟩ := hR.sb_
                      have hfl : (firN n f i).length ≤ 1600 := by
                        have h := firN_len n f i
                        have : i * n ≤ 40 * 40 := Nat.mul_le_mul (by omega) (by omega)
                        omega
                      by_cases hlt : i < n
                      case neg =>
                        have d1 : decide ((i : Int) < (n : Int)) = false := decide_eq_false (by omega)
                        have d1' : decide (i < n) = false := decide_eq_false hlt
                        have hin : i = n := by omega
                        rw [hin] at hR HOK
                        have hfar : farB ((List.range n).map (toG P n nd)) = false := by
                          unfold farB
                          rw [List.any_eq_false]
                          intro u hu
                          have hu2 := List.mem_range.1 hu
                          rw [List.length_map, List.length_range] at hu2
                          have h := HOK.out u hu2
                          rw [List.getD_eq_getElem?_getD, List.getElem?_map, List.getElem?_range hu2]
                          simp only [Option.map_some, Option.getD_some, decide_eq_true_eq]
                          omega
                        have hre : r = (⟨(List.range n).map (toG P n nd), firN n f n⟩, 0) := by rw [HRe.out, HFq.out, hfar]; rfl
                        obtain ⟨hr0, -⟩ := HXs.out W16 HB.out
                        have hrb : rb < W2.heap.size := lt_of_cell (HXs.out W2 (Below.refl _ _)).1.r0
                        obtain ⟨t0, t1, hbw, hgw⟩ := hr0.lay (.slice (some ⟨tb, 0, none⟩) n n) (.slice aF (firN n f n).length cF)
                        have hO := hR.own.past hgw hrb
                        have HE : Hid (ShPost w r (.returned (.tuple #[.agg #[.slice (some ⟨tb, 0, none⟩) n n, .slice aF (firN n f n).length cF], .int .i64 0])) ((W16.setCell ⟨rb, 0, none⟩ (.slice (some ⟨tb, 0, none⟩) n n)).setCell ⟨rb, 1, none⟩ (.slice aF (firN n f n).length cF))) := by
                          refine ⟨some ⟨tb, 0, none⟩, n, aF, cF, ?_, ?_, ?_, hbw⟩
                          · rw [hre]; simp only [List.length_map, List.length_range]
                          · rw [hre]; exact pxZ_sl hO.tail.head
                          · rw [hre]; exact pxP_sl hO.tail.tail
                        have r0 := hr0.r0
                        have r1 := hr0.r1
                        have rf := hr0.fz
                        rw [hin] at s1
                        have HT := Lib.hid (And.intro t0 t1)
                        obtain ⟨FL, hFL⟩ : ∃ FL, FL = (firN n f n).length := ⟨_, rfl⟩
                        rw [← hFL] at s1 HT HE
                        clear hR HS hfar hre hr0 t0 t1 hbw hgw hO hfl hFL hin
                        go_wp2
                        (try simp only [Exit.inBlock, Exit.then])
                        refine rof_close HT.out.1 HT.out.2 ?_ ?_ HE.out <;> rfl
                      case pos =>
                        have d1 : decide ((i : Int) < (n : Int)) = true := decide_eq_true (by omega)
                        have d1' : decide (i < n) = true := decide_eq_true hlt
                        have HOf : Hid (∀ W, RfA W2.heap.size n sb tb mb n gs (.slice aF (firN n f i).length cF) (firN n f i) (toG P n nd) f X W → Calls Try.prog 42 #[.agg #[.slice (some ⟨tb, 0, none⟩) n n, .slice aF (firN n f i).length cF], .int .i64 (i : Int)] W fun e w' => e = .returned (.int .i64 (toG P n nd i - (i : Int))) ∧ Below W.heap.size W w') := fun W h => by
                          have hg : ((List.range n).map (toG P n nd)).getD i 0 = toG P n nd i := by rw [List.getD_eq_getElem?_getD, List.getElem?_map, List.getElem?_range hlt]; rfl
                          have hq := HQ5.out i
                          have hc := roff_wide (some ⟨tb, 0, none⟩) aF n cF ⟨(List.range n).map (toG P n nd), firN n f i⟩ i (by show i < ((List.range n).map (toG P n nd)).length; simpa using hlt) (by show 0 ≤ ((List.range n).map (toG P n nd)).getD i 0; rw [hg]; exact hq.1) (by show ((List.range n).map (toG P n nd)).getD i 0 ≤ 100000; rw [hg]; omega) (by show ((List.range n).map (toG P n nd)).length ≤ 1000; simp; omega) W ⟨pxZ_sl h.own.tail.head, pxP_sl h.own.tail.tail⟩
                          have e1 : ((List.range n).map (toG P n nd)).length = n := by simp
                          have e2 : offN ⟨(List.range n).map (toG P n nd), firN n f i⟩ i = toG P n nd i - (i : Int) := by unfold offN; rw [hg]
                          rw [e2] at hc
                          unfold sftV at hc
                          simp only [e1] at hc
                          exact hc
                        have HFar : Hid (¬ (-8 ≤ toG P n nd i - (i : Int) ∧ toG P n nd i - (i : Int) ≤ 8) → r = (⟨[], []⟩, 16)) := fun h => by
                          have hfar : farB ((List.range n).map (toG P n nd)) = true := by
                            unfold farB
                            rw [List.any_eq_true]
                            refine ⟨i, List.mem_range.2 (by simpa using hlt), ?_⟩
                            rw [List.getD_eq_getElem?_getD, List.getElem?_map, List.getElem?_range hlt]
                            simp only [Option.map_some, Option.getD_some, decide_eq_true_eq]
                            omega
                          rw [HRe.out, HFq.out, hfar]; rfl
                        have HOn : Hid ((-8 ≤ toG P n nd i - (i : Int) ∧ toG P n nd i - (i : Int) ≤ 8) → ∀ u, u < i + 1 → -8 ≤ toG P n nd u - (u : Int) ∧ toG P n nd u - (u : Int) ≤ 8) := fun h u hu => by
                          by_cases e : u = i
                          · subst e; exact h
                          · exact HOK.out u (by omega)
                        obtain ⟨o, ho⟩ : ∃ o, o = toG P n nd i - (i : Int) := ⟨_, rfl⟩
                        rw [← ho] at HFar HOn
                        simp only [← ho] at HOf
                        obtain ⟨FL, hFL⟩ : ∃ FL, FL = (firN n f i).length := ⟨_, rfl⟩
                        have HFl := Lib.hid hFL
                        have hfl' : FL ≤ 1600 := by omega
                        rw [← hFL] at s1
                        simp only [← hFL] at HOf
                        have HR := Lib.hid hR
                        have HC1 := Lib.hid (HOf.out W16 (by rw [hFL]; exact hR))
                        clear hR HS ho hfl HOK
                        by_cases hlo : o < -8
                        case pos =>
                          have t8 : decide (o < -8) = true := decide_eq_true hlo
                          have HR16 := Lib.hid (HFar.out (by omega))
                          clear HFar HOn HOf hFL hlo
                          go_upto_region 40 with (first | (go_at_call 42; refine HC1.out.mono ?_; rintro e w17 ⟨rfl, hb17⟩))
                          refine abs_world (Q := fun W => Code.wp _ _ _ _ W) (F := fun W => RbA w rb W) _ (HXs.out _ (HB.out.trans (hb17.mono HB.out.size))).1 ?_
                          clear HR HB hb17 HC1 s0 s1 sf
                          intro W17 h17
                          have r0 := h17.r0
                          have r1 := h17.r1
                          have rf := h17.fz
                          have HL := Lib.hid (h17.lay (.slice none 0 0) (.slice none 0 0))
                          clear h17
                          go_wp2
                          (try simp only [Exit.inBlock, Exit.then])
                          refine rof_close HL.out.1 HL.out.2.1 ?_ ?_ (ShPost.none HR16.out HL.out.2.2.1) <;> rfl
                        case neg =>
                        have t8 : decide (o < -8) = false := decide_eq_false hlo
                        have HRn : Hid (∀ w', Below W16.heap.size W16 w' → RfA W2.heap.size n sb tb mb n gs (.slice aF FL cF) (firN n f i) (toG P n nd) f X w' ∧ Below W2.heap.size W2 w') := fun w' hb => ⟨by rw [hFL]; exact HR.out.to hb, HB.out.trans (hb.mono HB.out.size)⟩
                        simp only [hFL] at HOf
                        have HOf2 : Hid (∀ W, RfA W2.heap.size n sb tb mb n gs (.slice aF FL cF) (firN n f i) (toG P n nd) f X W → Calls Try.prog 42 #[.agg #[.slice (some ⟨tb, 0, none⟩) n n, .slice aF FL cF], .int .i64 (i : Int)] W fun e w' => e = .returned (.int .i64 o) ∧ Below W.heap.size W w') := fun W h => by rw [hFL] at h ⊢; exact HOf.out W h
                        clear HOf hFL HR HB
                        by_cases hhi : 8 < o
                        case pos =>
                          have t9 : decide (8 < o) = true := decide_eq_true hhi
                          have HR16 := Lib.hid (HFar.out (by omega))
                          clear HFar HOn hlo hhi
                          go_upto_region 40 with (first
                            | (go_at_call 42; with_reducible refine Calls.mono HC1.out ?_; rintro e w17 ⟨rfl, hb17⟩; have hR17 := (HRn.out w17 hb17).1; obtain ⟨s0', s1', -⟩ := hR17.sb_)
                            | (go_at_call 42; refine (HOf2.out w17 hR17).mono ?_; rintro e w18 ⟨rfl, hb18⟩))
                          have hb168 := hb17.trans (hb18.mono hb17.size)
                          refine abs_world (Q := fun W => Code.wp _ _ _ _ W) (F := fun W => RbA w rb W) _ (HXs.out _ (HRn.out _ hb168).2).1 ?_
                          clear HRn hb17 hb18 hb168 hR17 HC1 HOf2 s0 s1 sf s0' s1'
                          intro W17 h17
                          have r0 := h17.r0
                          have r1 := h17.r1
                          have rf := h17.fz
                          have HL := Lib.hid (h17.lay (.slice none 0 0) (.slice none 0 0))
                          clear h17
                          go_wp2
                          (try simp only [Exit.inBlock, Exit.then])
                          refine rof_close HL.out.1 HL.out.2.1 ?_ ?_ (ShPost.none HR16.out HL.out.2.2.1) <;> rfl
                        case neg =>
                        have t9 : decide (8 < o) = false := decide_eq_false hhi
                        have HO2 := Lib.hid (HOn.out (by omega))
                        clear HFar HOn hlo hhi
                        go_upto_region 41 with (first
                          | (go_at_call 42; with_reducible refine Calls.mono HC1.out ?_; rintro e w17 ⟨rfl, hb17⟩; have hR17 := (HRn.out w17 hb17).1; obtain ⟨s0', s1', -⟩ := hR17.sb_)
                          | (go_at_call 42; refine (HOf2.out w17 hR17).mono ?_; rintro e w18 ⟨rfl, hb18⟩))
                        have hb168 := hb17.trans (hb18.mono hb17.size)
                        have HF0 : Hid ((∃ vF, RfA W2.heap.size n sb tb mb n gs vF (firN n f i ++ firI f i 0) (toG P n nd) f X w18) ∧ Below W2.heap.size W2 w18) := ⟨⟨_, by rw [show firI f i 0 = [] from rfl, List.append_nil]; exact (HRn.out _ hb168).1⟩, (HRn.out _ hb168).2⟩
                        refine abs_world (Q := fun W => Code.wp _ _ _ _ W) (F := fun W => (∃ vF, RfA W2.heap.size n sb tb mb n gs vF (firN n f i ++ firI f i 0) (toG P n nd) f X W) ∧ Below W2.heap.size W2 W) _ HF0.out ?_
                        clear HF0 HRn hb17 hb18 hb168 hR17 HC1 HOf2 s0 s1 sf s0' s1' t8 t9
                        rintro W18 ⟨hS, hB⟩
                        have HS8 := Lib.hid hS
                        have HB8 := Lib.hid hB
                        clear hS hB
                        go_wp2
                        go_loopw [20] (fun s20 wr => ∃ k : Nat, s20 = .int .i64 (k : Int) ∧ k ≤ n ∧ Hid (∃ vF, RfA W2.heap.size n sb tb mb n gs vF (firN n f i ++ firI f i k) (toG P n nd) f X wr) ∧ Hid (Below W2.heap.size W2 wr)) (fun s20 _ => n - (intOf s20).toNat)
                        case atStart => exact ⟨0, rfl, Nat.zero_le _, HS8.out, HB8.out⟩
                        case round =>
                          obtain ⟨k, rfl, hk, HS, HB⟩ := hrel
                          clear HS8 HB8
                          obtain ⟨W19, hW19⟩ : ∃ x : World, x = wr := ⟨_, rfl⟩
                          rw [← hW19] at HS HB ⊢
                          clear hW19
                          obtain ⟨vF, hR⟩ := HS.out
                          by_cases hkn : k < n
                          case neg =>
                            have d2 : decide ((k : Int) < (n : Int)) = false := decide_eq_false (by omega)
                            have d2' : decide (k < n) = false := decide_eq_false hkn
                            have hke : k = n := by omega
                            have HQ : Hid (∃ vF, RfA W2.heap.size n sb tb mb n gs vF (firN n f (i + 1)) (toG P n nd) f X W19) := ⟨_, by rw [hke] at hR; rw [firN_next]; exact hR⟩
                            clear hR HS hke
                            go_wp2
                            go_roundw
                            case rel => exact ⟨i + 1, by go_num, by omega, HQ.out, HB.out, HO2.out⟩
                            case measure => simp [intOf]; omega
                          case pos =>
                            have d2 : decide ((k : Int) < (n : Int)) = true := decide_eq_true (by omega)
                            have d2' : decide (k < n) = true := decide_eq_true hkn
                            obtain ⟨aG, cG, rfl⟩ := hR.form
                            have b0 := hR.mb_.1 i hlt
                            rw [if_pos hlt] at b0
                            have e0 := (hR.gs_ hlt).1 k hkn
                            have hin : (i : Int) < (n : Int) := by omega
                            have hkn' : (k : Int) < (n : Int) := by omega
                            have hi0 : (0 : Int) ≤ (i : Int) := by omega
                            have hk0 : (0 : Int) ≤ (k : Int) := by omega
                            have hfk := firI_next f i k
                            have hln : (firN n f i ++ firI f i k).length ≤ 2000 := by
                              rw [List.length_append]
                              have := firI_len f i k
                              have := HFl.out
                              omega
                            cases hq : f i k with
                            | false =>
                              rw [hq] at e0 hfk
                              simp only [Bool.false_eq_true, if_false, List.append_nil] at hfk
                              have HQ : Hid (∃ vF, RfA W2.heap.size n sb tb mb n gs vF (firN n f i ++ firI f i (k + 1)) (toG P n nd) f X W19) := ⟨_, by rw [hfk]; exact hR⟩
                              clear hR HS hfk hq hln
                              go_wp2
                              go_roundw
                              case rel => exact ⟨k + 1, by go_num, by omega, HQ.out, HB.out⟩
                              case measure => simp [intOf]; omega
                            | true =>
                              rw [hq] at e0 hfk
                              simp only [if_true] at hfk
                              obtain ⟨A', c', w', hr, g1, gf, hR2, hb2⟩ := hR.pushF HB.out.size (by omega) ((i : Int), (k : Int))
                              rw [List.append_assoc, ← hfk] at hR2
                              have s1 := hR.sb_.2.1
                              obtain ⟨GL, hGL⟩ : ∃ GL, GL = (firN n f i ++ firI f i k).length := ⟨_, rfl⟩
                              rw [← hGL] at hr g1 hR2 hb2 s1
                              have HQ : Hid ((∃ vF, RfA W2.heap.size n sb tb mb n gs vF (firN n f i ++ firI f i (k + 1)) (toG P n nd) f X (w'.setCell ⟨sb, 1, none⟩ (.slice A' (GL + 1) c'))) ∧ Below W2.heap.size W2 (w'.setCell ⟨sb, 1, none⟩ (.slice A' (GL + 1) c'))) := ⟨⟨_, hR2⟩, HB.out.trans hb2⟩
                              have gf1 := gf 1
                              clear hR HS hfk hq hln hR2 hb2 hGL gf
                              go_wp2_with (at_builtin; refine wpList_append_run _ rfl _ _ _ _ rfl _ _ (by rfl) (by rfl) hr ?_)
                              go_roundw
                              case rel => exact ⟨k + 1, by go_num, by omega, HQ.out.1, HQ.out.2⟩
                              case measure => simp [intOf]; omega
end Go.Proofs.Ytflpikickbellaa
