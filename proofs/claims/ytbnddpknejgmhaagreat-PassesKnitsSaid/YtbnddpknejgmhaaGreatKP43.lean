/- PassesKnits: memory of the law. The reference's layer 30: Check of a state, walked. -/
import Derived.Test.YtbnddpknejgmhaaGreatKP23
import Derived.Test.YtbnddpknejgmhaaGreatKP36
import Derived.Test.YtbnddpknejgmhaaGreatKP40
import Derived.Test.YtbnddpknejgmhaaGreatKP41
import Derived.Test.YtbnddpknejgmhaaGreatKP42
import Derived.Test.YtbnddpknejgmhaaGreatKP6
import Derived.Test.YtbnddpknejgmhaaGreatKP5
import Derived.BigQuiet
namespace Go.Proofs.YtbnddpknejgmhaaGreat
open Go.RowKit Go.Shelf Go.Sort
set_option maxRecDepth 100000

/-- The chart in its box. -/
structure KnC (w : World) (cb : Nat) (start : Int) (A : Option Addr) (N c : Nat) (p : List RowC) (W : World) : Prop where
  lo : Below w.heap.size w W
  c0 : W.cell? ⟨cb, 0, none⟩ = some (.int .i64 start)
  c1 : W.cell? ⟨cb, 1, none⟩ = some (.slice A N c)
  sl : SlC W W.heap.size A p
theorem KnC.to {w W W' : World} {cb : Nat} {start : Int} {A : Option Addr} {N c : Nat} {p : List RowC} (h : KnC w cb start A N c p W) (hb : Below W.heap.size W W') : KnC w cb start A N c p W' :=
  ⟨h.lo.trans (hb.mono h.lo.size), (bcell hb (lt_of_cell h.c0) _).trans h.c0, (bcell hb (lt_of_cell h.c0) _).trans h.c1, (h.sl.below hb).more hb.size⟩
theorem KnC.new {w : World} {start : Int} {A : Option Addr} {c : Nat} {p : List RowC} (hs : SlC w w.heap.size A p) : KnC w w.heap.size start A p.length c p (w.alloc (.cells #[.int .i64 start, .slice A p.length c] 24)) :=
  have hal := al_t w (.cells #[.int .i64 start, .slice A p.length c] 24)
  ⟨hal, cell_new rfl rfl rfl, cell_new rfl rfl rfl, (hs.below hal).more hal.size⟩
/-- The chart, its loops, the machine's state in its box, below block B. -/
structure KnF (w : World) (cb bb : Nat) (start : Int) (A : Option Addr) (N c : Nat) (p : List RowC) (oa : Option Addr) (LP : List Lp) (t : BedS) (q : BedP) (tm : Nat) (B : Nat) (W : World) : Prop where
  lo : Below w.heap.size w W
  hw : w.heap.size ≤ B
  hc : cb < B
  hb : bb < B
  c0 : W.cell? ⟨cb, 0, none⟩ = some (.int .i64 start)
  c1 : W.cell? ⟨cb, 1, none⟩ = some (.slice A N c)
  sl : SlC W B A p
  ol : SlL W B oa LP
  b0 : W.cell? ⟨bb, 0, none⟩ = some (.int .i64 t.rack)
  b1 : W.cell? ⟨bb, 1, none⟩ = some (.slice q.ah t.hooks.length q.ch)
  b2 : W.cell? ⟨bb, 2, none⟩ = some (.slice q.af t.feeds.length q.cf)
  b3 : W.cell? ⟨bb, 3, none⟩ = some (.slice q.am tm q.cm)
  bd : BedAt W B q t
theorem KnF.to {w W W' : World} {cb bb : Nat} {start : Int} {A : Option Addr} {N c : Nat} {p : List RowC} {oa : Option Addr} {LP : List Lp} {t : BedS} {q : BedP} {tm B : Nat} (h : KnF w cb bb start A N c p oa LP t q tm B W) (hb : Below B W W') : KnF w cb bb start A N c p oa LP t q tm B W' :=
  ⟨h.lo.trans (hb.mono h.hw), h.hw, h.hc, h.hb, (bcell hb h.hc _).trans h.c0, (bcell hb h.hc _).trans h.c1, h.sl.below hb, h.ol.below hb, (bcell hb h.hb _).trans h.b0, (bcell hb h.hb _).trans h.b1, (bcell hb h.hb _).trans h.b2, (bcell hb h.hb _).trans h.b3, h.bd.below hb⟩
theorem KnF.more {w W : World} {cb bb : Nat} {start : Int} {A : Option Addr} {N c : Nat} {p : List RowC} {oa : Option Addr} {LP : List Lp} {t : BedS} {q : BedP} {tm B B' : Nat} (h : KnF w cb bb start A N c p oa LP t q tm B W) (hB : B ≤ B') : KnF w cb bb start A N c p oa LP t q tm B' W :=
  ⟨h.lo, Nat.le_trans h.hw hB, Nat.lt_of_lt_of_le h.hc hB, Nat.lt_of_lt_of_le h.hb hB, h.c0, h.c1, h.sl.more hB, h.ol.more hB, h.b0, h.b1, h.b2, h.b3, h.bd.more hB⟩
/-- Beside them the list `is` and the rows' beginnings, in blocks of their own. -/
structure KnG (F : World → Prop) (ib K : Nat) (L : List Int) (rb rn rc : Nat) (R : List Int) (B : Nat) (W : World) : Prop where
  f : F W
  hs : B ≤ W.heap.size
  hl : L.length = K
  hr : R.length = rn
  own : Owns W B [pxJ (.slice (some ⟨ib, 0, none⟩) K K) L, pxJ (.slice (some ⟨rb, 0, none⟩) rn rc) R]
/-- What holds below block B goes on to hold. -/
def UpB (F : World → Prop) (B : Nat) : Prop := ∀ W W', F W → Below B W W' → F W'
theorem KnG.to {F : World → Prop} {ib K : Nat} {L : List Int} {rb rn rc : Nat} {R : List Int} {B : Nat} {W W' : World} (hF : UpB F B) (h : KnG F ib K L rb rn rc R B W) (hb : Below W.heap.size W W') : KnG F ib K L rb rn rc R B W' :=
  ⟨hF _ _ h.f (hb.mono h.hs), Nat.le_trans h.hs hb.size, h.hl, h.hr, h.own.to hb⟩
theorem KnG.set {F : World → Prop} {ib K : Nat} {L : List Int} {rb rn rc : Nat} {R : List Int} {B : Nat} {W : World} (hF : UpB F B) (h : KnG F ib K L rb rn rc R B W) (k : Nat) (x : Int) :
    KnG F ib K (L.set k x) rb rn rc R B (W.setCell ⟨ib, k, none⟩ (.int .i64 x)) ∧ W.frozen? ⟨ib, k, none⟩ = false := by
  obtain ⟨h1, h2, h3, -⟩ := pxJ_set h.own h.hl h.hs k x
  exact ⟨⟨hF _ _ h.f h2, Nat.le_trans h.hs h2.size, by rw [List.length_set]; exact h.hl, h.hr, h1⟩, h3⟩
theorem KnG.is {F : World → Prop} {ib K : Nat} {L : List Int} {rb rn rc : Nat} {R : List Int} {B : Nat} {W : World} (h : KnG F ib K L rb rn rc R B W) {j : Nat} (hj : j < K) : W.cell? ⟨ib, j, none⟩ = some (.int .i64 (L.getD j 0)) := by
  obtain ⟨-, -, -, h4⟩ := pxJ_set h.own h.hl h.hs 0 0
  refine h4 j _ ?_
  rw [List.getD_eq_getElem?_getD, List.getElem?_eq_getElem (by rw [h.hl]; exact hj)]; rfl
theorem KnG.row {F : World → Prop} {ib K : Nat} {L : List Int} {rb rn rc : Nat} {R : List Int} {B : Nat} {W : World} (h : KnG F ib K L rb rn rc R B W) {j : Nat} {y : Int} (hj : R[j]? = some y) : W.cell? ⟨rb, j, none⟩ = some (.int .i64 y) := by
  obtain ⟨-, -, -, h4⟩ := pxJ_set h.own.swap h.hr h.hs 0 0
  exact h4 j y hj
/-- The rows' beginnings. -/
def rowsK (n N : Nat) : List Int := (List.range (N + 2)).map fun r : Nat => ((n * r : Nat) : Int)
theorem rowsK_len (n N : Nat) : (rowsK n N).length = N + 2 := by unfold rowsK; rw [List.length_map, List.length_range]
theorem rowsK_at {n N j : Nat} (h : j < N + 2) : (rowsK n N)[j]? = some ((n * j : Nat) : Int) := by unfold rowsK; rw [List.getElem?_map, List.getElem?_range h]; rfl
/-- A chart that is not great, and right, has at most 12 rows. -/
theorem few_rows {start : Int} {p : List RowC} (hg : greatC p = false) (he : chartE start p = 0) : p.length ≤ 12 := by
  have h1 := (chart_zero he).1
  unfold greatC at hg
  by_cases h : p.length ≤ 12
  · exact h
  · simp at hg
    omega
theorem comp_err {start : Int} {p : List RowC} (h : chartE start p = 0) (hp : plainB start p = true) (hc : compE start p ≠ 0) : compE start p = 4 := by
  unfold compE at hc ⊢
  rw [if_neg (by rw [h]; decide), if_neg (by rw [hp]; decide)] at hc ⊢
  by_cases h2 : 2000 < (compL start p).length
  · rw [if_pos h2]
  · rw [if_neg h2] at hc; exact absurd rfl hc
/-- The chart's loops. -/
theorem of_loops {n : Nat} {p : List RowC} (he : chartE (n : Int) p = 0) (hp : plainB (n : Int) p = true) (h12 : p.length ≤ 12) : PlC n (p.map faceL) ∧ LpK n (p.map faceL) p.length (workX (n : Int) p) := by
  have hpc := plain_chart he hp h12
  refine ⟨hpc, ?_⟩
  rw [workX_ok he, Int.toNat_natCast]
  exact lp_k hpc _ (by rw [List.length_map]; exact Nat.le_refl _)
end Go.Proofs.YtbnddpknejgmhaaGreat
namespace Go.Proofs.YtbnddpknejgmhaaGreat
open Go.RowKit Go.Shelf
set_option maxRecDepth 100000

theorem heldL_all (s : BedS) : heldL s = heldKB s.hooks := rfl
/-- The numbers seen so far are marked. -/
def marks (n : Nat) (P : List Int) : List Value := (List.range n).map fun j : Nat => Value.bool (decide ((j : Int) ∈ P))
def SeenAt (W : World) (B sb n : Nat) (P : List Int) : Prop := W.ownsRow B 4 1 (.slice (some ⟨sb, 0, none⟩) n n) n (marks n P)
theorem marks_set {n : Nat} {P : List Int} {x : Nat} : marks n (P ++ [(x : Int)]) = (marks n P).set x (.bool true) := by
  unfold marks
  apply List.ext_getElem?
  intro j
  rw [List.getElem?_map, List.getElem?_set]
  by_cases e : x = j
  · subst e
    rw [if_pos rfl, List.length_map, List.length_range]
    by_cases hj : x < n
    · rw [if_pos hj, List.getElem?_range hj]; simp
    · rw [if_neg hj, List.getElem?_eq_none (by simpa using hj)]; rfl
  · rw [if_neg e, List.getElem?_map]
    by_cases hj : j < n
    · rw [List.getElem?_range hj]
      have : (j : Int) ≠ (x : Int) := by omega
      simp [this]
    · rw [List.getElem?_eq_none (by simpa using hj)]; rfl
theorem SeenAt.to {W W' : World} {B sb n : Nat} {P : List Int} (h : SeenAt W B sb n P) (hb : Below W.heap.size W W') : SeenAt W' B sb n P := own_below h hb (Nat.le_refl _)
theorem SeenAt.cell {W : World} {B sb n : Nat} {P : List Int} (h : SeenAt W B sb n P) {x : Nat} (hx : x < n) : W.cell? ⟨sb, x, none⟩ = some (.bool (decide ((x : Int) ∈ P))) := by
  rw [World.ownsRow.cellAt h x (by omega)]
  unfold marks
  rw [List.getElem?_map, List.getElem?_range hx]; rfl
theorem SeenAt.mark {W : World} {B sb n : Nat} {P : List Int} (h : SeenAt W B sb n P) (x : Nat) : SeenAt (W.setCell ⟨sb, x, none⟩ (.bool true)) B sb n (P ++ [(x : Int)]) := by
  unfold SeenAt
  rw [marks_set]
  exact (World.ownsRow.stored h x (.bool true)).1
/-- Numbers within bounds, pairwise different. -/
def good (n : Nat) (P : List Int) : Prop := (∀ x ∈ P, 0 ≤ x ∧ x < (n : Int)) ∧ P.Nodup
theorem good_snoc {n : Nat} {P : List Int} {x : Int} (h : good n P) (hx : 0 ≤ x ∧ x < (n : Int)) (hn : x ∉ P) : good n (P ++ [x]) := by
  refine ⟨fun y hy => ?_, ?_⟩
  · rcases List.mem_append.1 hy with hy | hy
    · exact h.1 y hy
    · rw [List.mem_singleton.1 hy]; exact hx
  · rw [List.nodup_append]
    refine ⟨h.2, by simp, fun a ha b hb => ?_⟩
    rw [List.mem_singleton.1 hb]
    intro e; subst e; exact hn ha
theorem dist_range {s : BedS} {x : Int} (hx : x ∈ heldL s) (h : ¬ (0 ≤ x ∧ x < (s.made.length : Int))) : bedE s = 8 := by
  have : distB (heldL s) s.made.length = false := by
    unfold distB
    rw [decide_eq_false (fun hh => h (hh x hx))]; rfl
  unfold bedE bedOk; rw [this]; simp
theorem dist_twice {s : BedS} {P Q : List Int} {x : Int} (he : heldL s = P ++ x :: Q) (h : x ∈ P) : bedE s = 8 := by
  have : distB (heldL s) s.made.length = false := by
    unfold distB
    have hn : ¬ (heldL s).Nodup := fun hn => by
      rw [he, List.nodup_append] at hn
      exact hn.2.2 x h x List.mem_cons_self rfl
    rw [decide_eq_false hn, Bool.and_false]
  unfold bedE bedOk; rw [this]; simp
theorem ris_bad {s : BedS} (h : risB ltH s.hooks = false) : bedE s = 8 := by unfold bedE bedOk; rw [h]; simp
theorem heldK_split {l : List Hk} {k : Nat} {h : Hk} (hr : l[k]? = some h) : heldKB l = heldKB (l.take k) ++ (h.loops ++ heldKB (l.drop (k + 1))) := by
  obtain ⟨hk, e⟩ := List.getElem?_eq_some_iff.1 hr
  have : l = l.take k ++ h :: l.drop (k + 1) := by
    rw [← e, ← List.drop_eq_getElem_cons hk, List.take_append_drop]
  conv => lhs; rw [this]
  simp [heldKB]
theorem info_bool : (Tryz.prog.info? 4).map (fun i => (i.zero, i.size, i.bytes)) = some (some (.bool false), 1, 1) := by kernel_rfl
end Go.Proofs.YtbnddpknejgmhaaGreat
