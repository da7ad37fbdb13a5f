/- Layer 31: what Compile returns, plain. -/
import Derived.Test.YtbnddpknejgmhaaGreatKP19
namespace Go.Proofs.YtbnddpknejgmhaaGreat
open Go.RowKit Go.Shelf
set_option maxRecDepth 100000

def xferI (b k : Int) : Ins := ⟨7, false, b, k, k, 0, 0⟩
def knitI (op : Int) (right : Bool) (b k : Int) : Ins := ⟨op, right, b, k, 0, 1, 0⟩
def wantS (s : Stc) : Int := if s.purl then 1 else 0
def stepOC (s : Stc) (k : Nat) (O : List Ins) (B : List Int) : List Ins := if s.kind = 1 ∧ B.getD k 0 ≠ wantS s then O ++ [xferI (B.getD k 0) k] else O
def stepB (s : Stc) (k : Nat) (B : List Int) : List Int := if s.kind = 1 then B.set k (wantS s) else B
def stepRw (right : Bool) (s : Stc) (k : Nat) (R : List Ins) (B : List Int) : List Ins := R ++ [knitI (if s.kind = 1 then 3 else 5) right ((stepB s k B).getD k 0) k]
def rowRunC (right : Bool) : Nat → List Stc → List Ins × List Ins × List Int → List Ins × List Ins × List Int
  | _, [], st => st
  | k, s :: t, (O, R, B) => rowRunC right (k + 1) t (stepOC s k O B, stepRw right s k R B, stepB s k B)
def rowsRun : Nat → List RowC → List Ins × List Int → List Ins × List Int
  | _, [], st => st
  | i, r :: t, (O, B) => rowsRun (i + 1) t ((rowRunC (decide (i % 2 = 1)) 0 (faceL r) (O, [], B)).1 ++ (if i % 2 = 0 then (rowRunC (decide (i % 2 = 1)) 0 (faceL r) (O, [], B)).2.1.reverse else (rowRunC (decide (i % 2 = 1)) 0 (faceL r) (O, [], B)).2.1), (rowRunC (decide (i % 2 = 1)) 0 (faceL r) (O, [], B)).2.2)
def headL (n : Nat) : List Ins := ⟨1, false, 0, 0, 0, 1, 0⟩ :: (List.range n).map fun k : Nat => knitI 3 true 0 (k : Int)
def compL (start : Int) (p : List RowC) : List Ins := (rowsRun 0 p (headL start.toNat, List.replicate start.toNat 0)).1
def compE (start : Int) (p : List RowC) : Int := if chartE start p ≠ 0 then chartE start p else if plainB start p = false then 2 else if 2000 < (compL start p).length then 4 else 0
def compO (start : Int) (p : List RowC) : List Ins := if compE start p = 0 then compL start p else []

theorem plain_kind {start : Int} {p : List RowC} (h : plainB start p = true) : start ≤ 101 ∧ ∀ r ∈ p, ∀ s ∈ r.2, s.kind = 1 ∨ s.kind = 8 := by
  unfold plainB at h
  cases hp : p.any (fun r => r.2.any oddS) with
  | true => rw [hp, if_pos rfl] at h; cases h
  | false =>
    rw [hp, if_neg (by simp)] at h
    refine ⟨of_decide_eq_true h, fun r hr s hs => ?_⟩
    rw [List.any_eq_false] at hp
    have h1 := hp r hr
    rw [Bool.not_eq_true, List.any_eq_false] at h1
    have h2 := h1 s hs
    unfold oddS at h2
    rw [decide_eq_true_iff] at h2
    omega
theorem plain_one {s : Stc} (h : s.kind = 1 ∨ s.kind = 8) : usesS s = 1 ∧ makesS s = 1 := by
  unfold usesS makesS
  rcases h with h | h <;> rw [h] <;> exact ⟨rfl, rfl⟩
theorem plain_sum {f : Stc → Int} : ∀ {l : List Stc}, (∀ s ∈ l, f s = 1) → (l.map f).sum = l.length
  | [], _ => rfl
  | s :: l, h => by
    have h1 := h s List.mem_cons_self
    have h2 := plain_sum (l := l) fun x hx => h x (List.mem_cons_of_mem _ hx)
    simp only [List.map_cons, List.sum_cons, List.length_cons]
    omega
theorem plain_len : ∀ {n : Int} {p : List RowC}, errR n p = 0 → (∀ r ∈ p, ∀ s ∈ r.2, s.kind = 1 ∨ s.kind = 8) → ∀ r ∈ p, (r.2.length : Int) = n
  | _, [], _, _, r, hr => by cases hr
  | n, x :: t, h, hk, r, hr => by
    simp only [errR] at h
    by_cases h1 : rowE n x.2 = 0
    · rw [if_pos h1] at h
      obtain ⟨ha, hu⟩ := rowE_zero h1
      have hkx := hk x List.mem_cons_self
      have e1 : sumU x.2 = x.2.length := plain_sum fun s hs => (plain_one (hkx s hs)).1
      have e2 : sumM x.2 = x.2.length := plain_sum fun s hs => (plain_one (hkx s hs)).2
      have hx : (x.2.length : Int) = n := by
        rw [← e1, ← hu]; unfold usesE; rw [if_pos ha]
      have hn : rowA n x.2 = n := by
        unfold rowA makesE; rw [if_pos h1, if_pos ha, e2, hx]
      rw [hn] at h
      rcases List.mem_cons.1 hr with rfl | hr
      · exact hx
      · exact plain_len h (fun r hr => hk r (List.mem_cons_of_mem _ hr)) r hr
    · rw [if_neg h1] at h; exact absurd h h1
theorem face_len (r : RowC) : (faceL r).length = r.2.length := by
  unfold faceL turnedL
  split <;> simp
theorem face_kind {r : RowC} (h : ∀ s ∈ r.2, s.kind = 1 ∨ s.kind = 8) : ∀ s ∈ faceL r, s.kind = 1 ∨ s.kind = 8 := by
  intro s hs
  unfold faceL at hs
  split at hs
  · unfold turnedL at hs
    rw [List.mem_reverse, List.mem_map] at hs
    obtain ⟨x, hx, rfl⟩ := hs
    exact h x hx
  · exact h s hs
theorem row_step {right : Bool} {l : List Stc} {k : Nat} {s : Stc} (h : l[k]? = some s) (O R : List Ins) (B : List Int) :
    rowRunC right k (l.drop k) (O, R, B) = rowRunC right (k + 1) (l.drop (k + 1)) (stepOC s k O B, stepRw right s k R B, stepB s k B) := by
  obtain ⟨hk, e⟩ := List.getElem?_eq_some_iff.1 h
  rw [List.drop_eq_getElem_cons hk, e]; rfl
theorem rows_step {p : List RowC} {i : Nat} {r : RowC} (h : p[i]? = some r) (O : List Ins) (B : List Int) :
    rowsRun i (p.drop i) (O, B) = rowsRun (i + 1) (p.drop (i + 1)) ((rowRunC (decide (i % 2 = 1)) 0 (faceL r) (O, [], B)).1 ++ (if i % 2 = 0 then (rowRunC (decide (i % 2 = 1)) 0 (faceL r) (O, [], B)).2.1.reverse else (rowRunC (decide (i % 2 = 1)) 0 (faceL r) (O, [], B)).2.1), (rowRunC (decide (i % 2 = 1)) 0 (faceL r) (O, [], B)).2.2) := by
  obtain ⟨hk, e⟩ := List.getElem?_eq_some_iff.1 h
  rw [List.drop_eq_getElem_cons hk, e]; rfl
theorem stepB_len (s : Stc) (k : Nat) (B : List Int) : (stepB s k B).length = B.length := by
  unfold stepB; split <;> simp

theorem flat_snoc (O : List Ins) (x : Ins) : ((O ++ [x]).map Ins.cells).flatten = (O.map Ins.cells).flatten ++ x.cells := by simp

/-! ### memory of Compile's -/
def bedV (B : List Int) : List Value := B.map fun b => .int .u8 b
/-- The chart's box, the beds and the program so far. -/
structure CompAt (w : World) (bb : Nat) (start : Int) (A : Option Addr) (n c : Nat) (vo : Value) (O : List Ins) (B : List Int) (W : World) : Prop where
  below : Below w.heap.size w W
  c0 : W.cell? ⟨w.heap.size, 0, none⟩ = some (.int .i64 start)
  c1 : W.cell? ⟨w.heap.size, 1, none⟩ = some (.slice A n c)
  own : W.ownsRow (w.heap.size + 1) 64 7 vo O.length (O.map Ins.cells).flatten
  bed : W.ownsRow (w.heap.size + 1) 5 1 (.slice (some ⟨bb, 0, none⟩) B.length B.length) B.length (bedV B)
  neB : vo.ownBlock ≠ some bb
theorem CompAt.to {w : World} {bb : Nat} {start : Int} {A : Option Addr} {n c : Nat} {vo : Value} {O : List Ins} {B : List Int} {W W' : World} (h : CompAt w bb start A n c vo O B W) (hb : Below W.heap.size W W') : CompAt w bb start A n c vo O B W' := by
  have h0 := lt_of_cell h.c0
  exact ⟨h.below.trans (hb.mono h.below.size), (bcell hb h0 _).trans h.c0, (bcell hb h0 _).trans h.c1, own_below h.own hb (Nat.le_refl _), own_below h.bed hb (Nat.le_refl _), h.neB⟩
/-- Something is appended to the program. -/
theorem CompAt.grow {w : World} {bb : Nat} {start : Int} {A : Option Addr} {n c : Nat} {vo vo' : Value} {O O' : List Ins} {B : List Int} {W W' : World} (h : CompAt w bb start A n c vo O B W)
    (ho : W'.ownsRow (w.heap.size + 1) 64 7 vo' O'.length (O'.map Ins.cells).flatten) (hg : W.grownBy W' vo.ownBlock) (hn : ∀ g, vo'.ownBlock = some g → vo.ownBlock = some g ∨ W.heap.size ≤ g) : CompAt w bb start A n c vo' O' B W' := by
  have h0 := lt_of_cell h.c0
  have hlo : ∀ g, vo.ownBlock = some g → w.heap.size + 1 ≤ g := fun g e => (h.own.lt g e).1
  have hB : Below (w.heap.size + 1) W W' := (Below.refl _ W).grown hg (by omega) (fun k e => hlo k e)
  have hbb := (h.bed.lt bb rfl)
  refine ⟨h.below.trans (hB.mono (by omega)), (bcell hB (by omega) _).trans h.c0, (bcell hB (by omega) _).trans h.c1, ho, h.bed.kept hg (Or.inr fun e => h.neB e.symm), fun e => ?_⟩
  rcases hn bb e with e' | e'
  · exact h.neB e'
  · omega
theorem CompAt.alloc {w : World} {bb : Nat} {start : Int} {A : Option Addr} {n c : Nat} {vo : Value} {O : List Ins} {B : List Int} {W : World} (h : CompAt w bb start A n c vo O B W) (o : Obj) : CompAt w bb start A n c vo O B (W.alloc o) :=
  h.to ((Below.refl _ W).alloc (Nat.le_refl _) o)
/-- A bed is set. -/
theorem CompAt.set_ {w : World} {bb : Nat} {start : Int} {A : Option Addr} {n c : Nat} {vo : Value} {O : List Ins} {B : List Int} {W : World} (h : CompAt w bb start A n c vo O B W) (k : Nat) (z : Int) : CompAt w bb start A n c vo O (B.set k z) (W.setCell ⟨bb, k, none⟩ (.int .u8 z)) := by
  have h0 := lt_of_cell h.c0
  obtain ⟨h1, h2⟩ := h.bed.stored k (.int .u8 z)
  have hbb := (h.bed.lt bb rfl)
  have hB : Below (w.heap.size + 1) W (W.setCell ⟨bb, k, none⟩ (.int .u8 z)) := (Below.refl _ W).setCell (p := ⟨bb, k, none⟩) (by show w.heap.size + 1 ≤ bb; omega) _
  refine ⟨h.below.trans (hB.mono (by omega)), (bcell hB (by omega) _).trans h.c0, (bcell hB (by omega) _).trans h.c1, h.own.kept h2 (Or.inr h.neB), ?_, h.neB⟩
  rw [List.length_set]
  have e : bedV (B.set k z) = (bedV B).set k (.int .u8 z) := by unfold bedV; rw [List.map_set]
  rw [e]
  exact h1
theorem CompAt.bedAt {w : World} {bb : Nat} {start : Int} {A : Option Addr} {n c : Nat} {vo : Value} {O : List Ins} {B : List Int} {W : World} (h : CompAt w bb start A n c vo O B W) {k : Nat} (hk : k < B.length) : W.cell? ⟨bb, k, none⟩ = some (.int .u8 (B.getD k 0)) := by
  rw [h.bed.cellAt k (by omega)]
  unfold bedV
  rw [List.getElem?_map, List.getD, List.getElem?_eq_getElem hk]; rfl
/-- The row so far. -/
structure RowAt (w : World) (bb : Nat) (vo vr : Value) (R : List Ins) (W : World) : Prop where
  own : W.ownsRow (w.heap.size + 1) 64 7 vr R.length (R.map Ins.cells).flatten
  neB : vr.ownBlock ≠ some bb
  neO : vr.ownBlock = none ∨ vr.ownBlock ≠ vo.ownBlock
theorem RowAt.to {w : World} {bb : Nat} {vo vr : Value} {R : List Ins} {W W' : World} (h : RowAt w bb vo vr R W) (hb : Below W.heap.size W W') : RowAt w bb vo vr R W' := ⟨own_below h.own hb (Nat.le_refl _), h.neB, h.neO⟩
/-- The row's face lies in a block of its own. -/
structure FaceAt (bb : Nat) (vo vr : Value) (A : Option Addr) (l : List Stc) (W : World) : Prop where
  sl : SlT W W.heap.size A l
  ne : l ≠ [] → ∀ ad, A = some ad → bb ≠ ad.block ∧ vo.ownBlock ≠ some ad.block ∧ vr.ownBlock ≠ some ad.block
theorem SlS.grown {sz : Nat} {w w' : World} {B : Nat} {A : Option Addr} {zs : List (List Value)} {row : Option Nat} (h : SlS sz w B A zs) (hB : B ≤ w.heap.size) (hg : w.grownBy w' row) (hne : zs ≠ [] → ∀ ad, A = some ad → row ≠ some ad.block) : SlS sz w' B A zs := fun hn => by
  obtain ⟨b, off, rfl, hb, hc⟩ := h hn
  refine ⟨b, off, rfl, hb, fun j cs hz i v hv => ?_⟩
  exact (World.cell?_of_block (hg.block b (by omega) (fun e => hne hn _ rfl e.symm))).trans (hc j cs hz i v hv)
theorem FaceAt.grown {bb : Nat} {vo vr vo' vr' : Value} {A : Option Addr} {l : List Stc} {W W' : World} {row : Option Nat} (h : FaceAt bb vo vr A l W) (hg : W.grownBy W' row) (hrow : l ≠ [] → ∀ ad, A = some ad → row ≠ some ad.block)
    (ho : ∀ g, vo'.ownBlock = some g → vo.ownBlock = some g ∨ W.heap.size ≤ g) (hr : ∀ g, vr'.ownBlock = some g → vr.ownBlock = some g ∨ W.heap.size ≤ g) : FaceAt bb vo' vr' A l W' := by
  refine ⟨(SlS.grown h.sl (Nat.le_refl _) hg (fun hn => hrow (fun e => hn (by rw [e]; rfl)))).more hg.size, fun hne ad had => ?_⟩
  obtain ⟨h1, h2, h3⟩ := h.ne hne ad had
  have hlt : ad.block < W.heap.size := by
    obtain ⟨b, off, e, hb, _⟩ := h.sl (by simpa using hne)
    rw [had] at e; cases e; exact hb
  refine ⟨h1, fun e => ?_, fun e => ?_⟩
  · rcases ho _ e with e' | e'
    · exact h2 e'
    · omega
  · rcases hr _ e with e' | e'
    · exact h3 e'
    · omega
theorem FaceAt.to {bb : Nat} {vo vr : Value} {A : Option Addr} {l : List Stc} {W W' : World} (h : FaceAt bb vo vr A l W) (hb : Below W.heap.size W W') : FaceAt bb vo vr A l W' := ⟨(h.sl.below hb).more hb.size, h.ne⟩
/-- The cells of a new block. -/
theorem news_new (W : World) (cs : Array Value) (t : TypeId) : ∀ (j : Nat) (u : Value), cs.toList[j]? = some u → (W.alloc (.cells cs t)).cell? ((⟨W.heap.size, 0, none⟩ : Addr).add j) = some u := fun j u h => by
  rw [show (⟨W.heap.size, 0, none⟩ : Addr).add j = ⟨W.heap.size, j, none⟩ by unfold Addr.add; split <;> simp_all]
  exact cell_new rfl rfl (by simpa using h)
theorem CompAt.push {w : World} {bb : Nat} {start : Int} {A : Option Addr} {n c : Nat} {vo : Value} {O : List Ins} {B : List Int} {W W' : World} {g cap : Nat} {x : Ins} (h : CompAt w bb start A n c vo O B W)
    (ho : W'.ownsRow (w.heap.size + 1) 64 7 (.slice (some ⟨g, 0, none⟩) (O.length + 1) cap) (O.length + 1) ((O.map Ins.cells).flatten ++ x.cells)) (hg : W.grownBy W' vo.ownBlock) (hn : vo.ownBlock = some g ∨ g = W.heap.size) :
    CompAt w bb start A n c (.slice (some ⟨g, 0, none⟩) (O.length + 1) cap) (O ++ [x]) B W' := by
  refine h.grow (O' := O ++ [x]) (by rw [flat_snoc, List.length_append]; exact ho) hg fun g' e => ?_
  cases e
  rcases hn with e | e
  · exact Or.inl e
  · exact Or.inr (by show W.heap.size ≤ g; omega)
/-- The row is left alone while the program grows. -/
theorem RowAt.other {w : World} {bb : Nat} {vo vo' vr : Value} {R : List Ins} {W W' : World} (h : RowAt w bb vo vr R W) (hg : W.grownBy W' vo.ownBlock) (hn : ∀ g, vo'.ownBlock = some g → vo.ownBlock = some g ∨ W.heap.size ≤ g) : RowAt w bb vo' vr R W' := by
  refine ⟨h.own.kept hg h.neO, h.neB, ?_⟩
  cases hv : vr.ownBlock with
  | none => exact Or.inl rfl
  | some r =>
    refine Or.inr fun e => ?_
    have hlt := (h.own.lt r hv).2
    rcases hn r e.symm with e' | e'
    · rcases h.neO with h1 | h1
      · rw [hv] at h1; cases h1
      · exact h1 (by rw [hv, e'])
    · omega
/-- The program is left alone while the row is written. -/
theorem CompAt.other {w : World} {bb : Nat} {start : Int} {A : Option Addr} {n c : Nat} {vo vr : Value} {O R : List Ins} {B : List Int} {W W' : World} (h : CompAt w bb start A n c vo O B W) (hr : RowAt w bb vo vr R W) (hg : W.grownBy W' vr.ownBlock) : CompAt w bb start A n c vo O B W' := by
  have h0 := lt_of_cell h.c0
  have hB : Below (w.heap.size + 1) W W' := (Below.refl _ W).grown hg (by omega) (fun k e => (hr.own.lt k e).1)
  refine ⟨h.below.trans (hB.mono (by omega)), (bcell hB (by omega) _).trans h.c0, (bcell hB (by omega) _).trans h.c1, h.own.kept hg ?_, h.bed.kept hg (Or.inr fun e => hr.neB e.symm), h.neB⟩
  rcases hr.neO with e | e
  · cases hv : vo.ownBlock with
    | none => exact Or.inl rfl
    | some g => exact Or.inr (by rw [e]; simp)
  · exact Or.inr fun e' => e e'.symm
theorem RowAt.push {w : World} {bb : Nat} {vo vr : Value} {R : List Ins} {W W' : World} {g cap : Nat} {x : Ins} {base : Nat} (h : RowAt w bb vo vr R W) (hbb : bb < W.heap.size) (hvo : ∀ g, vo.ownBlock = some g → g < W.heap.size) (hb : base = w.heap.size + 1)
    (ho : W'.ownsRow base 64 7 (.slice (some ⟨g, 0, none⟩) (R.length + 1) cap) (R.length + 1) ((R.map Ins.cells).flatten ++ x.cells)) (hn : vr.ownBlock = some g ∨ g = W.heap.size) : RowAt w bb vo (.slice (some ⟨g, 0, none⟩) (R.length + 1) cap) (R ++ [x]) W' := by
  subst hb
  refine ⟨by rw [flat_snoc, List.length_append]; exact ho, fun e => ?_, Or.inr fun e => ?_⟩
  · have e0 : g = bb := Option.some.inj e
    rcases hn with e | e
    · exact h.neB (by rw [e, e0])
    · omega
  · have := hvo g e.symm
    rcases hn with e' | e'
    · rcases h.neO with h1 | h1
      · rw [e'] at h1; cases h1
      · exact h1 (by rw [e', ← e]; rfl)
    · omega
theorem news_new' (W : World) (cs : Array Value) (t : TypeId) (b : Nat) (hb : b = W.heap.size) : ∀ (j : Nat) (u : Value), cs.toList[j]? = some u → (W.alloc (.cells cs t)).cell? ((⟨b, 0, none⟩ : Addr).add j) = some u := by
  subst hb; exact news_new W cs t
theorem and_small : ∀ i : Nat, i ≤ 100 → bits .and .i64 (i : Int) 1 = ((i % 2 : Nat) : Int) := by
  have h : (List.range 101).all (fun i : Nat => decide (bits .and .i64 (i : Int) 1 = ((i % 2 : Nat) : Int))) = true := by decide +kernel
  intro i hi
  have := List.all_eq_true.1 h i (List.mem_range.2 (by omega))
  exact of_decide_eq_true this
/-- An instruction is appended to the row. -/
theorem row_pushed {w : World} {bb : Nat} {start : Int} {A : Option Addr} {n c : Nat} {vo vr : Value} {O R : List Ins} {B : List Int} {Af : Option Addr} {l : List Stc} {W W' : World} {o : Obj} {g cap : Nat} {x : Ins}
    (hC : CompAt w bb start A n c vo O B W) (hR : RowAt w bb vo vr R W) (hF : FaceAt bb vo vr Af l W)
    (ho : W'.ownsRow (w.heap.size + 1) 64 7 (.slice (some ⟨g, 0, none⟩) (R.length + 1) cap) (R.length + 1) ((R.map Ins.cells).flatten ++ x.cells)) (hg : (W.alloc o).grownBy W' vr.ownBlock) (hn : vr.ownBlock = some g ∨ g = W.heap.size + 1) :
    CompAt w bb start A n c vo O B W' ∧ RowAt w bb vo (.slice (some ⟨g, 0, none⟩) (R.length + 1) cap) (R ++ [x]) W' ∧ FaceAt bb vo (.slice (some ⟨g, 0, none⟩) (R.length + 1) cap) Af l W' := by
  have hb := (Below.refl W.heap.size W).alloc (Nat.le_refl _) o
  have hn' : vr.ownBlock = some g ∨ g = (W.alloc o).heap.size := hn.imp id fun e => by simpa using e
  refine ⟨(hC.alloc o).other (hR.to hb) hg, RowAt.push (hR.to hb) (by have := (hC.bed.lt bb rfl).2; simp; omega) (fun g' e => by have := (hC.own.lt g' e).2; simp; omega) rfl ho hn', (hF.to hb).grown hg (fun hne ad had => ((hF.to hb).ne hne ad had).2.2) (fun g' e => Or.inl e) (fun g' e => ?_)⟩
  cases e
  rcases hn' with e | e
  · exact Or.inl e
  · exact Or.inr (by show (W.alloc o).heap.size ≤ g; omega)
/-- An instruction is appended to the program. -/
theorem out_pushed {w : World} {bb : Nat} {start : Int} {A : Option Addr} {n c : Nat} {vo vr : Value} {O R : List Ins} {B : List Int} {Af : Option Addr} {l : List Stc} {W W' : World} {o : Obj} {g cap : Nat} {x : Ins}
    (hC : CompAt w bb start A n c vo O B W) (hR : RowAt w bb vo vr R W) (hF : FaceAt bb vo vr Af l W)
    (ho : W'.ownsRow (w.heap.size + 1) 64 7 (.slice (some ⟨g, 0, none⟩) (O.length + 1) cap) (O.length + 1) ((O.map Ins.cells).flatten ++ x.cells)) (hg : (W.alloc o).grownBy W' vo.ownBlock) (hn : vo.ownBlock = some g ∨ g = W.heap.size + 1) :
    CompAt w bb start A n c (.slice (some ⟨g, 0, none⟩) (O.length + 1) cap) (O ++ [x]) B W' ∧ RowAt w bb (.slice (some ⟨g, 0, none⟩) (O.length + 1) cap) vr R W' ∧ FaceAt bb (.slice (some ⟨g, 0, none⟩) (O.length + 1) cap) vr Af l W' := by
  have hb := (Below.refl W.heap.size W).alloc (Nat.le_refl _) o
  have hn' : vo.ownBlock = some g ∨ g = (W.alloc o).heap.size := hn.imp id fun e => by simpa using e
  have hnn : ∀ g', (Value.slice (some ⟨g, 0, none⟩) (O.length + 1) cap).ownBlock = some g' → vo.ownBlock = some g' ∨ (W.alloc o).heap.size ≤ g' := fun g' e => by
    cases e
    rcases hn' with e | e
    · exact Or.inl e
    · exact Or.inr (by show (W.alloc o).heap.size ≤ g; omega)
  exact ⟨(hC.alloc o).push ho hg hn', (hR.to hb).other hg hnn, (hF.to hb).grown hg (fun hne ad had => ((hF.to hb).ne hne ad had).2.1) hnn (fun g' e => Or.inl e)⟩
/-- A bed is set. -/
theorem bed_set {w : World} {bb : Nat} {start : Int} {A : Option Addr} {n c : Nat} {vo vr : Value} {O R : List Ins} {B : List Int} {Af : Option Addr} {l : List Stc} {W : World} (k : Nat) (z : Int)
    (hC : CompAt w bb start A n c vo O B W) (hR : RowAt w bb vo vr R W) (hF : FaceAt bb vo vr Af l W) :
    CompAt w bb start A n c vo O (B.set k z) (W.setCell ⟨bb, k, none⟩ (.int .u8 z)) ∧ RowAt w bb vo vr R (W.setCell ⟨bb, k, none⟩ (.int .u8 z)) ∧ FaceAt bb vo vr Af l (W.setCell ⟨bb, k, none⟩ (.int .u8 z)) := by
  have hg := (hC.bed.stored k (.int .u8 z)).2
  exact ⟨hC.set_ k z, ⟨hR.own.kept hg (Or.inr hR.neB), hR.neB, hR.neO⟩, hF.grown hg (fun hne ad had => by have := (hF.ne hne ad had).1; intro e; cases e; exact this rfl) (fun g' e => Or.inl e) (fun g' e => Or.inl e)⟩
theorem info_ins : (Tryz.prog.info? 64).map (fun i => (i.zero, i.size, i.bytes)) = some (some (.agg #[.int .u8 0, .bool false, .int .u8 0, .int .i64 0, .int .i64 0, .int .i64 0, .int .i64 0]), 7, 40) := by kernel_rfl
theorem info_u8 : (Tryz.prog.info? 5).map (fun i => (i.zero, i.size, i.bytes)) = some (some (.int .u8 0), 1, 1) := by kernel_rfl
end Go.Proofs.YtbnddpknejgmhaaGreat
