/- A slice of slices of ints that a call makes: the outer row is owned, the inner rows are read. Layer 34, memory of Show: a box with the rows, the counts, the outer row, the inner rows. -/
import Derived.Test.YthedmiilkeclaaaGreatKRd
import Derived.Test.YthedmiilkeclaaaGreatKRh
import Derived.Test.YthedmiilkeclaaaGreatKPb
import Derived.Deep.OwnRows
namespace Go.Proofs.YthedmiilkeclaaaGreat
open Go.RowKit Go.Shelf
set_option maxRecDepth 100000

theorem info_rowR : (Tryz.prog.info? 22).map (fun i => (i.zero, i.size, i.bytes)) = some (some (.slice none 0 0), 1, 24) := by kernel_rfl
theorem own_form' {w : World} {B : Nat} {e : TypeId} {size n : Nat} {v : Value} {xs : List Value} (h : w.ownsRow B e size v n xs) : ∃ a c, v = .slice a n c := by
  rcases h.2 with ⟨rfl, h0⟩ | ⟨g, cap, cur, rfl, -⟩
  · rw [h0]; exact ⟨none, 0, rfl⟩
  · exact ⟨_, _, rfl⟩
theorem own_pos' {w : World} {B : Nat} {e : TypeId} {n c : Nat} {a : Option Addr} {xs : List Value} (h : w.ownsRow B e 1 (.slice a n c) n xs) (hn : 0 < n) : ∃ g, a = some ⟨g, 0, none⟩ ∧ B ≤ g ∧ g < w.heap.size ∧ ∀ j, j < n → w.cell? ⟨g, j, none⟩ = xs[j]? := by
  have h0 := h
  rcases h.2 with ⟨e1, h2⟩ | ⟨g, cap, cur, hv, hg, hh, -⟩
  · omega
  · cases hv
    exact ⟨g, rfl, hg, (Array.getElem?_eq_some_iff.1 hh).1, fun j hj => World.ownsRow.cellAt h0 j (by omega)⟩
/-- An inner row, in a block that is not the outer one's. -/
def SlIx (w : World) (v : Value) (A : Option Addr) (row : List Int) : Prop := row ≠ [] → ∃ b off, A = some ⟨b, off, none⟩ ∧ b < w.heap.size ∧ v.ownBlock ≠ some b ∧ ∀ j z, row[j]? = some z → w.cell? ⟨b, off + j, none⟩ = some (.int .i64 z)
structure RowsO (w : World) (B : Nat) (v : Value) (p : List (List Int)) (vs : List Value) : Prop where
  row : w.ownsRow B 22 1 v p.length vs
  len : vs.length = p.length
  is : ∀ (j : Nat) (row : List Int), p[j]? = some row → ∃ (A' : Option Addr) (C' : Nat), vs[j]? = some (Value.slice A' row.length C') ∧ row.length ≤ C' ∧ SlIx w v A' row
theorem RowsO.new (w : World) (B : Nat) : RowsO w B (.slice none 0 0) [] [] := ⟨World.ownsRow_nil _ _ _ _, rfl, fun j row h => by simp at h⟩
theorem RowsO.to {w w' : World} {B : Nat} {v : Value} {p : List (List Int)} {vs : List Value} (h : RowsO w B v p vs) (hb : Below w.heap.size w w') : RowsO w' B v p vs := by
  refine ⟨own_below h.row hb (Nat.le_refl _), h.len, fun j row hr => ?_⟩
  obtain ⟨A', C', h1, h2, h3⟩ := h.is j row hr
  refine ⟨A', C', h1, h2, fun hn => ?_⟩
  obtain ⟨b, off, e, hbl, hne, hc⟩ := h3 hn
  exact ⟨b, off, e, Nat.lt_of_lt_of_le hbl hb.size, hne, fun j z hz => (bcell hb hbl _).trans (hc j z hz)⟩
theorem RowsO.rows {w : World} {B n c : Nat} {a : Option Addr} {p : List (List Int)} {vs : List Value} (h : RowsO w B (.slice a n c) p vs) : SlRows w w.heap.size a p := fun hn => by
  have hp : 0 < p.length := List.length_pos_iff.2 hn
  have hr := h.row
  obtain ⟨a', c', e⟩ := own_form' hr
  cases e
  obtain ⟨b, rfl, h1, h2, h3⟩ := own_pos' hr hp
  refine ⟨b, 0, rfl, h2, fun j row hrow => ?_⟩
  obtain ⟨A', C', e1, e2, e3⟩ := h.is j row hrow
  have hj := (List.getElem?_eq_some_iff.1 hrow).1
  refine ⟨A', C', by rw [Nat.zero_add, h3 j (by omega)]; exact e1, e2, fun hne => ?_⟩
  obtain ⟨b2, off, e, hbl, -, hc⟩ := e3 hne
  exact ⟨b2, off, e, hbl, hc⟩
theorem RowsO.form {w : World} {B : Nat} {v : Value} {p : List (List Int)} {vs : List Value} (h : RowsO w B v p vs) : ∃ a c, v = .slice a p.length c := own_form' h.row
theorem RowsO.lt {w : World} {B b : Nat} {v : Value} {p : List (List Int)} {vs : List Value} (h : RowsO w B v p vs) (hb : v.ownBlock = some b) : B ≤ b ∧ b < w.heap.size := World.ownsRow.lt h.row b hb
/-- A row is appended. -/
theorem RowsO.push {w : World} {B c : Nat} {a : Option Addr} {p : List (List Int)} {vs : List Value} (h : RowsO w B (.slice a p.length c) p vs) (hB : B ≤ w.heap.size) (hl : p.length ≤ 1000) {A : Option Addr} {row : List Int} {C : Nat} (hC : row.length ≤ C) (hs : SlIx w (.slice a p.length c) A row) :
    ∃ A' c' w', (Builtin.append_ #[23, 23] 23 #[.slice a p.length c, .slice (some ⟨w.heap.size, 0, none⟩) 1 1]).run Tryz.prog (w.alloc (.cells #[.slice A row.length C] 22)) = .ok (.slice A' (p.length + 1) c') w' ∧ RowsO w' B (.slice A' (p.length + 1) c') (p ++ [row]) (vs ++ [.slice A row.length C]) ∧ Below B w w' := by
  obtain ⟨ii, hii, hii0, hii1, hii2⟩ := info_parts info_rowR
  have hba : Below w.heap.size w (w.alloc (.cells #[.slice A row.length C] 22)) := (Below.refl _ w).alloc (Nat.le_refl _) _
  have ho : (w.alloc (.cells #[.slice A row.length C] 22)).ownsRow B 22 1 (.slice a p.length c) p.length vs := own_below h.row hba (Nat.le_refl _)
  have hsz := hba.size
  have hnew : ∀ j u, [Value.slice A row.length C][j]? = some u → (w.alloc (.cells #[.slice A row.length C] 22)).cell? ((⟨w.heap.size, 0, none⟩ : Addr).add j) = some u := newsT w _ _ _ rfl
  obtain ⟨A', c', w', hr, ho1, hg1, hn⟩ := run_app_any Tryz.underlying23 hii hii0 hii1 hii2 rfl (by decide) ho (some ⟨w.heap.size, 0, none⟩) 1 1 [.slice A row.length C] rfl (fun e => by cases e) (fun ad e => by cases e; exact hnew) (by intro u hu; rw [List.mem_singleton.1 hu]; rfl) (by unfold maxLen; omega) (by omega) (by omega)
  have hcellk : ∀ b, b < w.heap.size → (Value.slice a p.length c).ownBlock ≠ some b → ∀ o, w'.cell? ⟨b, o, none⟩ = w.cell? ⟨b, o, none⟩ := fun b hb hne o => (World.cell?_of_block (a := ⟨b, o, none⟩) (hg1.block b (by omega) (fun e => hne e.symm))).trans (bcell hba hb o)
  have hx : ∀ {A0 : Option Addr} {r : List Int}, SlIx w (.slice a p.length c) A0 r → SlIx w' (.slice A' (p.length + 1) c') A0 r := fun {A0 r} hx hne => by
    obtain ⟨b, off, e, hbl, hnb, hc⟩ := hx hne
    refine ⟨b, off, e, by have := hg1.size; omega, fun e2 => ?_, fun j z hz => (hcellk b hbl hnb _).trans (hc j z hz)⟩
    rcases hn b e2 with e3 | e3
    · exact hnb e3
    · omega
  refine ⟨A', c', w', hr, ⟨by rw [List.length_append, List.length_singleton]; exact ho1, by rw [List.length_append, List.length_append, h.len]; rfl, fun j r hj => ?_⟩, (hba.mono hB).trans (Below.of_grown hg1 (by omega) (fun k e => (World.ownsRow.lt ho k e).1))⟩
  by_cases hlt : j < p.length
  · rw [List.getElem?_append_left hlt] at hj
    obtain ⟨A0, C0, e1, e2, e3⟩ := h.is j r hj
    exact ⟨A0, C0, by rw [List.getElem?_append_left (by rw [h.len]; exact hlt)]; exact e1, e2, hx e3⟩
  · have hjl := (List.getElem?_eq_some_iff.1 hj).1
    rw [List.length_append, List.length_singleton] at hjl
    obtain rfl : j = p.length := by omega
    rw [List.getElem?_append_right (Nat.le_refl _), Nat.sub_self] at hj
    have e : r = row := by simpa using hj.symm
    subst e
    exact ⟨A, C, by rw [List.getElem?_append_right (by rw [h.len]; exact Nat.le_refl _), h.len, Nat.sub_self]; rfl, hC, hx hs⟩
end Go.Proofs.YthedmiilkeclaaaGreat
namespace Go.Proofs.YthedmiilkeclaaaGreat
open Go.RowKit Go.Shelf
open Go.Proofs.YthedmiilkeclaaaGreat.I34
set_option maxRecDepth 100000

theorem ce_perm {α : Type} : ∀ {l : List α} {k : Nat} (h : k < l.length), (l[k] :: l.eraseIdx k).Perm l
  | [], k, h => absurd h (Nat.not_lt_zero k)
  | a :: l, 0, _ => List.Perm.refl _
  | a :: l, k + 1, h => by
    have h' : k < l.length := by simpa using h
    exact (List.Perm.swap a l[k] (l.eraseIdx k)).trans (List.Perm.cons a (ce_perm h'))
theorem set_perm {α : Type} {L : List α} {k : Nat} {o : α} (hk : L[k]? = some o) (o' : α) : (o :: L.eraseIdx k).Perm L ∧ (o' :: L.eraseIdx k).Perm (L.set k o') := by
  obtain ⟨hl, e⟩ := List.getElem?_eq_some_iff.1 hk
  refine ⟨?_, ?_⟩
  · rw [← e]; exact ce_perm hl
  · have h := ce_perm (l := L.set k o') (k := k) (by rw [List.length_set]; exact hl)
    rw [List.getElem_set_self, List.eraseIdx_set_eq] at h
    exact h
/-- One row of several is turned. -/
theorem Owns.turnAt {w w' : World} {B : Nat} {L : List Own} {k : Nat} {o o' : Own} (h : Owns w B L) (hk : L[k]? = some o) (hg : w.grownBy w' o.v.ownBlock) (ho : o'.lies w' B) (hn : ∀ j, o'.v.ownBlock = some j → o.v.ownBlock = some j ∨ w.heap.size ≤ j) : Owns w' B (L.set k o') := by
  obtain ⟨p1, p2⟩ := set_perm hk o'
  exact ((h.perm p1.symm).turn hg ho hn).perm p2
def pB (tb : Nat) (v : Value) : Own := ⟨23, 1, 1, .slice (some ⟨tb, 0, none⟩) 1 1, [v]⟩
def pC (cb : Nat) (C : List Int) : Own := ⟨72, 101, 1, .slice (some ⟨cb, 0, none⟩) 1 1, C.map (Value.int .i64)⟩
def sG (wd g : Nat) : Value := .slice (some ⟨g, 0, none⟩) wd wd
def pR (v : Value) (wd : Nat) (gs : List Nat) : Own := ⟨22, 1, gs.length, v, gs.map (sG wd)⟩
def pI (wd g : Nat) (row : List Int) : Own := ⟨3, 1, wd, sG wd g, row.map (Value.int .i64)⟩
def inner (wd : Nat) (gs : List Nat) (R : List (List Int)) : List Own := List.zipWith (pI wd) gs R
/-- The memory of Show. -/
structure ShA (w0 : World) (wd tb cb : Nat) (v : Value) (gs : List Nat) (s : ShS) (W : World) : Prop where
  own : Owns W w0.heap.size (pB tb v :: pC cb s.1 :: pR v wd gs :: inner wd gs s.2)
  gl : gs.length = s.2.length
  clen : s.1.length = 101
  rl : ∀ r ∈ s.2, r.length = wd
  lo : Below w0.heap.size w0 W
theorem ShA.to {w0 W W' : World} {wd tb cb : Nat} {v : Value} {gs : List Nat} {s : ShS} (h : ShA w0 wd tb cb v gs s W) (hb : Below W.heap.size W W') : ShA w0 wd tb cb v gs s W' := ⟨h.own.to hb, h.gl, h.clen, h.rl, h.lo.trans (hb.mono h.lo.size)⟩
theorem box_at {w : World} {B b sz k : Nat} {e : TypeId} {xs : List Value} (h : w.ownsRow B e sz (.slice (some ⟨b, 0, none⟩) 1 1) 1 xs) (hk : k < sz) : w.cell? ⟨b, k, none⟩ = xs[k]? ∧ w.frozen? ⟨b, k, none⟩ = false ∧ B ≤ b ∧ b < w.heap.size := by
  have hl := World.ownsRow.lt h b rfl
  exact ⟨World.ownsRow.cellAt h k (by omega), World.ownsRow.frozenAt h k, hl.1, hl.2⟩
theorem ShA.box {w0 W : World} {wd tb cb : Nat} {v : Value} {gs : List Nat} {s : ShS} (h : ShA w0 wd tb cb v gs s W) : W.cell? ⟨tb, 0, none⟩ = some v ∧ (∀ k, W.frozen? ⟨tb, k, none⟩ = false) ∧ w0.heap.size ≤ tb ∧ tb < W.heap.size := by
  have h0 : W.ownsRow w0.heap.size 23 1 (.slice (some ⟨tb, 0, none⟩) 1 1) 1 [v] := h.own.head
  obtain ⟨a, _, c, d⟩ := box_at h0 (k := 0) (by omega)
  exact ⟨a, fun k => World.ownsRow.frozenAt h0 k, c, d⟩
theorem ShA.count {w0 W : World} {wd tb cb : Nat} {v : Value} {gs : List Nat} {s : ShS} (h : ShA w0 wd tb cb v gs s W) {k : Nat} (hk : k < 101) : W.cell? ⟨cb, k, none⟩ = some (.int .i64 (s.1.getD k 0)) ∧ W.frozen? ⟨cb, k, none⟩ = false ∧ w0.heap.size ≤ cb ∧ cb < W.heap.size := by
  have h0 : W.ownsRow w0.heap.size 72 101 (.slice (some ⟨cb, 0, none⟩) 1 1) 1 (s.1.map (Value.int .i64)) := h.own.all (pC cb s.1) (by simp)
  obtain ⟨a, b, c, d⟩ := box_at h0 (k := k) (by omega)
  refine ⟨?_, b, c, d⟩
  rw [a, List.getElem?_map, List.getElem?_eq_getElem (by rw [h.clen]; exact hk), List.getD_eq_getElem?_getD, List.getElem?_eq_getElem (by rw [h.clen]; exact hk)]
  rfl
theorem inner_at {wd : Nat} : ∀ {gs : List Nat} {R : List (List Int)} {k g : Nat} {row : List Int}, gs[k]? = some g → R[k]? = some row → (inner wd gs R)[k]? = some (pI wd g row)
  | [], _, _, _, _, h, _ => by simp at h
  | _ :: _, [], _, _, _, _, h => by simp at h
  | a :: gs, r :: R, 0, g, row, h1, h2 => by
    have e1 : a = g := by simpa using h1
    have e2 : r = row := by simpa using h2
    subst e1 e2; rfl
  | a :: gs, r :: R, k + 1, g, row, h1, h2 => by
    show (inner wd gs R)[k]? = _
    exact inner_at (by simpa using h1) (by simpa using h2)
theorem inner_set {wd : Nat} : ∀ {gs : List Nat} {R : List (List Int)} {k g : Nat} (row : List Int), gs[k]? = some g → inner wd gs (R.set k row) = (inner wd gs R).set k (pI wd g row)
  | [], R, k, g, row, h => by simp at h
  | a :: gs, [], k, g, row, _ => by simp [inner]
  | a :: gs, r :: R, 0, g, row, h => by
    have e1 : a = g := by simpa using h
    subst e1; rfl
  | a :: gs, r :: R, k + 1, g, row, h => by
    show pI wd a r :: inner wd gs (R.set k row) = pI wd a r :: (inner wd gs R).set k (pI wd g row)
    rw [inner_set row (by simpa using h)]
theorem inner_snoc {wd : Nat} {gs : List Nat} {R : List (List Int)} (h : gs.length = R.length) (g : Nat) (row : List Int) : inner wd (gs ++ [g]) (R ++ [row]) = inner wd gs R ++ [pI wd g row] := by
  unfold inner
  rw [List.zipWith_append h]
  rfl
theorem ShA.outer {w0 W : World} {wd tb cb : Nat} {v : Value} {gs : List Nat} {s : ShS} (h : ShA w0 wd tb cb v gs s W) : ∃ a c, v = .slice a s.2.length c := by
  have h0 : W.ownsRow w0.heap.size 22 1 v gs.length (gs.map (sG wd)) := h.own.all (pR v wd gs) (by simp)
  obtain ⟨a, c, e⟩ := own_form' h0
  exact ⟨a, c, by rw [e, h.gl]⟩
/-- An inner row as it lies. -/
theorem ShA.row {w0 W : World} {wd tb cb : Nat} {a : Option Addr} {n c : Nat} {gs : List Nat} {s : ShS} (h : ShA w0 wd tb cb (.slice a n c) gs s W) {k : Nat} {row : List Int} (hk : s.2[k]? = some row) : ∃ b g, a = some ⟨b, 0, none⟩ ∧ n = s.2.length ∧ W.cell? ⟨b, k, none⟩ = some (.slice (some ⟨g, 0, none⟩) wd wd) ∧ gs[k]? = some g ∧ (∀ j, W.frozen? ⟨g, j, none⟩ = false) ∧ ∀ j, j < wd → W.cell? ⟨g, j, none⟩ = some (.int .i64 (row.getD j 0)) := by
  have hl := (List.getElem?_eq_some_iff.1 hk).1
  have hgl := h.gl
  have hg : gs[k]? = some gs[k] := List.getElem?_eq_getElem (by omega)
  have h0 : W.ownsRow w0.heap.size 22 1 (.slice a n c) gs.length (gs.map (sG wd)) := h.own.all (pR (.slice a n c) wd gs) (by simp)
  have hn : n = gs.length := by
    obtain ⟨a', c', e⟩ := own_form' h0
    cases e; rfl
  subst hn
  obtain ⟨b, rfl, -, -, h3⟩ := own_pos' h0 (by omega)
  have h1 : W.ownsRow w0.heap.size 3 1 (sG wd gs[k]) wd (row.map (Value.int .i64)) := h.own.all (pI wd gs[k] row) (List.mem_cons_of_mem _ (List.mem_cons_of_mem _ (List.mem_cons_of_mem _ (List.mem_of_getElem? (inner_at hg hk)))))
  have hrl := h.rl row (List.mem_of_getElem? hk)
  refine ⟨b, gs[k], rfl, h.gl, ?_, hg, fun j => World.ownsRow.frozenAt h1 j, fun j hj => ?_⟩
  · rw [h3 k (by omega), List.getElem?_map, hg]; rfl
  · rw [World.ownsRow.cellAt h1 j (by omega), List.getElem?_map, List.getElem?_eq_getElem (by omega), List.getD_eq_getElem?_getD, List.getElem?_eq_getElem (by omega)]
    rfl
theorem ShA.new (w : World) (wd : Nat) : ShA w wd w.heap.size (w.heap.size + 1) (.slice none 0 0) [] sh0 ((w.alloc (.cells #[.slice none 0 0] 23)).alloc (.cells (Array.replicate 101 (.int .i64 0)) 72)) := by
  have hb1 := (Below.refl w.heap.size w).alloc (Nat.le_refl _) (.cells #[.slice none 0 0] 23)
  have o1 : Owns (w.alloc (.cells #[.slice none 0 0] 23)) w.heap.size [pB w.heap.size (.slice none 0 0)] := Owns.nil.add (o := pB w.heap.size (.slice none 0 0)) hb1 (Nat.le_refl _) (World.ownsRow_lit w #[.slice none 0 0] 1 (Nat.le_refl _) (by decide) rfl)
  have o2 : Owns ((w.alloc (.cells #[.slice none 0 0] 23)).alloc (.cells (Array.replicate 101 (.int .i64 0)) 72)) w.heap.size [pC (w.heap.size + 1) sh0.1, pB w.heap.size (.slice none 0 0)] := by
    refine o1.add (o := pC (w.heap.size + 1) sh0.1) ((Below.refl _ _).alloc (Nat.le_refl _) _) (by simp) ?_
    have h := World.ownsRow_lit (e := 72) (base := (w.alloc (.cells #[.slice none 0 0] 23)).heap.size) (size := 101) (w.alloc (.cells #[.slice none 0 0] 23)) (Array.replicate 101 (.int .i64 0)) 1 (Nat.le_refl _) (by decide) (by simp)
    unfold pC Own.lies sh0
    rw [List.map_replicate]
    rw [World.size_alloc] at h ⊢
    have e : (Array.replicate 101 (Value.int .i64 0)).toList = List.replicate 101 (Value.int .i64 0) := Array.toList_replicate ..
    rw [e] at h
    exact h
  refine ⟨?_, rfl, by simp [sh0], fun r hr => by simp [sh0] at hr, (hb1.alloc (by simp) _)⟩
  have o3 := o2.none 22 1
  exact o3.perm (List.reverse_perm _).symm
/-- A count is stored. -/
theorem ShA.cnt {w0 W : World} {wd tb cb : Nat} {v : Value} {gs : List Nat} {C : List Int} {R : List (List Int)} (h : ShA w0 wd tb cb v gs (C, R) W) (k : Nat) (x : Int) : ShA w0 wd tb cb v gs (C.set k x, R) (W.setCell ⟨cb, k, none⟩ (.int .i64 x)) := by
  have h0 : W.ownsRow w0.heap.size 72 101 (.slice (some ⟨cb, 0, none⟩) 1 1) 1 (C.map (Value.int .i64)) := h.own.all (pC cb C) (by simp)
  obtain ⟨h1, h2⟩ := World.ownsRow.stored h0 k (.int .i64 x)
  have hl := World.ownsRow.lt h0 cb rfl
  rw [← List.map_set] at h1
  have ht := h.own.turnAt (k := 1) (o := pC cb C) (o' := pC cb (C.set k x)) rfl h2 h1 (fun j hj => Or.inl hj)
  exact ⟨ht, h.gl, by have := h.clen; simpa using this, h.rl, h.lo.setCell (p := ⟨cb, k, none⟩) hl.1 _⟩
/-- A cell of an inner row is stored. -/
theorem ShA.put {w0 W : World} {wd tb cb : Nat} {v : Value} {gs : List Nat} {C : List Int} {R : List (List Int)} (h : ShA w0 wd tb cb v gs (C, R) W) {r g : Nat} {row : List Int} (hr : R[r]? = some row) (hg : gs[r]? = some g) (k : Nat) (x : Int) : ShA w0 wd tb cb v gs (C, R.set r (row.set k x)) (W.setCell ⟨g, k, none⟩ (.int .i64 x)) := by
  have hi := inner_at (wd := wd) hg hr
  have h0 : W.ownsRow w0.heap.size 3 1 (sG wd g) wd (row.map (Value.int .i64)) := h.own.all (pI wd g row) (List.mem_cons_of_mem _ (List.mem_cons_of_mem _ (List.mem_cons_of_mem _ (List.mem_of_getElem? hi))))
  obtain ⟨h1, h2⟩ := World.ownsRow.stored h0 k (.int .i64 x)
  have hl := World.ownsRow.lt h0 g rfl
  rw [← List.map_set] at h1
  have ht := h.own.turnAt (k := r + 3) (o := pI wd g row) (o' := pI wd g (row.set k x)) hi h2 h1 (fun j hj => Or.inl hj)
  refine ⟨?_, by have := h.gl; simpa using this, h.clen, fun y hy => ?_, h.lo.setCell (p := ⟨g, k, none⟩) hl.1 _⟩
  · have e : (pB tb v :: pC cb C :: pR v wd gs :: inner wd gs R).set (r + 3) (pI wd g (row.set k x)) = pB tb v :: pC cb C :: pR v wd gs :: inner wd gs (R.set r (row.set k x)) := by
      rw [inner_set _ hg]; rfl
    rw [e] at ht
    exact ht
  · rcases List.mem_or_eq_of_mem_set hy with hy | hy
    · exact h.rl y hy
    · rw [hy, List.length_set]; exact h.rl row (List.mem_of_getElem? hr)
abbrev zr (wd : Nat) : Obj := .cells (madeCells #[Value.int .i64 0] wd) 3
theorem mk_row (wd : Nat) (hw : wd ≤ 101) (W : World) : (Instr.makeSlice 22 (.int .i64 (wd : Int)) (.int .i64 (wd : Int))).run Tryz.prog W = .ok (.slice (some ⟨W.heap.size, 0, none⟩) wd wd) (W.alloc (zr wd)) := by
  obtain ⟨ii, hii, hii0, hii1, hii2⟩ := info_parts info_intC
  exact run_make_row 22 3 ii (.int .i64 0) Tryz.underlying22 hii hii0 hii1 rfl .i64 .i64 wd (by rw [hii2]; omega) (by omega) W
abbrev pushW (W : World) (wd : Nat) : World := ((W.alloc (zr wd)).alloc (.cells #[.slice (some ⟨W.heap.size, 0, none⟩) wd wd] 22)).drew
/-- A row of zeros is appended. -/
theorem ShA.push {w0 W : World} {wd tb cb : Nat} {a : Option Addr} {n c : Nat} {gs : List Nat} {C : List Int} {R : List (List Int)} (h : ShA w0 wd tb cb (.slice a n c) gs (C, R) W) (hw : wd ≤ 101) (hR : R.length ≤ 3000) :
    ∃ A' c' w3, (Builtin.append_ #[23, 23] 23 #[.slice a n c, .slice (some ⟨W.heap.size + 1, 0, none⟩) 1 1]).run Tryz.prog (pushW W wd) = .ok (.slice A' (n + 1) c') w3 ∧ w3.cell? ⟨tb, 0, none⟩ = some (.slice a n c) ∧ w3.frozen? ⟨tb, 0, none⟩ = false ∧
      ShA w0 wd tb cb (.slice A' (n + 1) c') (gs ++ [W.heap.size]) (C, R ++ [List.replicate wd 0]) (w3.setCell ⟨tb, 0, none⟩ (.slice A' (n + 1) c')) ∧
      ∀ b, b < W.heap.size → tb ≠ b → (∀ k, (Value.slice a n c).ownBlock = some k → k < b) → ∀ k, (w3.setCell ⟨tb, 0, none⟩ (.slice A' (n + 1) c')).cell? ⟨b, k, none⟩ = W.cell? ⟨b, k, none⟩ := by
  obtain ⟨ii, hii, hii0, hii1, hii2⟩ := info_parts info_rowR
  have hn : n = gs.length := by
    have h0 : W.ownsRow w0.heap.size 22 1 (.slice a n c) gs.length (gs.map (sG wd)) := h.own.all (pR (.slice a n c) wd gs) (by simp)
    obtain ⟨a', c', e⟩ := own_form' h0
    cases e; rfl
  have hgl : gs.length = R.length := h.gl
  have hlo := h.lo.size
  have hb1 : Below W.heap.size W (W.alloc (zr wd)) := (Below.refl _ W).alloc (Nat.le_refl _) _
  have hlies : (pI wd W.heap.size (List.replicate wd 0)).lies (W.alloc (zr wd)) W.heap.size := by
    have h1 := World.ownsRow_lit (e := 3) (base := W.heap.size) (size := 1) W (madeCells #[Value.int .i64 0] wd) wd (Nat.le_refl _) (by unfold maxLen; omega) (by rw [size_madeCells, Nat.mul_one])
    rw [toList_madeCells_one] at h1
    unfold pI Own.lies
    rw [List.map_replicate]
    exact h1
  have o1 := h.own.add hb1 hlo hlies
  have hb2 : Below (W.alloc (zr wd)).heap.size (W.alloc (zr wd)) (pushW W wd) := ((Below.refl _ _).alloc (Nat.le_refl _) _).drew
  have o2 := o1.to hb2
  have o3 : Owns (pushW W wd) w0.heap.size (pB tb (.slice a n c) :: pC cb C :: pR (.slice a n c) wd gs :: inner wd (gs ++ [W.heap.size]) (R ++ [List.replicate wd 0])) := by
    rw [inner_snoc hgl]
    exact o2.perm (List.perm_append_singleton _ (pB tb (.slice a n c) :: pC cb C :: pR (.slice a n c) wd gs :: inner wd gs R)).symm
  have h0 : (pushW W wd).ownsRow w0.heap.size 22 1 (.slice a n c) gs.length (gs.map (sG wd)) := o3.all (pR (.slice a n c) wd gs) (by simp)
  rw [← hn] at h0
  have hc : (pushW W wd).cell? ⟨W.heap.size + 1, 0, none⟩ = some (sG wd W.heap.size) := by
    have e : (W.alloc (zr wd)).heap.size = W.heap.size + 1 := by simp
    have h1 : ((W.alloc (zr wd)).alloc (.cells #[.slice (some ⟨W.heap.size, 0, none⟩) wd wd] 22)).cell? ⟨W.heap.size + 1, 0, none⟩ = some (sG wd W.heap.size) := by
      rw [← e]
      exact cell_new rfl rfl rfl
    exact h1
  obtain ⟨A', c', w3, hr, ho, hg, hnn⟩ := run_app_any Tryz.underlying23 hii hii0 hii1 hii2 rfl (by decide) h0 (some ⟨W.heap.size + 1, 0, none⟩) 1 1 [sG wd W.heap.size] rfl (fun e => by cases e) (fun ad e j u hu => by
    cases e
    have hj : j = 0 := by have := (List.getElem?_eq_some_iff.1 hu).1; simp at this; exact this
    subst hj
    have e : u = sG wd W.heap.size := by simpa using hu.symm
    subst e
    rw [addr_plus]
    exact hc) (by intro u hu; rw [List.mem_singleton.1 hu]; rfl) (by unfold maxLen; omega) (by omega) (by have := hb2.size; have := hb1.size; omega)
  have hlie2 : (pR (.slice A' (n + 1) c') wd (gs ++ [W.heap.size])).lies w3 w0.heap.size := by
    unfold pR Own.lies
    rw [List.length_append, List.length_singleton, List.map_append, ← hn]
    exact ho
  have o4 := o3.turnAt (k := 2) (o := pR (.slice a n c) wd gs) (o' := pR (.slice A' (n + 1) c') wd (gs ++ [W.heap.size])) rfl hg hlie2 hnn
  have hbx : w3.ownsRow w0.heap.size 23 1 (.slice (some ⟨tb, 0, none⟩) 1 1) 1 [.slice a n c] := o4.all (pB tb (.slice a n c)) (by simp)
  obtain ⟨x1, x2, x3, -⟩ := box_at hbx (k := 0) (by omega)
  obtain ⟨s1, s2⟩ := World.ownsRow.stored hbx 0 (.slice A' (n + 1) c')
  have o5 := o4.turnAt (k := 0) (o := pB tb (.slice a n c)) (o' := pB tb (.slice A' (n + 1) c')) rfl s2 s1 (fun j hj => Or.inl hj)
  refine ⟨A', c', w3, hr, x1, x2, ⟨o5, ?_, h.clen, fun y hy => ?_, ?_⟩, fun b hb hbt hne k => ?_⟩
  · show (gs ++ [W.heap.size]).length = (R ++ [List.replicate wd 0]).length
    simp [hgl]
  · rcases List.mem_append.1 hy with hy | hy
    · exact h.rl y hy
    · rw [List.mem_singleton.1 hy]; simp
  · have hb12 : Below w0.heap.size w0 (pushW W wd) := h.lo.trans ((hb1.trans (hb2.mono hb1.size)).mono hlo)
    have hb3 : Below w0.heap.size w0 w3 := hb12.trans (Below.of_grown hg hb12.size (fun k e => (World.ownsRow.lt h0 k e).1))
    exact hb3.setCell (p := ⟨tb, 0, none⟩) x3 _
  · rw [World.cell?_setCell_other _ _ _ _ (by intro e; injection e with e1; exact hbt e1), hg.cell_far ⟨b, k, none⟩ (by have := hb2.size; have := hb1.size; show b < _; omega) (fun e => absurd (hne b e.symm) (Nat.lt_irrefl b))]
    exact (grown_below (row := none) (hb1.trans (hb2.mono hb1.size))).cell_far ⟨b, k, none⟩ hb (by simp)
theorem ShA.vlt {w0 W : World} {wd tb cb : Nat} {v : Value} {gs : List Nat} {s : ShS} (h : ShA w0 wd tb cb v gs s W) (k : Nat) (e : v.ownBlock = some k) : k < W.heap.size := by
  have h0 : W.ownsRow w0.heap.size 22 1 v gs.length (gs.map (sG wd)) := h.own.all (pR v wd gs) (by simp)
  exact (World.ownsRow.lt h0 k e).2
/-- The rows, as they are read. -/
theorem ShA.rows {w0 W : World} {wd tb cb : Nat} {a : Option Addr} {n c : Nat} {gs : List Nat} {s : ShS} (h : ShA w0 wd tb cb (.slice a n c) gs s W) : SlRows W W.heap.size a s.2 := fun hne => by
  have hpos : 0 < s.2.length := List.length_pos_iff.2 hne
  have hgl := h.gl
  obtain ⟨b0, g0, hA, hn, -⟩ := h.row (List.getElem?_eq_getElem hpos)
  subst hA
  have h0 : W.ownsRow w0.heap.size 22 1 (.slice (some ⟨b0, 0, none⟩) n c) gs.length (gs.map (sG wd)) := h.own.all (pR (.slice (some ⟨b0, 0, none⟩) n c) wd gs) (by simp)
  have hlt := (World.ownsRow.lt h0 b0 rfl).2
  refine ⟨b0, 0, rfl, hlt, fun j row hr => ?_⟩
  obtain ⟨b, g, hA, -, hc, hg, -, hcs⟩ := h.row hr
  cases hA
  have hrl := h.rl row (List.mem_of_getElem? hr)
  have h1 : W.ownsRow w0.heap.size 3 1 (sG wd g) wd (row.map (Value.int .i64)) := h.own.all (pI wd g row) (List.mem_cons_of_mem _ (List.mem_cons_of_mem _ (List.mem_cons_of_mem _ (List.mem_of_getElem? (inner_at hg hr)))))
  refine ⟨some ⟨g, 0, none⟩, wd, by rw [Nat.zero_add, hrl]; exact hc, by omega, fun _ => ⟨g, 0, rfl, (World.ownsRow.lt h1 g rfl).2, fun i z hz => ?_⟩⟩
  have hi := (List.getElem?_eq_some_iff.1 hz).1
  rw [Nat.zero_add, hcs i (by omega), List.getD_eq_getElem?_getD, hz]
  rfl
end Go.Proofs.YthedmiilkeclaaaGreat
