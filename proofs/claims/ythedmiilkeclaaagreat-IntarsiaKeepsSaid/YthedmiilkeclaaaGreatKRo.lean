/- A slice of slices of ints that a call makes: the outer row is owned, the inner rows are read. -/
import Derived.Test.YthedmiilkeclaaaGreatKRd
namespace Go.Proofs.YthedmiilkeclaaaGreat
open Go.RowKit Go.Shelf
set_option maxRecDepth 100000

theorem info_rowR : (Tryz.prog.info? 22).map (fun i => (i.zero, i.size, i.bytes)) = some (some (.slice none 0 0), 1, 24) := by kernel_rfl
theorem own_form' {w : World} {B : Nat} {e : TypeId} {size n : Nat} {v : Value} {xs : List Value} (h : w.ownsRow B e size v n xs) : ∃ a c, v = .slice a n c := by
  rcases h.2 with ⟨rfl, h0⟩ | ⟨g, cap, cur, rfl, -⟩
  · rw [h0]; exact ⟨none, 0, rfl⟩
  · exact ⟨_, _, rfl⟩
theorem own_pos' {w : World} {B : Nat} {e : TypeId} {n c : Nat} {a : Option Addr} {xs : List Value} (h : w.ownsRow B e 1 (.slice a n c) n xs) (hn : 0 < n) : ∃ g, a = some ⟨g, 0, none⟩ ∧ B ≤ g ∧ g < w.heap.size ∧ ∀ j, j < n → w.cell? ⟨g, j, none⟩ = xs[j]? := by
  have h0 := h
  rcases h.2 with ⟨e1, h2⟩ | ⟨g, cap, cur, hv, hg, hh, -⟩
  · omega
  · cases hv
    exact ⟨g, rfl, hg, (Array.getElem?_eq_some_iff.1 hh).1, fun j hj => World.ownsRow.cellAt h0 j (by omega)⟩
/-- An inner row, in a block that is not the outer one's. -/
def SlIx (w : World) (v : Value) (A : Option Addr) (row : List Int) : Prop := row ≠ [] → ∃ b off, A = some ⟨b, off, none⟩ ∧ b < w.heap.size ∧ v.ownBlock ≠ some b ∧ ∀ j z, row[j]? = some z → w.cell? ⟨b, off + j, none⟩ = some (.int .i64 z)
structure RowsO (w : World) (B : Nat) (v : Value) (p : List (List Int)) (vs : List Value) : Prop where
  row : w.ownsRow B 22 1 v p.length vs
  len : vs.length = p.length
  is : ∀ (j : Nat) (row : List Int), p[j]? = some row → ∃ (A' : Option Addr) (C' : Nat), vs[j]? = some (Value.slice A' row.length C') ∧ row.length ≤ C' ∧ SlIx w v A' row
theorem RowsO.new (w : World) (B : Nat) : RowsO w B (.slice none 0 0) [] [] := ⟨World.ownsRow_nil _ _ _ _, rfl, fun j row h => by simp at h⟩
theorem RowsO.to {w w' : World} {B : Nat} {v : Value} {p : List (List Int)} {vs : List Value} (h : RowsO w B v p vs) (hb : Below w.heap.size w w') : RowsO w' B v p vs := by
  refine ⟨own_below h.row hb (Nat.le_refl _), h.len, fun j row hr => ?_⟩
  obtain ⟨A', C', h1, h2, h3⟩ := h.is j row hr
  refine ⟨A', C', h1, h2, fun hn => ?_⟩
  obtain ⟨b, off, e, hbl, hne, hc⟩ := h3 hn
  exact ⟨b, off, e, Nat.lt_of_lt_of_le hbl hb.size, hne, fun j z hz => (bcell hb hbl _).trans (hc j z hz)⟩
theorem RowsO.rows {w : World} {B n c : Nat} {a : Option Addr} {p : List (List Int)} {vs : List Value} (h : RowsO w B (.slice a n c) p vs) : SlRows w w.heap.size a p := fun hn => by
  have hp : 0 < p.length := List.length_pos_iff.2 hn
  have hr := h.row
  obtain ⟨a', c', e⟩ := own_form' hr
  cases e
  obtain ⟨b, rfl, h1, h2, h3⟩ := own_pos' hr hp
  refine ⟨b, 0, rfl, h2, fun j row hrow => ?_⟩
  obtain ⟨A', C', e1, e2, e3⟩ := h.is j row hrow
  have hj := (List.getElem?_eq_some_iff.1 hrow).1
  refine ⟨A', C', by rw [Nat.zero_add, h3 j (by omega)]; exact e1, e2, fun hne => ?_⟩
  obtain ⟨b2, off, e, hbl, -, hc⟩ := e3 hne
  exact ⟨b2, off, e, hbl, hc⟩
theorem RowsO.form {w : World} {B : Nat} {v : Value} {p : List (List Int)} {vs : List Value} (h : RowsO w B v p vs) : ∃ a c, v = .slice a p.length c := own_form' h.row
theorem RowsO.lt {w : World} {B b : Nat} {v : Value} {p : List (List Int)} {vs : List Value} (h : RowsO w B v p vs) (hb : v.ownBlock = some b) : B ≤ b ∧ b < w.heap.size := World.ownsRow.lt h.row b hb
/-- A row is appended. -/
theorem RowsO.push {w : World} {B c : Nat} {a : Option Addr} {p : List (List Int)} {vs : List Value} (h : RowsO w B (.slice a p.length c) p vs) (hB : B ≤ w.heap.size) (hl : p.length ≤ 1000) {A : Option Addr} {row : List Int} {C : Nat} (hC : row.length ≤ C) (hs : SlIx w (.slice a p.length c) A row) :
    ∃ A' c' w', (Builtin.append_ #[23, 23] 23 #[.slice a p.length c, .slice (some ⟨w.heap.size, 0, none⟩) 1 1]).run Tryz.prog (w.alloc (.cells #[.slice A row.length C] 22)) = .ok (.slice A' (p.length + 1) c') w' ∧ RowsO w' B (.slice A' (p.length + 1) c') (p ++ [row]) (vs ++ [.slice A row.length C]) ∧ Below B w w' := by
  obtain ⟨ii, hii, hii0, hii1, hii2⟩ := info_parts info_rowR
  have hba : Below w.heap.size w (w.alloc (.cells #[.slice A row.length C] 22)) := (Below.refl _ w).alloc (Nat.le_refl _) _
  have ho : (w.alloc (.cells #[.slice A row.length C] 22)).ownsRow B 22 1 (.slice a p.length c) p.length vs := own_below h.row hba (Nat.le_refl _)
  have hsz := hba.size
  have hnew : ∀ j u, [Value.slice A row.length C][j]? = some u → (w.alloc (.cells #[.slice A row.length C] 22)).cell? ((⟨w.heap.size, 0, none⟩ : Addr).add j) = some u := newsT w _ _ _ rfl
  obtain ⟨A', c', w', hr, ho1, hg1, hn⟩ := run_app_any Tryz.underlying23 hii hii0 hii1 hii2 rfl (by decide) ho (some ⟨w.heap.size, 0, none⟩) 1 1 [.slice A row.length C] rfl (fun e => by cases e) (fun ad e => by cases e; exact hnew) (by intro u hu; rw [List.mem_singleton.1 hu]; rfl) (by unfold maxLen; omega) (by omega) (by omega)
  have hcellk : ∀ b, b < w.heap.size → (Value.slice a p.length c).ownBlock ≠ some b → ∀ o, w'.cell? ⟨b, o, none⟩ = w.cell? ⟨b, o, none⟩ := fun b hb hne o => (World.cell?_of_block (a := ⟨b, o, none⟩) (hg1.block b (by omega) (fun e => hne e.symm))).trans (bcell hba hb o)
  have hx : ∀ {A0 : Option Addr} {r : List Int}, SlIx w (.slice a p.length c) A0 r → SlIx w' (.slice A' (p.length + 1) c') A0 r := fun {A0 r} hx hne => by
    obtain ⟨b, off, e, hbl, hnb, hc⟩ := hx hne
    refine ⟨b, off, e, by have := hg1.size; omega, fun e2 => ?_, fun j z hz => (hcellk b hbl hnb _).trans (hc j z hz)⟩
    rcases hn b e2 with e3 | e3
    · exact hnb e3
    · omega
  refine ⟨A', c', w', hr, ⟨by rw [List.length_append, List.length_singleton]; exact ho1, by rw [List.length_append, List.length_append, h.len]; rfl, fun j r hj => ?_⟩, (hba.mono hB).trans (Below.of_grown hg1 (by omega) (fun k e => (World.ownsRow.lt ho k e).1))⟩
  by_cases hlt : j < p.length
  · rw [List.getElem?_append_left hlt] at hj
    obtain ⟨A0, C0, e1, e2, e3⟩ := h.is j r hj
    exact ⟨A0, C0, by rw [List.getElem?_append_left (by rw [h.len]; exact hlt)]; exact e1, e2, hx e3⟩
  · have hjl := (List.getElem?_eq_some_iff.1 hj).1
    rw [List.length_append, List.length_singleton] at hjl
    obtain rfl : j = p.length := by omega
    rw [List.getElem?_append_right (Nat.le_refl _), Nat.sub_self] at hj
    have e : r = row := by simpa using hj.symm
    subst e
    exact ⟨A, C, by rw [List.getElem?_append_right (by rw [h.len]; exact Nat.le_refl _), h.len, Nat.sub_self]; rfl, hC, hx hs⟩
end Go.Proofs.YthedmiilkeclaaaGreat
