/- A view of a block that a call owns: read, appended to, its head taken. -/
import Derived.Test.YtodjkifcbgmckaaOwn
import Derived.Test.YtodjkifcbgmckaaIv
import Derived.ArgAppend
import Derived.Maps.AppendAt
namespace Go.Proofs.Ytodjkifcbgmckaa
open Go.RowKit Go.Shelf
set_option maxRecDepth 100000

/-- v is a slice, anywhere in a block from B on, that reads q. -/
def Vw (w : World) (B : Nat) (v : Value) (q : List Int) : Prop :=
  (v = .slice none 0 0 ∧ q = []) ∨ ∃ g off cap, v = .slice (some ⟨g, off, none⟩) q.length cap ∧ B ≤ g ∧ g < w.heap.size ∧ q.length ≤ cap ∧ (∀ j, j < cap → (w.cell? ⟨g, off + j, none⟩).isSome = true) ∧ (∀ j, w.frozen? ⟨g, j, none⟩ = false) ∧ ∀ j x, q[j]? = some x → w.cell? ⟨g, off + j, none⟩ = some (.int .i64 x)
theorem Vw.nil (w : World) (B : Nat) : Vw w B (.slice none 0 0) [] := Or.inl ⟨rfl, rfl⟩
theorem Vw.form {w : World} {B : Nat} {v : Value} {q : List Int} (h : Vw w B v q) : ∃ A c, v = .slice A q.length c := by
  rcases h with ⟨rfl, rfl⟩ | ⟨g, off, cap, rfl, -⟩
  · exact ⟨none, 0, rfl⟩
  · exact ⟨_, _, rfl⟩
theorem Vw.lt {w : World} {B : Nat} {v : Value} {q : List Int} (h : Vw w B v q) {k : Nat} (hk : v.ownBlock = some k) : B ≤ k ∧ k < w.heap.size := by
  rcases h with ⟨rfl, rfl⟩ | ⟨g, off, cap, rfl, h1, h2, -⟩
  · cases hk
  · cases hk; exact ⟨h1, h2⟩
/-- Where its block is as it was. -/
theorem Vw.same {w w' : World} {B : Nat} {v : Value} {q : List Int} (h : Vw w B v q) (hs : w.heap.size ≤ w'.heap.size) (hj : ∀ k, v.ownBlock = some k → w'.heap[k]? = w.heap[k]?) : Vw w' B v q := by
  rcases h with h | ⟨g, off, cap, rfl, h1, h2, h3, h4, h5, h6⟩
  · exact Or.inl h
  · have e := hj g rfl
    have ec : ∀ j, w'.cell? ⟨g, j, none⟩ = w.cell? ⟨g, j, none⟩ := fun j => World.cell?_of_block (a := ⟨g, j, none⟩) e
    exact Or.inr ⟨g, off, cap, rfl, h1, by omega, h3, fun j hj => by rw [ec]; exact h4 j hj, fun j => (World.frozen?_of_block (a := ⟨g, j, none⟩) e).trans (h5 j), fun j x hx => (ec _).trans (h6 j x hx)⟩
theorem Vw.to {w w' : World} {B : Nat} {v : Value} {q : List Int} (h : Vw w B v q) (hb : Below w.heap.size w w') : Vw w' B v q := h.same hb.size fun k hk => hb.block k (h.lt hk).2
theorem Vw.grown {w w' : World} {B : Nat} {v : Value} {q : List Int} {row : Option Nat} (h : Vw w B v q) (hg : w.grownBy w' row) (hr : ∀ k, v.ownBlock = some k → row ≠ some k) : Vw w' B v q := h.same hg.size fun k hk => hg.block k (h.lt hk).2 (fun e => hr k hk e.symm)
theorem Vw.of_own {w : World} {B : Nat} {v : Value} {q : List Int} (h : w.ownsRow B 3 1 v q.length (intV q)) : Vw w B v q := by
  rcases h.2 with ⟨rfl, h0⟩ | ⟨g, cap, cur, rfl, hb, hg, hc, hm, hz, hx⟩
  · exact Or.inl ⟨rfl, List.eq_nil_of_length_eq_zero h0⟩
  · have hlt : g < w.heap.size := (Array.getElem?_eq_some_iff.1 hg).1
    refine Or.inr ⟨g, 0, cap, rfl, hb, hlt, hc, fun j hj => ?_, fun j => h.frozenAt j, fun j x hx' => ?_⟩
    · rw [Nat.zero_add]
      have : w.cell? ⟨g, j, none⟩ = cur[j]? := by simp [World.cell?, hg]
      rw [this, Array.getElem?_eq_getElem (by omega)]
      rfl
    · have hjl := (List.getElem?_eq_some_iff.1 hx').1
      rw [Nat.zero_add, World.ownsRow.cellAt h j (by omega)]
      unfold intV
      rw [List.getElem?_map, hx']
      rfl
/-- A number is appended. -/
theorem Vw.push {w : World} {B : Nat} {v : Value} {q : List Int} (h : Vw w B v q) (hB : B ≤ w.heap.size) (x : Int) {b : Nat} (hx : w.cell? ⟨b, 0, none⟩ = some (.int .i64 x)) (hn : q.length ≤ 100000) :
    ∃ A c w', (Builtin.append_ #[22, 22] 22 #[v, .slice (some ⟨b, 0, none⟩) 1 1]).run Try.prog w = .ok (.slice A (q.length + 1) c) w' ∧ Vw w' B (.slice A (q.length + 1) c) (q ++ [x]) ∧ w.grownBy w' v.ownBlock ∧ ∀ k, (Value.slice A (q.length + 1) c).ownBlock = some k → v.ownBlock = some k ∨ w.heap.size ≤ k := by
  obtain ⟨i0, hi, hz0, hz1, hz2⟩ := info_parts info_int'
  have hnews : ∀ (j : Nat) (u : Value), [Value.int .i64 x][j]? = some u → w.cell? ((⟨b, 0, none⟩ : Addr).add j) = some u := fun j u hu => by
    cases j with
    | zero =>
      simp only [List.getElem?_cons_zero, Option.some.injEq] at hu
      subst hu
      exact hx
    | succ j => simp at hu
  have h1 : ∀ u ∈ [Value.int .i64 x], u.oneCell' = true := fun u hu => by rw [List.mem_singleton.1 hu]; rfl
  have lq : (q ++ [x]).length = q.length + 1 := by rw [List.length_append, List.length_singleton]
  have iv : intV (q ++ [x]) = intV q ++ [Value.int .i64 x] := by unfold intV; rw [List.map_append]; rfl
  -- a new row
  have fresh : ∀ {v' : Value} {w' : World}, w'.ownsRow w.heap.size 3 1 v' (q.length + 1) (intV q ++ [Value.int .i64 x]) → ∃ A c, v' = .slice A (q.length + 1) c ∧ Vw w' B v' (q ++ [x]) ∧ ∀ k, v'.ownBlock = some k → w.heap.size ≤ k := fun {v' w'} ho => by
    obtain ⟨A, c, e, -⟩ := own_slice ho
    refine ⟨A, c, e, Vw.of_own ?_, fun k hk => (World.ownsRow.lt ho k hk).1⟩
    rw [lq, iv]
    exact World.ownsRow.mono ho hB
  rcases h with ⟨rfl, rfl⟩ | ⟨g, off, cap, rfl, hb, hlt, hcap, hc, hf, hr⟩
  · obtain ⟨v', w', hrun, ho, hg, -⟩ := run_append_own (P := Try.prog) w w.heap.size 22 22 3 i0 _ 1 8 Try.underlying22 hi hz0 hz1 hz2 rfl (by decide) (.slice none 0 0) 0 [] (World.ownsRow_nil ..) ⟨b, 0, none⟩ 1 1 [.int .i64 x] rfl hnews h1 (by decide) (by decide) (Nat.le_refl _)
    obtain ⟨A, c, rfl, hv, hk⟩ := fresh ho
    exact ⟨A, c, w', hrun, hv, hg, fun k e => Or.inr (hk k e)⟩
  · by_cases hroom : q.length + 1 ≤ cap
    · have hrun := run_append_room_cells (P := Try.prog) w 22 22 3 i0 Try.underlying22 hi g off q.length cap ⟨b, 0, none⟩ 1 1 [.int .i64 x] (by rw [hz1]; rfl) hnews h1 hroom (by
          intro j hj
          have : j = 0 := by simpa using hj
          subst this
          rw [hz1, Nat.mul_one, Nat.add_zero]
          exact hc _ (by omega)) (fun j _ => hf _)
      rw [hz1, Nat.mul_one] at hrun
      have hset : w.setCells g (off + q.length) [.int .i64 x] = w.setCell ⟨g, off + q.length, none⟩ (.int .i64 x) := rfl
      rw [hset] at hrun
      have ho : ∀ j, j ≠ q.length → (w.setCell ⟨g, off + q.length, none⟩ (.int .i64 x)).cell? ⟨g, off + j, none⟩ = w.cell? ⟨g, off + j, none⟩ := fun j hj => World.cell?_setCell_other w _ _ _ (fun e => hj (by have := (Addr.mk.inj e).2.1; omega))
      have hsz : (w.setCell ⟨g, off + q.length, none⟩ (.int .i64 x)).heap.size = w.heap.size := by simp
      refine ⟨some ⟨g, off, none⟩, cap, _, hrun, Or.inr ⟨g, off, cap, by rw [lq], hb, by rw [hsz]; exact hlt, by omega, fun j hj => ?_, fun j => ?_, fun j y hy => ?_⟩, ?_, fun k hk => Or.inl hk⟩
      · by_cases e : j = q.length
        · subst e
          rw [World.cell?_setCell_same' w _ _ (hc _ (by omega))]
          rfl
        · rw [ho j e]; exact hc j hj
      · simpa using hf j
      · by_cases e : j = q.length
        · subst e
          rw [List.getElem?_append_right (Nat.le_refl _), Nat.sub_self] at hy
          simp only [List.getElem?_cons_zero, Option.some.injEq] at hy
          subst hy
          exact World.cell?_setCell_same' w _ _ (hc _ (by omega))
        · rw [ho j e]
          refine hr j y ?_
          have hjl := (List.getElem?_eq_some_iff.1 hy).1
          rw [List.getElem?_append_left (by omega)] at hy
          exact hy
      · exact ⟨rfl, rfl, rfl, by rw [hsz]; exact Nat.le_refl _, fun k _ hk => Below.heap_setCell w _ _ k (fun e => hk (by rw [e]; rfl))⟩
    · obtain ⟨v', w', hrun, ho, hg⟩ := run_append_arg_grows (P := Try.prog) w 22 22 3 i0 _ 1 8 Try.underlying22 hi hz0 hz1 hz2 rfl (by decide) ⟨g, off, none⟩ q.length cap (intV q) (by rw [intV_len, Nat.mul_one]) (fun j u hu => by
          rw [show (⟨g, off, none⟩ : Addr).add j = ⟨g, off + j, none⟩ by unfold Addr.add; split <;> simp_all]
          unfold intV at hu
          rw [List.getElem?_map] at hu
          cases hz : q[j]? with
          | none => rw [hz] at hu; cases hu
          | some y =>
            rw [hz] at hu
            simp only [Option.map_some, Option.some.injEq] at hu
            rw [← hu]
            exact hr j y hz) ⟨b, 0, none⟩ 1 1 [.int .i64 x] rfl hnews (by omega) (by unfold maxLen; omega) (by omega)
      obtain ⟨A, c, rfl, hv, hk⟩ := fresh ho
      exact ⟨A, c, w', hrun, hv, ⟨hg.os, hg.tape, hg.output, hg.size, fun k hk _ => hg.block k hk (fun e => by cases e)⟩, fun k e => Or.inr (hk k e)⟩
/-- The head is taken: what '[1:]' leaves. -/
theorem Vw.pop {w : World} {B : Nat} {v : Value} {x : Int} {r : List Int} (h : Vw w B v (x :: r)) : ∃ g off cap, v = .slice (some ⟨g, off, none⟩) (r.length + 1) cap ∧ r.length + 1 ≤ cap ∧ w.cell? ⟨g, off, none⟩ = some (.int .i64 x) ∧ Vw w B (.slice (some (if cap = 1 then ⟨g, off, none⟩ else ⟨g, off + 1, none⟩)) r.length (cap - 1)) r := by
  rcases h with ⟨-, h0⟩ | ⟨g, off, cap, rfl, hb, hlt, hcap, hc, hf, hr⟩
  · cases h0
  · rw [List.length_cons] at hcap
    refine ⟨g, off, cap, by rw [List.length_cons], hcap, by simpa using hr 0 x rfl, ?_⟩
    by_cases e : cap = 1
    · rw [if_pos e]
      have hr0 : r = [] := List.eq_nil_of_length_eq_zero (by omega)
      subst hr0
      exact Or.inr ⟨g, off, cap - 1, rfl, hb, hlt, by simp, fun j hj => hc j (by omega), hf, fun j y hy => by simp at hy⟩
    · rw [if_neg e]
      refine Or.inr ⟨g, off + 1, cap - 1, rfl, hb, hlt, by omega, fun j hj => ?_, hf, fun j y hy => ?_⟩
      · rw [show off + 1 + j = off + (j + 1) by omega]
        exact hc (j + 1) (by omega)
      · rw [show off + 1 + j = off + (j + 1) by omega]
        exact hr (j + 1) y (by simpa using hy)
end Go.Proofs.Ytodjkifcbgmckaa
