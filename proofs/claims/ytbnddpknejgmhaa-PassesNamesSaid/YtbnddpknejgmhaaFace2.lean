/- Layer 26: Face of a row. -/
import Derived.Test.YtbnddpknejgmhaaFace
namespace Go.Proofs.Ytbnddpknejgmhaa
open Go.RowKit Go.Shelf
set_option maxRecDepth 100000

/-- The other side of a stitch. -/
def otherS (s : Stc) : Stc := ⟨s.kind, (formI s.kind).sided && !s.purl, if 0 < (formI s.kind).b1 then s.b else s.a, if 0 < (formI s.kind).b1 then s.a else s.b⟩
def turnedL (l : List Stc) : List Stc := (l.map otherS).reverse
def faceL (r : RowC) : List Stc := if r.1 then turnedL r.2 else r.2
def stcOut2 (l : List Stc) (w : World) (e : Ending) (w' : World) : Prop := ∃ A c, e = .returned (.tuple #[.slice A l.length c, .int .i64 0]) ∧ SlT w' w'.heap.size A l ∧ Below w.heap.size w w' ∧ (l ≠ [] → ∀ ad, A = some ad → w.heap.size ≤ ad.block)
/-- What Turn does. -/
def TurnC : Prop := ∀ (A : Option Addr) (c : Nat) (l : List Stc) (w : World), (∀ s ∈ l, s.wf) → allE l = 0 → SlT w w.heap.size A l →
  Calls Try.prog 53 #[.slice A l.length c] w fun e w' => stcOut2 (turnedL l) w e w'
theorem rowE_zero {n : Int} {r : List Stc} (h : rowE n r = 0) : allE r = 0 ∧ usesE r = n := by
  unfold rowE at h
  by_cases h1 : allE r = 0
  · rw [if_neg (by simpa using h1)] at h
    by_cases h2 : usesE r = n
    · exact ⟨h1, h2⟩
    · rw [if_pos h2] at h; cases h
  · rw [if_pos h1] at h; exact absurd h h1
theorem err_rows : ∀ {n : Int} {p : List RowC}, errR n p = 0 → ∀ r ∈ p, allE r.2 = 0
  | _, [], _, r, hr => by cases hr
  | n, x :: t, h, r, hr => by
    simp only [errR] at h
    by_cases h1 : rowE n x.2 = 0
    · rw [if_pos h1] at h
      rcases List.mem_cons.1 hr with rfl | hr
      · exact (rowE_zero h1).1
      · exact err_rows h r hr
    · rw [if_neg h1] at h; exact absurd h h1
theorem chart_zero {start : Int} {p : List RowC} (h : chartE start p = 0) : p.length ≤ 100 ∧ (0 ≤ start ∧ start ≤ 200) ∧ errR start p = 0 := by
  unfold chartE at h
  by_cases h1 : 100 < p.length
  · rw [if_pos h1] at h; cases h
  rw [if_neg h1] at h
  by_cases h2 : start < 0 ∨ 200 < start
  · rw [if_pos h2] at h; cases h
  rw [if_neg h2] at h
  exact ⟨by omega, by omega, h⟩

theorem rows_at {w : World} {B : Nat} {A : Option Addr} {p : List RowC} (h : SlC w B A p) {k : Nat} {r : RowC} (hr : p[k]? = some r) :
    ∃ b off A' C', A = some ⟨b, off, none⟩ ∧ b < B ∧ w.cell? ⟨b, off + k * 2, none⟩ = some (.bool r.1) ∧ w.cell? ⟨b, off + k * 2 + 1, none⟩ = some (.slice A' r.2.length C') ∧ r.2.length ≤ C' ∧ SlT w B A' r.2 := by
  obtain ⟨b, off, e, hB, hc⟩ := h (fun e => by subst e; simp at hr)
  obtain ⟨A', C', h0, h1, h2, h3⟩ := hc k r hr
  exact ⟨b, off, A', C', e, hB, h0, h1, h2, h3⟩
set_option maxHeartbeats 2000000 in
theorem face_any (start : Int) (A : Option Addr) (c : Nat) (p : List RowC) (hw : RowsWf p) (he : chartE start p = 0) (k : Nat) (r : RowC) (hr : p[k]? = some r) (hT : r.1 = false ∨ TurnC) (w : World) (hs : SlC w w.heap.size A p) :
    Calls Try.prog 35 #[.agg #[.int .i64 start, .slice A p.length c], .int .i64 k] w fun e w' => stcOut2 (faceL r) w e w' := by
  have hz := chart_zero he
  have hkl : k < p.length := (List.getElem?_eq_some_iff.1 hr).1
  have hmem := List.mem_of_getElem? hr
  have har := err_rows hz.2.2 r hmem
  have hwr := hw r hmem
  have hpl := hz.1
  have hbw0 : Below w.heap.size w (w.alloc (.cells #[.int .i64 start, .slice A p.length c] 40)) := (Below.refl _ w).alloc (Nat.le_refl _) _
  have HCk := Lib.hid (ccheck_any start A c p hw _ ((hs.below hbw0).more hbw0.size))
  rw [he] at HCk
  obtain ⟨b, off, A', C', rfl, hB, hcr0, hcr1, hC, hsi⟩ := rows_at hs hr
  have hx0 := cell_new (w1 := w.alloc (.cells #[.int .i64 start, .slice (some ⟨b, off, none⟩) p.length c] 40)) (b := w.heap.size) (o := 0) rfl rfl rfl
  have hx1 := cell_new (w1 := w.alloc (.cells #[.int .i64 start, .slice (some ⟨b, off, none⟩) p.length c] 40)) (b := w.heap.size) (o := 1) rfl rfl rfl
  have HX := Lib.hid (fun (w1 : World) (hb : Below (w.heap.size + 1) (w.alloc (.cells #[.int .i64 start, .slice (some ⟨b, off, none⟩) p.length c] 40)) w1) => (show w1.cell? ⟨w.heap.size, 0, none⟩ = some (.int .i64 start) ∧ w1.cell? ⟨w.heap.size, 1, none⟩ = some (.slice (some ⟨b, off, none⟩) p.length c) ∧ w1.cell? ⟨b, off + k * 2, none⟩ = some (.bool r.1) ∧ w1.cell? ⟨b, off + k * 2 + 1, none⟩ = some (.slice A' r.2.length C') from
    ⟨(bcell hb (by omega) _).trans hx0, (bcell hb (by omega) _).trans hx1, (bcell (hbw0.trans (hb.mono (by omega))) hB _).trans hcr0, (bcell (hbw0.trans (hb.mono (by omega))) hB _).trans hcr1⟩))
  have HB0 := Lib.hid hbw0
  have HSi := Lib.hid hsi
  have HA := Lib.hid har
  have HWr := Lib.hid hwr
  clear hx0 hx1 hcr0 hcr1 hsi hs hw hz hbw0 he hr har hwr hmem
  cases hq : r.1 with
  | false =>
    have HF : Hid (faceL r = r.2) := by unfold Hid faceL; rw [hq]; rfl
    have HCl := Lib.hid (fun (w1 : World) (hb : Below w.heap.size w w1) => clone_any A' C' r.2 (by have := (all_zero HA.out).1; omega) w1 ((HSi.out.below hb).more hb.size))
    rw [hq] at HX
    clear hq hT
    go_enter Try.func35, Try.ntmps35
    go_wp2_with (first
      | (go_at_call 33; refine HCk.out.mono ?_; rintro e w1 ⟨rfl, hb1⟩
         obtain ⟨c0, c1, c2, c3⟩ := HX.out w1 (hb1.mono (by simp))
         have hbw1 := HB0.out.trans (hb1.mono (by simp)))
      | (go_at_call 54; refine (HCl.out _ hbw1).mono ?_; rintro e w2 ⟨a2, c2', rfl, hT2, hb2, hf2⟩))
    go_ret2
    exact ⟨a2, c2', by rw [HF.out]; rfl, by rw [HF.out]; exact hT2, hbw1.trans (hb2.mono hbw1.size), fun hne ad had => Nat.le_trans hbw1.size (hf2 (by rw [← HF.out]; exact hne) ad had)⟩
  | true =>
    have HF : Hid (faceL r = turnedL r.2) := by unfold Hid faceL; rw [hq]; rfl
    have hTC : TurnC := by
      rcases hT with h | h
      · rw [hq] at h; cases h
      · exact h
    have HCl := Lib.hid (fun (w1 : World) (hb : Below w.heap.size w w1) => hTC A' C' r.2 w1 HWr.out HA.out ((HSi.out.below hb).more hb.size))
    rw [hq] at HX
    clear hq hT hTC
    go_enter Try.func35, Try.ntmps35
    go_wp2_with (first
      | (go_at_call 33; refine HCk.out.mono ?_; rintro e w1 ⟨rfl, hb1⟩
         obtain ⟨c0, c1, c2, c3⟩ := HX.out w1 (hb1.mono (by simp))
         have hbw1 := HB0.out.trans (hb1.mono (by simp)))
      | (go_at_call 53; refine (HCl.out _ hbw1).mono ?_; rintro e w2 ⟨a2, c2', rfl, hT2, hb2, hf2⟩))
    go_ret2
    exact ⟨a2, c2', by rw [HF.out]; rfl, by rw [HF.out]; exact hT2, hbw1.trans (hb2.mono hbw1.size), fun hne ad had => Nat.le_trans hbw1.size (hf2 (by rw [← HF.out]; exact hne) ad had)⟩
end Go.Proofs.Ytbnddpknejgmhaa
