/- Layer 26: Face, whose row the caller owns. Layer 27, plain: a valid chart of few rows can be worked. -/
import Derived.Test.YtbnddpknejgmhaaGreatKP32
import Derived.Test.YtbnddpknejgmhaaGreatKP19
import Derived.Test.YtbnddpknejgmhaaGreatKP22
namespace Go.Proofs.YtbnddpknejgmhaaGreat
open Go.RowKit Go.Shelf
set_option maxRecDepth 100000

set_option maxHeartbeats 1000000 in
theorem clone_own (A : Option Addr) (c : Nat) (l : List Stc) (hn : l.length ≤ 1000000) (w : World) (hs : SlT w w.heap.size A l) :
    Calls Tryz.prog 50 #[.slice A l.length c] w fun e w' => SnPost l w e w' := by
  obtain ⟨i0, hi, hz0, hz1, hz2⟩ := info_parts info_stc
  cases A with
  | none =>
    have hl : l = [] := by
      cases l with
      | nil => rfl
      | cons a t =>
        obtain ⟨b, off, e, _⟩ := hs (by simp)
        cases e
    subst hl
    have HO : Hid (SnPost [] w (.returned (.slice none 0 0)) w) := ⟨_, rfl, World.ownsRow_nil _ _ _ _, Below.refl _ _⟩
    clear hs
    rw [List.length_nil]
    have hq := eql_none 0 c
    go_enter Tryz.func50, Tryz.ntmps50
    go_wp2
    go_ret
    exact HO.out
  | some ad =>
    have hnews : ∀ j u, (l.map Stc.cells).flatten[j]? = some u → (w.alloc (.cells #[] 51)).cell? (ad.add j) = some u := by
      intro j u hu
      have hne : l.map Stc.cells ≠ [] := fun e => by rw [e] at hu; simp at hu
      obtain ⟨b, off, e, hB, _⟩ := hs hne
      cases e
      have h1 := SlS.flat (cells4 l) hs j u hu
      exact (World.cell?_alloc_lt w _ _ (by have e : ((⟨b, off, none⟩ : Addr).add j).block = b := by unfold Addr.add; split <;> rfl
                                            rw [e]; exact hB)).trans h1
    have HN := Lib.hid hnews
    have hlen : (l.map Stc.cells).flatten.length = l.length * 4 := by rw [flat_len (cells4 l), List.length_map]
    have HL := Lib.hid hlen
    clear hs hnews hlen
    have hq := eql_some ad l.length c
    go_enter Tryz.func50, Tryz.ntmps50
    go_wp2_with (at_builtin; refine wpList_append_own _ rfl _ _ 52 rfl w.heap.size 51 i0 (.agg #[.int .u8 0, .bool false, .int .i64 0, .int .i64 0]) 4 24 Tryz.underlying52 hi hz0 hz1 hz2 rfl (by decide) _ 0 [] rfl (World.ownsRow_lit w #[] 0 (Nat.le_refl _) (by decide) rfl) ad l.length c (l.map Stc.cells).flatten rfl HL.out HN.out (one4 l) (by unfold maxLen; omega) (by omega) (by simp) ?_; intro v' w1 hown' hgrow _; have HOw := Lib.hid hown'; have HG := Lib.hid hgrow; clear hown' hgrow)
    have ho := HOw.out
    rw [Nat.zero_add, List.nil_append] at ho
    obtain ⟨a2, c2, rfl, _⟩ := own_slice ho
    have hB : Below w.heap.size w w1 := ((Below.refl _ w).alloc (Nat.le_refl _) _).grown HG.out (by simp) (fun k e => by cases e; exact Nat.le_refl _)
    have HO := Lib.hid (show SnPost l w (.returned (.slice a2 l.length c2)) w1 from ⟨_, rfl, ho, hB⟩)
    clear ho hB HOw HG
    go_ret
    exact HO.out
set_option maxHeartbeats 2000000 in
theorem face_own (start : Int) (A : Option Addr) (c : Nat) (p : List RowC) (hw : RowsWf p) (he : chartE start p = 0) (k : Nat) (r : RowC) (hr : p[k]? = some r) (w : World) (hs : SlC w w.heap.size A p) :
    Calls Tryz.prog 25 #[.agg #[.int .i64 start, .slice A p.length c], .int .i64 k] w fun e w' => SnPost2 (faceL r) w e w' := by
  have hz := chart_zero he
  have hkl : k < p.length := (List.getElem?_eq_some_iff.1 hr).1
  have hmem := List.mem_of_getElem? hr
  have har := err_rows hz.2.2 r hmem
  have hwr := hw r hmem
  have hpl := hz.1
  have hbw0 : Below w.heap.size w (w.alloc (.cells #[.int .i64 start, .slice A p.length c] 24)) := (Below.refl _ w).alloc (Nat.le_refl _) _
  have HCk := Lib.hid (ccheck_any start A c p hw _ ((hs.below hbw0).more hbw0.size))
  rw [he] at HCk
  obtain ⟨b, off, A', C', rfl, hB, hcr0, hcr1, hC, hsi⟩ := rows_at hs hr
  have hx0 := cell_new (w1 := w.alloc (.cells #[.int .i64 start, .slice (some ⟨b, off, none⟩) p.length c] 24)) (b := w.heap.size) (o := 0) rfl rfl rfl
  have hx1 := cell_new (w1 := w.alloc (.cells #[.int .i64 start, .slice (some ⟨b, off, none⟩) p.length c] 24)) (b := w.heap.size) (o := 1) rfl rfl rfl
  have HX := Lib.hid (fun (w1 : World) (hb : Below (w.heap.size + 1) (w.alloc (.cells #[.int .i64 start, .slice (some ⟨b, off, none⟩) p.length c] 24)) w1) => (show w1.cell? ⟨w.heap.size, 0, none⟩ = some (.int .i64 start) ∧ w1.cell? ⟨w.heap.size, 1, none⟩ = some (.slice (some ⟨b, off, none⟩) p.length c) ∧ w1.cell? ⟨b, off + k * 2, none⟩ = some (.bool r.1) ∧ w1.cell? ⟨b, off + k * 2 + 1, none⟩ = some (.slice A' r.2.length C') from
    ⟨(bcell hb (by omega) _).trans hx0, (bcell hb (by omega) _).trans hx1, (bcell (hbw0.trans (hb.mono (by omega))) hB _).trans hcr0, (bcell (hbw0.trans (hb.mono (by omega))) hB _).trans hcr1⟩))
  have HB0 := Lib.hid hbw0
  have HSi := Lib.hid hsi
  have HA := Lib.hid har
  have HWr := Lib.hid hwr
  clear hx0 hx1 hcr0 hcr1 hsi hs hw hz hbw0 he hr har hwr hmem
  cases hq : r.1 with
  | false =>
    have HF : Hid (faceL r = r.2) := by unfold Hid faceL; rw [hq]; rfl
    have HCl := Lib.hid (fun (w1 : World) (hb : Below w.heap.size w w1) => clone_own A' C' r.2 (by have := (all_zero HA.out).1; omega) w1 ((HSi.out.below hb).more hb.size))
    rw [hq] at HX
    clear hq
    go_enter Tryz.func25, Tryz.ntmps25
    go_wp2_with (first
      | (go_at_call 23; refine HCk.out.mono ?_; rintro e w1 ⟨rfl, hb1⟩
         obtain ⟨c0, c1, c2, c3⟩ := HX.out w1 (hb1.mono (by simp))
         have hbw1 := HB0.out.trans (hb1.mono (by simp)))
      | (go_at_call 50; refine (HCl.out _ hbw1).mono ?_; rintro e w2 ⟨v2, rfl, hT2, hb2⟩))
    go_ret2
    exact ⟨v2, rfl, by rw [HF.out]; exact own_more hT2 hbw1.size, hbw1.trans (hb2.mono hbw1.size)⟩
  | true =>
    have HF : Hid (faceL r = turnedL r.2) := by unfold Hid faceL; rw [hq]; rfl
    have HCl := Lib.hid (fun (w1 : World) (hb : Below w.heap.size w w1) => turn_own A' C' r.2 w1 HWr.out HA.out ((HSi.out.below hb).more hb.size))
    rw [hq] at HX
    clear hq
    go_enter Tryz.func25, Tryz.ntmps25
    go_wp2_with (first
      | (go_at_call 23; refine HCk.out.mono ?_; rintro e w1 ⟨rfl, hb1⟩
         obtain ⟨c0, c1, c2, c3⟩ := HX.out w1 (hb1.mono (by simp))
         have hbw1 := HB0.out.trans (hb1.mono (by simp)))
      | (go_at_call 49; refine (HCl.out _ hbw1).mono ?_; rintro e w2 ⟨v2, rfl, hT2, hb2⟩))
    go_ret2
    exact ⟨v2, rfl, by rw [HF.out]; exact own_more hT2 hbw1.size, hbw1.trans (hb2.mono hbw1.size)⟩
end Go.Proofs.YtbnddpknejgmhaaGreat
namespace Go.Proofs.YtbnddpknejgmhaaGreat
open Go.RowKit
set_option maxRecDepth 100000

theorem other_fact {s : Stc} (h : s.ok = true) : usesS (otherS s) = usesS s ∧ makesS (otherS s) = makesS s ∧ (otherS s).ok = true := by
  unfold Stc.ok at h
  simp only [Bool.and_eq_true, decide_eq_true_eq] at h
  obtain ⟨⟨k1, k2⟩, ⟨a1, a2⟩, ⟨b1, b2⟩, hp⟩ := h
  obtain ⟨kind, purl, a, b⟩ := s
  simp only at k1 k2 a1 a2 b1 b2 hp
  rcases (by omega : kind = 1 ∨ kind = 2 ∨ kind = 3 ∨ kind = 4 ∨ kind = 5 ∨ kind = 6 ∨ kind = 7 ∨ kind = 8 ∨ kind = 9 ∨ kind = 10) with rfl | rfl | rfl | rfl | rfl | rfl | rfl | rfl | rfl | rfl
  all_goals
    simp [formI, formT] at a1 a2 b1 b2
    simp [otherS, usesS, makesS, loopsI, Stc.ok, formI, formT]
    try omega
theorem turned_fact : ∀ {l : List Stc}, (∀ s ∈ l, s.ok = true) → (∀ s ∈ turnedL l, s.ok = true) ∧ (turnedL l).length = l.length ∧ sumU (turnedL l) = sumU l ∧ sumM (turnedL l) = sumM l
  | [], _ => by simp [turnedL]
  | x :: l, h => by
    obtain ⟨h1, h2, h3, h4⟩ := turned_fact fun s hs => h s (List.mem_cons_of_mem x hs)
    obtain ⟨g1, g2, g3⟩ := other_fact (h x List.mem_cons_self)
    have e : turnedL (x :: l) = turnedL l ++ [otherS x] := by simp [turnedL]
    rw [e]
    refine ⟨fun s hs => ?_, by simp [h2], ?_, ?_⟩
    · rcases List.mem_append.1 hs with hs | hs
      · exact h1 s hs
      · rw [List.mem_singleton.1 hs]; exact g3
    · unfold sumU at h3 ⊢
      rw [List.map_append, List.sum_append, h3]
      simp only [List.map_cons, List.map_nil, List.sum_cons, List.sum_nil]
      omega
    · unfold sumM at h4 ⊢
      rw [List.map_append, List.sum_append, h4]
      simp only [List.map_cons, List.map_nil, List.sum_cons, List.sum_nil]
      omega
theorem face_fact (r : RowC) (h : ∀ s ∈ r.2, s.ok = true) : (∀ s ∈ faceL r, s.ok = true) ∧ (faceL r).length = r.2.length ∧ sumU (faceL r) = sumU r.2 ∧ sumM (faceL r) = sumM r.2 := by
  unfold faceL
  split
  · exact turned_fact h
  · exact ⟨h, rfl, rfl, rfl⟩
theorem rowE_fact {n : Int} {r : List Stc} (h : rowE n r = 0) : (r.length ≤ 200 ∧ (∀ s ∈ r, s.ok = true) ∧ sumU r ≤ 200 ∧ sumM r ≤ 200) ∧ sumU r = n ∧ rowA n r = sumM r := by
  have h0 := h
  unfold rowE at h
  by_cases h1 : allE r = 0
  · rw [if_neg (by simpa using h1)] at h
    have h2 : usesE r = n := by
      by_cases h2 : usesE r = n
      · exact h2
      · rw [if_pos h2] at h; cases h
    unfold usesE at h2
    rw [if_pos h1] at h2
    refine ⟨all_zero h1, h2, ?_⟩
    unfold rowA makesE
    rw [if_pos h0, if_pos h1]
  · rw [if_pos h1] at h; exact absurd h h1
theorem err_at : ∀ {n : Int} {p : List RowC}, errR n p = 0 → (∀ (k : Nat) (r : RowC), p[k]? = some r → r.2.length ≤ 200 ∧ (∀ s ∈ r.2, s.ok = true) ∧ sumU r.2 ≤ 200 ∧ sumM r.2 ≤ 200) ∧ (∀ r : RowC, p[0]? = some r → sumU r.2 = n) ∧ ∀ (k : Nat) (r r' : RowC), p[k]? = some r → p[k + 1]? = some r' → sumU r'.2 = sumM r.2
  | _, [], _ => ⟨fun k r h => by simp at h, fun r h => by simp at h, fun k r r' h => by simp at h⟩
  | n, x :: t, h => by
    simp only [errR] at h
    by_cases h1 : rowE n x.2 = 0
    · rw [if_pos h1] at h
      obtain ⟨f1, f2, f3⟩ := rowE_fact h1
      rw [f3] at h
      obtain ⟨g1, g2, g3⟩ := err_at h
      refine ⟨fun k r hr => ?_, fun r hr => ?_, fun k r r' hr hr' => ?_⟩
      · cases k with
        | zero => simp at hr; subst hr; exact f1
        | succ k => rw [List.getElem?_cons_succ] at hr; exact g1 k r hr
      · simp at hr; subst hr; exact f2
      · cases k with
        | zero =>
          simp at hr; subst hr
          rw [List.getElem?_cons_succ] at hr'
          exact g2 r' hr'
        | succ k =>
          rw [List.getElem?_cons_succ] at hr hr'
          exact g3 k r r' hr hr'
    · rw [if_neg h1] at h; exact absurd h h1
theorem wk_chart {start : Int} {p : List RowC} (he : chartE start p = 0) (h12 : p.length ≤ 12) : WkOk start.toNat (p.map faceL) := by
  obtain ⟨-, hst, hr⟩ := chart_zero he
  obtain ⟨g1, g2, g3⟩ := err_at hr
  have hrow : ∀ (k : Nat) (l : List Stc), (p.map faceL)[k]? = some l → ∃ r, p[k]? = some r ∧ l = faceL r ∧ (∀ s ∈ l, s.ok = true) ∧ l.length ≤ 200 ∧ sumU l ≤ 200 ∧ sumM l ≤ 200 ∧ sumU l = sumU r.2 ∧ sumM l = sumM r.2 := fun k l hl => by
    rw [List.getElem?_map] at hl
    cases hp : p[k]? with
    | none => rw [hp] at hl; cases hl
    | some r =>
      rw [hp] at hl
      have e : faceL r = l := by simpa using hl
      subst e
      obtain ⟨q1, q2, q3, q4⟩ := g1 k r hp
      obtain ⟨f1, f2, f3, f4⟩ := face_fact r q2
      exact ⟨r, rfl, rfl, f1, by omega, by omega, by omega, f3, f4⟩
  have hinv : ∀ (k : Nat) (l : List Stc), (p.map faceL)[k]? = some l → ((workP start.toNat (p.map faceL) k).next : Int) + sumU l = (workP start.toNat (p.map faceL) k).lp.length := by
    intro k
    induction k with
    | zero =>
      intro l hl
      obtain ⟨r, hp, -, -, -, -, -, h1, -⟩ := hrow 0 l hl
      have := g2 r hp
      rw [show (workP start.toNat (p.map faceL) 0).lp.length = start.toNat from startP_len _, show (workP start.toNat (p.map faceL) 0).next = 0 from rfl]
      omega
    | succ k ih =>
      intro l hl
      have hk : k < (p.map faceL).length := by have := (List.getElem?_eq_some_iff.1 hl).1; omega
      have hx : (p.map faceL)[k]? = some ((p.map faceL)[k]) := List.getElem?_eq_getElem hk
      obtain ⟨r', hp', -, -, -, -, -, h1', -⟩ := hrow (k + 1) l hl
      obtain ⟨r, hp, -, o1, -, -, -, h1, h2⟩ := hrow k _ hx
      have h3 := g3 k r r' hp hp'
      have h4 := ih _ hx
      obtain ⟨l1, l2, -⟩ := rowRun_len (row := (k : Int) + 1) (fun s hs => stc_k (o1 s hs)) (workP start.toNat (p.map faceL) k) _ (Nat.le_refl _)
      rw [List.take_length] at l1 l2
      rw [workP_next hx]
      unfold endR
      simp only
      omega
  exact ⟨by omega, by rw [List.length_map]; exact h12, fun k l hl => by
    obtain ⟨r, -, -, o1, o2, o3, o4, -, -⟩ := hrow k l hl
    exact ⟨o1, o2, o3, o4, hinv k l hl⟩⟩
end Go.Proofs.YtbnddpknejgmhaaGreat
