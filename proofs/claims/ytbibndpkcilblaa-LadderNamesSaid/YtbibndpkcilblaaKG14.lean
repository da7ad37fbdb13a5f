/- The reference's Seen, rows that are turned, too: a row of its own. Layer 26: Face, whose row the caller owns. Layer 27, plain: a valid chart of few rows can be worked. -/
import Derived.Test.YtbibndpkcilblaaKG13
import Derived.Test.YtbibndpkcilblaaKG12
import Derived.Test.YtbibndpkcilblaaKTurnO
import Derived.Test.YtbibndpkcilblaaKG7
import Derived.Laws.AppendOwnNone
namespace Go.Proofs.Ytbibndpkcilblaa
open Go.RowKit Go.Shelf
set_option maxRecDepth 100000

theorem own_more {w : World} {B B' : Nat} {o : Own} (h : o.lies w B') (hB : B ≤ B') : o.lies w B := World.ownsRow.mono h hB
theorem other_close {W : World} {tmps : Array Value} {s' : Stc} {b : Nat} {R : Ending → World → Prop} (hF : StcAt W b 0 s') (h2 : tmps[2]?.getD undef = .pointer (some ⟨b, 0, none⟩)) (hR : R (.returned s'.val) W) :
    bodyPost Try.prog Try.f74 R .ret { tmps := tmps, defers := [] } W := by
  obtain ⟨c0, c1, c2, c3⟩ := hF
  simp only [Nat.zero_add] at c1 c2 c3
  refine bodyPost_ret (v := s'.val) ?_ rfl hR
  simp [results, Try.results74, go_sem, h2, c0, c1, c2, c3, Stc.val]
set_option maxHeartbeats 4000000 in
theorem rother_any (s : Stc) (ho : s.ok = true) (w : World) : Calls Try.prog 74 #[s.val] w fun e w' => e = .returned (otherS s).val ∧ Below w.heap.size w w' := by
  have hk : 1 ≤ s.kind ∧ s.kind ≤ 10 := by
    unfold Stc.ok at ho
    simp only [Bool.and_eq_true, decide_eq_true_eq] at ho
    exact ho.1
  obtain ⟨k, pl, a, b⟩ := s
  simp only at hk
  have hbl := Lib.hid (fun o o2 => ((Below.refl w.heap.size w).alloc (Nat.le_refl _) o).alloc (by simp) o2)
  have hp29 : k = 2 ∨ k = 9 → pl = false := by
    rintro (rfl | rfl) <;> cases pl <;> first | rfl | (simp [Stc.ok, formI, formT, form0] at ho)
  clear ho
  rcases (by omega : k = 1 ∨ k = 2 ∨ k = 3 ∨ k = 4 ∨ k = 5 ∨ k = 6 ∨ k = 7 ∨ k = 8 ∨ k = 9 ∨ k = 10) with rfl | rfl | rfl | rfl | rfl | rfl | rfl | rfl | rfl | rfl
  all_goals clear hk
  all_goals first | (obtain rfl := hp29 (Or.inl rfl)) | (obtain rfl := hp29 (Or.inr rfl)) | clear hp29
  all_goals
    go_enter Try.func74, Try.ntmps74
    go_wp2
    exact other_close (s' := otherS ⟨_, _, a, b⟩) ⟨cell_new rfl (by simp) rfl, cell_new rfl (by simp) rfl, cell_new rfl (by simp) rfl, cell_new rfl (by simp) rfl⟩ rfl ⟨rfl, hbl.out _ _⟩
theorem turned_step {l : List Stc} {m : Nat} {s : Stc} (h : l[m]? = some s) : turnedL (l.drop m) = turnedL (l.drop (m + 1)) ++ [otherS s] := by
  obtain ⟨hk, e⟩ := List.getElem?_eq_some_iff.1 h
  rw [List.drop_eq_getElem_cons hk, e]; simp [turnedL]
theorem flat_snoc4 (O : List Stc) (x : Stc) : ((O ++ [x]).map Stc.cells).flatten = (O.map Stc.cells).flatten ++ x.cells := by simp
theorem news4 (W : World) (cs : Array Value) (t : TypeId) (b : Nat) (hb : b = W.heap.size) : ∀ (j : Nat) (u : Value), cs.toList[j]? = some u → (W.alloc (.cells cs t)).cell? ((⟨b, 0, none⟩ : Addr).add j) = some u := fun j u h => by
  subst hb
  rw [show (⟨W.heap.size, 0, none⟩ : Addr).add j = ⟨W.heap.size, j, none⟩ by unfold Addr.add; split <;> simp_all]
  exact cell_new rfl rfl (by simpa using h)
theorem oneS (s : Stc) : ∀ v ∈ s.cells, v.oneCell' = true := by
  intro u hu
  simp only [Stc.cells, List.mem_cons, List.not_mem_nil, or_false] at hu
  rcases hu with rfl | rfl | rfl | rfl <;> rfl
set_option maxHeartbeats 4000000 in
theorem rturned_own (A : Option Addr) (c : Nat) (l : List Stc) (hok : ∀ s ∈ l, s.ok = true) (hn : l.length ≤ 1000) (w : World) (hs : SlT w w.heap.size A l) :
    Calls Try.prog 63 #[.slice A l.length c] w fun e w' => SnPost (turnedL l) w e w' := by
  obtain ⟨i0, hi, hz0, hz1, hz2⟩ := info_parts info_stW
  have hsub : IntKind.i64.wrap ((l.length : Int) - 1) = (l.length : Int) - 1 := IntWalk.i64_in _ (by omega)
  go_enter Try.func63, Try.ntmps63
  go_wp2
  go_loopw [3, 4] (fun s3 s4 wr => ∃ (m : Nat) (vo : Value), m ≤ l.length ∧ s4 = .int .i64 ((m : Int) - 1) ∧ vo = s3 ∧ Hid (wr.ownsRow w.heap.size 56 4 vo (l.length - m) ((turnedL (l.drop m)).map Stc.cells).flatten) ∧ Below w.heap.size w wr) (fun _ s4 _ => (intOf s4 + 1).toNat)
  case atStart => exact ⟨l.length, _, Nat.le_refl _, rfl, rfl, (by rw [Nat.sub_self, List.drop_length]; exact World.ownsRow_nil _ _ _ _), Below.refl _ _⟩
  case round =>
    obtain ⟨m, vo, hm, rfl, rfl, HOw, hbw⟩ := hrel
    cases m with
    | zero =>
      have ho := HOw.out
      rw [Nat.sub_zero, List.drop_zero] at ho
      have hl : (turnedL l).length = l.length := by simp [turnedL]
      rw [← hl] at ho
      have HO : Hid (SnPost (turnedL l) w (.returned vo) wr) := ⟨vo, rfl, ho, hbw⟩
      clear ho HOw hs hok
      go_wp2
      go_ret
      exact HO.out
    | succ m =>
      have em : (((m + 1 : Nat) : Int) - 1) = (m : Int) := by omega
      rw [em]
      obtain ⟨b, off, s, rfl, hB, hz, hc⟩ := hs.at_ (k := m) (by omega)
      obtain ⟨c0, c1, c2, c3⟩ := hc.below hbw hB
      have HOt := Lib.hid (fun w => rother_any s (hok s (List.mem_of_getElem? hz)) w)
      have HSt : Hid ((turnedL (l.drop m)) = turnedL (l.drop (m + 1)) ++ [otherS s]) := turned_step hz
      have hln : l.length - m = l.length - (m + 1) + 1 := by omega
      have hbz := hbw.size
      have hsub2 : IntKind.i64.wrap ((m : Int) - 1) = (m : Int) - 1 := IntWalk.i64_in _ (by omega)
      clear hs hok hz hc
      generalize otherS s = s' at HOt HSt
      go_wp2_with (first
        | (go_at_call 74; refine (HOt.out _).mono ?_; rintro e w1 ⟨rfl, hb1⟩; have HO1 := Lib.hid (own_below HOw.out hb1 (Nat.le_refl _)); have hz1' := hb1.size)
        | (at_builtin; refine wpList_append_own _ rfl _ _ 57 rfl w.heap.size 56 i0 (.agg #[.int .u8 0, .bool false, .int .i64 0, .int .i64 0]) 4 24 Try.underlying57 hi hz0 hz1 hz2 rfl (by decide) _ _ _ rfl (HO1.out.alloc _) ⟨w1.heap.size, 0, none⟩ 1 1 s'.cells rfl rfl (news4 w1 _ _ _ rfl) (oneS s') (by unfold maxLen; omega) (by omega) (by simp; omega) ?_; intro v' w4 hown4 hgrow _; have HO4 := Lib.hid hown4; have HG4 := Lib.hid hgrow; clear hown4 hgrow))
      go_roundw
      case rel =>
        refine ⟨m, v', by omega, by go_num, rfl, ?_, ?_⟩
        · rw [HSt.out, flat_snoc4, hln]
          exact HO4.out
        · exact ((hbw.trans (hb1.mono hbw.size)).alloc (by omega) _).grown HG4.out (by simp; omega) (fun g e => (HO1.out.lt g e).1)
      case measure => simp [intOf]
set_option maxHeartbeats 4000000 in
/-- The reference's Seen: a row of its own. -/
theorem rseen_own (r : RowC) (A : Option Addr) (c : Nat) (hok : ∀ s ∈ r.2, s.ok = true) (hn : r.2.length ≤ 1000) (w : World) (hs : SlT w w.heap.size A r.2) :
    Calls Try.prog 43 #[.agg #[.bool r.1, .slice A r.2.length c]] w fun e w' => SnPost (faceL r) w e w' := by
  obtain ⟨q, l⟩ := r
  simp only at hok hn hs ⊢
  cases q with
  | false => exact rseen_plain A c l hn w hs
  | true =>
    have hbw0 : Below w.heap.size w (w.alloc (.cells #[.bool true, .slice A l.length c] 59)) := (Below.refl _ w).alloc (Nat.le_refl _) _
    have HB0 := Lib.hid hbw0
    have HT := Lib.hid (rturned_own A c l hok hn _ ((hs.below hbw0).more hbw0.size))
    have HF : Hid (faceL (true, l) = turnedL l) := rfl
    clear hs hok hbw0
    go_enter Try.func43, Try.ntmps43
    go_wp2_with (go_at_call 63; refine HT.out.mono ?_; rintro e w1 ⟨v2, rfl, ho2, hb2⟩)
    have HO : Hid (SnPost (turnedL l) w (.returned v2) w1) := ⟨v2, rfl, own_more ho2 HB0.out.size, HB0.out.trans (hb2.mono HB0.out.size)⟩
    go_ret
    rw [HF.out]
    exact HO.out
end Go.Proofs.Ytbibndpkcilblaa
namespace Go.Proofs.Ytbibndpkcilblaa
open Go.RowKit Go.Shelf
set_option maxRecDepth 100000

set_option maxHeartbeats 1000000 in
theorem clone_own (A : Option Addr) (c : Nat) (l : List Stc) (hn : l.length ≤ 1000000) (w : World) (hs : SlT w w.heap.size A l) :
    Calls Try.prog 77 #[.slice A l.length c] w fun e w' => SnPost l w e w' := by
  obtain ⟨i0, hi, hz0, hz1, hz2⟩ := info_parts info_stc
  cases A with
  | none =>
    have hl : l = [] := by
      cases l with
      | nil => rfl
      | cons a t =>
        obtain ⟨b, off, e, _⟩ := hs (by simp)
        cases e
    subst hl
    have HO : Hid (SnPost [] w (.returned (.slice none 0 0)) w) := ⟨_, rfl, World.ownsRow_nil _ _ _ _, Below.refl _ _⟩
    clear hs
    rw [List.length_nil]
    have hq := eql_none 0 c
    go_enter Try.func77, Try.ntmps77
    go_wp2
    go_ret
    exact HO.out
  | some ad =>
    have hnews : ∀ j u, (l.map Stc.cells).flatten[j]? = some u → (w.alloc (.cells #[] 56)).cell? (ad.add j) = some u := by
      intro j u hu
      have hne : l.map Stc.cells ≠ [] := fun e => by rw [e] at hu; simp at hu
      obtain ⟨b, off, e, hB, _⟩ := hs hne
      cases e
      have h1 := SlS.flat (cells4 l) hs j u hu
      exact (World.cell?_alloc_lt w _ _ (by have e : ((⟨b, off, none⟩ : Addr).add j).block = b := by unfold Addr.add; split <;> rfl
                                            rw [e]; exact hB)).trans h1
    have HN := Lib.hid hnews
    have hlen : (l.map Stc.cells).flatten.length = l.length * 4 := by rw [flat_len (cells4 l), List.length_map]
    have HL := Lib.hid hlen
    clear hs hnews hlen
    have hq := eql_some ad l.length c
    go_enter Try.func77, Try.ntmps77
    go_wp2_with (at_builtin; refine wpList_append_own _ rfl _ _ 57 rfl w.heap.size 56 i0 (.agg #[.int .u8 0, .bool false, .int .i64 0, .int .i64 0]) 4 24 Try.underlying57 hi hz0 hz1 hz2 rfl (by decide) _ 0 [] rfl (World.ownsRow_lit w #[] 0 (Nat.le_refl _) (by decide) rfl) ad l.length c (l.map Stc.cells).flatten rfl HL.out HN.out (one4 l) (by unfold maxLen; omega) (by omega) (by simp) ?_; intro v' w1 hown' hgrow _; have HOw := Lib.hid hown'; have HG := Lib.hid hgrow; clear hown' hgrow)
    have ho := HOw.out
    rw [Nat.zero_add, List.nil_append] at ho
    obtain ⟨a2, c2, rfl, _⟩ := own_slice ho
    have hB : Below w.heap.size w w1 := ((Below.refl _ w).alloc (Nat.le_refl _) _).grown HG.out (by simp) (fun k e => by cases e; exact Nat.le_refl _)
    have HO := Lib.hid (show SnPost l w (.returned (.slice a2 l.length c2)) w1 from ⟨_, rfl, ho, hB⟩)
    clear ho hB HOw HG
    go_ret
    exact HO.out
set_option maxHeartbeats 2000000 in
theorem face_own (start : Int) (A : Option Addr) (c : Nat) (p : List RowC) (hw : RowsWf p) (he : chartE start p = 0) (k : Nat) (r : RowC) (hr : p[k]? = some r) (w : World) (hs : SlC w w.heap.size A p) :
    Calls Try.prog 66 #[.agg #[.int .i64 start, .slice A p.length c], .int .i64 k] w fun e w' => SnPost2 (faceL r) w e w' := by
  have hz := chart_zero he
  have hkl : k < p.length := (List.getElem?_eq_some_iff.1 hr).1
  have hmem := List.mem_of_getElem? hr
  have har := err_rows hz.2.2 r hmem
  have hwr := hw r hmem
  have hpl := hz.1
  have hbw0 : Below w.heap.size w (w.alloc (.cells #[.int .i64 start, .slice A p.length c] 24)) := (Below.refl _ w).alloc (Nat.le_refl _) _
  have HCk := Lib.hid (ccheck_any start A c p hw _ ((hs.below hbw0).more hbw0.size))
  rw [he] at HCk
  obtain ⟨b, off, A', C', rfl, hB, hcr0, hcr1, hC, hsi⟩ := rows_at hs hr
  have hx0 := cell_new (w1 := w.alloc (.cells #[.int .i64 start, .slice (some ⟨b, off, none⟩) p.length c] 24)) (b := w.heap.size) (o := 0) rfl rfl rfl
  have hx1 := cell_new (w1 := w.alloc (.cells #[.int .i64 start, .slice (some ⟨b, off, none⟩) p.length c] 24)) (b := w.heap.size) (o := 1) rfl rfl rfl
  have HX := Lib.hid (fun (w1 : World) (hb : Below (w.heap.size + 1) (w.alloc (.cells #[.int .i64 start, .slice (some ⟨b, off, none⟩) p.length c] 24)) w1) => (show w1.cell? ⟨w.heap.size, 0, none⟩ = some (.int .i64 start) ∧ w1.cell? ⟨w.heap.size, 1, none⟩ = some (.slice (some ⟨b, off, none⟩) p.length c) ∧ w1.cell? ⟨b, off + k * 2, none⟩ = some (.bool r.1) ∧ w1.cell? ⟨b, off + k * 2 + 1, none⟩ = some (.slice A' r.2.length C') from
    ⟨(bcell hb (by omega) _).trans hx0, (bcell hb (by omega) _).trans hx1, (bcell (hbw0.trans (hb.mono (by omega))) hB _).trans hcr0, (bcell (hbw0.trans (hb.mono (by omega))) hB _).trans hcr1⟩))
  have HB0 := Lib.hid hbw0
  have HSi := Lib.hid hsi
  have HA := Lib.hid har
  have HWr := Lib.hid hwr
  clear hx0 hx1 hcr0 hcr1 hsi hs hw hz hbw0 he hr har hwr hmem
  cases hq : r.1 with
  | false =>
    have HF : Hid (faceL r = r.2) := by unfold Hid faceL; rw [hq]; rfl
    have HCl := Lib.hid (fun (w1 : World) (hb : Below w.heap.size w w1) => clone_own A' C' r.2 (by have := (all_zero HA.out).1; omega) w1 ((HSi.out.below hb).more hb.size))
    rw [hq] at HX
    clear hq
    go_enter Try.func66, Try.ntmps66
    go_wp2_with (first
      | (go_at_call 65; refine HCk.out.mono ?_; rintro e w1 ⟨rfl, hb1⟩
         obtain ⟨c0, c1, c2, c3⟩ := HX.out w1 (hb1.mono (by simp))
         have hbw1 := HB0.out.trans (hb1.mono (by simp)))
      | (go_at_call 77; refine (HCl.out _ hbw1).mono ?_; rintro e w2 ⟨v2, rfl, hT2, hb2⟩))
    go_ret2
    exact ⟨v2, rfl, by rw [HF.out]; exact own_more hT2 hbw1.size, hbw1.trans (hb2.mono hbw1.size)⟩
  | true =>
    have HF : Hid (faceL r = turnedL r.2) := by unfold Hid faceL; rw [hq]; rfl
    have HCl := Lib.hid (fun (w1 : World) (hb : Below w.heap.size w w1) => turn_own A' C' r.2 w1 HWr.out HA.out ((HSi.out.below hb).more hb.size))
    rw [hq] at HX
    clear hq
    go_enter Try.func66, Try.ntmps66
    go_wp2_with (first
      | (go_at_call 65; refine HCk.out.mono ?_; rintro e w1 ⟨rfl, hb1⟩
         obtain ⟨c0, c1, c2, c3⟩ := HX.out w1 (hb1.mono (by simp))
         have hbw1 := HB0.out.trans (hb1.mono (by simp)))
      | (go_at_call 76; refine (HCl.out _ hbw1).mono ?_; rintro e w2 ⟨v2, rfl, hT2, hb2⟩))
    go_ret2
    exact ⟨v2, rfl, by rw [HF.out]; exact own_more hT2 hbw1.size, hbw1.trans (hb2.mono hbw1.size)⟩
end Go.Proofs.Ytbibndpkcilblaa
namespace Go.Proofs.Ytbibndpkcilblaa
open Go.RowKit
set_option maxRecDepth 100000

theorem other_fact {s : Stc} (h : s.ok = true) : usesS (otherS s) = usesS s ∧ makesS (otherS s) = makesS s ∧ (otherS s).ok = true := by
  unfold Stc.ok at h
  simp only [Bool.and_eq_true, decide_eq_true_eq] at h
  obtain ⟨⟨k1, k2⟩, ⟨a1, a2⟩, ⟨b1, b2⟩, hp⟩ := h
  obtain ⟨kind, purl, a, b⟩ := s
  simp only at k1 k2 a1 a2 b1 b2 hp
  rcases (by omega : kind = 1 ∨ kind = 2 ∨ kind = 3 ∨ kind = 4 ∨ kind = 5 ∨ kind = 6 ∨ kind = 7 ∨ kind = 8 ∨ kind = 9 ∨ kind = 10) with rfl | rfl | rfl | rfl | rfl | rfl | rfl | rfl | rfl | rfl
  all_goals
    simp [formI, formT] at a1 a2 b1 b2
    simp [otherS, usesS, makesS, loopsI, Stc.ok, formI, formT]
    try omega
theorem turned_fact : ∀ {l : List Stc}, (∀ s ∈ l, s.ok = true) → (∀ s ∈ turnedL l, s.ok = true) ∧ (turnedL l).length = l.length ∧ sumU (turnedL l) = sumU l ∧ sumM (turnedL l) = sumM l
  | [], _ => by simp [turnedL]
  | x :: l, h => by
    obtain ⟨h1, h2, h3, h4⟩ := turned_fact fun s hs => h s (List.mem_cons_of_mem x hs)
    obtain ⟨g1, g2, g3⟩ := other_fact (h x List.mem_cons_self)
    have e : turnedL (x :: l) = turnedL l ++ [otherS x] := by simp [turnedL]
    rw [e]
    refine ⟨fun s hs => ?_, by simp [h2], ?_, ?_⟩
    · rcases List.mem_append.1 hs with hs | hs
      · exact h1 s hs
      · rw [List.mem_singleton.1 hs]; exact g3
    · unfold sumU at h3 ⊢
      rw [List.map_append, List.sum_append, h3]
      simp only [List.map_cons, List.map_nil, List.sum_cons, List.sum_nil]
      omega
    · unfold sumM at h4 ⊢
      rw [List.map_append, List.sum_append, h4]
      simp only [List.map_cons, List.map_nil, List.sum_cons, List.sum_nil]
      omega
theorem face_fact (r : RowC) (h : ∀ s ∈ r.2, s.ok = true) : (∀ s ∈ faceL r, s.ok = true) ∧ (faceL r).length = r.2.length ∧ sumU (faceL r) = sumU r.2 ∧ sumM (faceL r) = sumM r.2 := by
  unfold faceL
  split
  · exact turned_fact h
  · exact ⟨h, rfl, rfl, rfl⟩
theorem rowE_fact {n : Int} {r : List Stc} (h : rowE n r = 0) : (r.length ≤ 200 ∧ (∀ s ∈ r, s.ok = true) ∧ sumU r ≤ 200 ∧ sumM r ≤ 200) ∧ sumU r = n ∧ rowA n r = sumM r := by
  have h0 := h
  unfold rowE at h
  by_cases h1 : allE r = 0
  · rw [if_neg (by simpa using h1)] at h
    have h2 : usesE r = n := by
      by_cases h2 : usesE r = n
      · exact h2
      · rw [if_pos h2] at h; cases h
    unfold usesE at h2
    rw [if_pos h1] at h2
    refine ⟨all_zero h1, h2, ?_⟩
    unfold rowA makesE
    rw [if_pos h0, if_pos h1]
  · rw [if_pos h1] at h; exact absurd h h1
theorem err_at : ∀ {n : Int} {p : List RowC}, errR n p = 0 → (∀ (k : Nat) (r : RowC), p[k]? = some r → r.2.length ≤ 200 ∧ (∀ s ∈ r.2, s.ok = true) ∧ sumU r.2 ≤ 200 ∧ sumM r.2 ≤ 200) ∧ (∀ r : RowC, p[0]? = some r → sumU r.2 = n) ∧ ∀ (k : Nat) (r r' : RowC), p[k]? = some r → p[k + 1]? = some r' → sumU r'.2 = sumM r.2
  | _, [], _ => ⟨fun k r h => by simp at h, fun r h => by simp at h, fun k r r' h => by simp at h⟩
  | n, x :: t, h => by
    simp only [errR] at h
    by_cases h1 : rowE n x.2 = 0
    · rw [if_pos h1] at h
      obtain ⟨f1, f2, f3⟩ := rowE_fact h1
      rw [f3] at h
      obtain ⟨g1, g2, g3⟩ := err_at h
      refine ⟨fun k r hr => ?_, fun r hr => ?_, fun k r r' hr hr' => ?_⟩
      · cases k with
        | zero => simp at hr; subst hr; exact f1
        | succ k => rw [List.getElem?_cons_succ] at hr; exact g1 k r hr
      · simp at hr; subst hr; exact f2
      · cases k with
        | zero =>
          simp at hr; subst hr
          rw [List.getElem?_cons_succ] at hr'
          exact g2 r' hr'
        | succ k =>
          rw [List.getElem?_cons_succ] at hr hr'
          exact g3 k r r' hr hr'
    · rw [if_neg h1] at h; exact absurd h h1
theorem wk_chart {start : Int} {p : List RowC} (he : chartE start p = 0) (h12 : p.length ≤ 12) : WkOk start.toNat (p.map faceL) := by
  obtain ⟨-, hst, hr⟩ := chart_zero he
  obtain ⟨g1, g2, g3⟩ := err_at hr
  have hrow : ∀ (k : Nat) (l : List Stc), (p.map faceL)[k]? = some l → ∃ r, p[k]? = some r ∧ l = faceL r ∧ (∀ s ∈ l, s.ok = true) ∧ l.length ≤ 200 ∧ sumU l ≤ 200 ∧ sumM l ≤ 200 ∧ sumU l = sumU r.2 ∧ sumM l = sumM r.2 := fun k l hl => by
    rw [List.getElem?_map] at hl
    cases hp : p[k]? with
    | none => rw [hp] at hl; cases hl
    | some r =>
      rw [hp] at hl
      have e : faceL r = l := by simpa using hl
      subst e
      obtain ⟨q1, q2, q3, q4⟩ := g1 k r hp
      obtain ⟨f1, f2, f3, f4⟩ := face_fact r q2
      exact ⟨r, rfl, rfl, f1, by omega, by omega, by omega, f3, f4⟩
  have hinv : ∀ (k : Nat) (l : List Stc), (p.map faceL)[k]? = some l → ((workP start.toNat (p.map faceL) k).next : Int) + sumU l = (workP start.toNat (p.map faceL) k).lp.length := by
    intro k
    induction k with
    | zero =>
      intro l hl
      obtain ⟨r, hp, -, -, -, -, -, h1, -⟩ := hrow 0 l hl
      have := g2 r hp
      rw [show (workP start.toNat (p.map faceL) 0).lp.length = start.toNat from startP_len _, show (workP start.toNat (p.map faceL) 0).next = 0 from rfl]
      omega
    | succ k ih =>
      intro l hl
      have hk : k < (p.map faceL).length := by have := (List.getElem?_eq_some_iff.1 hl).1; omega
      have hx : (p.map faceL)[k]? = some ((p.map faceL)[k]) := List.getElem?_eq_getElem hk
      obtain ⟨r', hp', -, -, -, -, -, h1', -⟩ := hrow (k + 1) l hl
      obtain ⟨r, hp, -, o1, -, -, -, h1, h2⟩ := hrow k _ hx
      have h3 := g3 k r r' hp hp'
      have h4 := ih _ hx
      obtain ⟨l1, l2, -⟩ := rowRun_len (row := (k : Int) + 1) (fun s hs => stc_k (o1 s hs)) (workP start.toNat (p.map faceL) k) _ (Nat.le_refl _)
      rw [List.take_length] at l1 l2
      rw [workP_next hx]
      unfold endR
      simp only
      omega
  exact ⟨by omega, by rw [List.length_map]; exact h12, fun k l hl => by
    obtain ⟨r, -, -, o1, o2, o3, o4, -, -⟩ := hrow k l hl
    exact ⟨o1, o2, o3, o4, hinv k l hl⟩⟩
end Go.Proofs.Ytbibndpkcilblaa
