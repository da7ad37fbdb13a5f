/- Layer 32. -/
import Derived.Test.YtflpikickbellaaGreatZ5
namespace Go.Proofs.YtflpikickbellaaGreat
open Go.RowKit Go.Shelf Go.Sort
set_option maxRecDepth 100000
set_option maxHeartbeats 16000000 in
theorem pchk_any (A F : Option Addr) (c fc : Nat) (s : Sft) (hl : s.to_.length ≤ 4611686018427387904) (hf : s.first.length ≤ 4611686018427387904) (w : World) (h : SfAt A F s w) :
 Calls Tryz.prog 44 #[sftV A F c fc s] w fun e w' => e = .returned (.int .i64 (sftE s)) ∧ Below w.heap.size w w' := by
 have hb0 := al_t w (sftB A F c fc s)
 have HX0 : Hid (SfBx w.heap.size A F c fc s (w.alloc (sftB A F c fc s)) ∧ Below w.heap.size w (w.alloc (sftB A F c fc s))) := ⟨SfBx.new c fc h, hb0⟩
 have c0 := HX0.out.1.c0
 have c1 := HX0.out.1.c1
 obtain ⟨r, hr⟩ : ∃ r, r = sftE s := ⟨_, rfl⟩
 have HR : Hid (r = sftE s) := hr
 rw [← hr]
 obtain ⟨pb, hpb⟩ : ∃ pb, pb = w.heap.size := ⟨_, rfl⟩
 clear h hb0 hr
 by_cases h40 : 40 < s.to_.length
 case pos =>
  have d1 : decide (40 < s.to_.length) = true := decide_eq_true h40
  have d2 : decide ((40 : Int) < (s.to_.length : Int)) = true := decide_eq_true (by omega)
  have HR2 : Hid (r = 4) := by show _ = _; rw [HR.out, sftE_many h40]
  clear h40 HR hpb
  go_enter Tryz.func44, Tryz.ntmps44
  go_wp2
  go_ret
  exact ⟨ret_int HR2.out.symm, HX0.out.2⟩
 case neg =>
 have d1 : decide (40 < s.to_.length) = false := decide_eq_false h40
 have d2 : decide ((40 : Int) < (s.to_.length : Int)) = false := decide_eq_false (by omega)
 have HTo := Lib.hid (fun (i : Nat) (hi : i < s.n) hb => sftE_to (s := s) h40 (i := i) hi hb)
 have HFr := Lib.hid (fun ht (i : Nat) (p : Int × Int) hp hb => sftE_fr (s := s) h40 ht (i := i) (p := p) hp hb)
 have HZe := Lib.hid (fun ht hf => sftE_zero (s := s) h40 ht hf)
 have h40' : s.to_.length ≤ 40 := by omega
 go_enter Tryz.func44, Tryz.ntmps44
 go_upto_region 4 with fail
 refine abs_world (Q := fun W => Code.wp _ _ _ _ W) (F := fun W => SfBx w.heap.size A F c fc s W ∧ Below w.heap.size w W) _ HX0.out ?_
 clear HX0 c0 c1 d1 d2 h40
 rintro W1 ⟨hx, hb1⟩
 rw [← hpb] at hx ⊢
 have HX1 := Lib.hid (And.intro hx hb1)
 have c0 := hx.c0
 clear hx hb1 hpb
 go_wp2
 go_loopw [16] (fun s16 wr => ∃ i : Nat, i ≤ s.to_.length ∧ s16 = .int .i64 (i : Int) ∧ Hid (W1 = wr) ∧ Hid (∀ j, j < i → badT (s.to_.getD j 0) j = false)) (fun s16 _ => s.to_.length - (intOf s16).toNat)
 case atStart => exact ⟨0, Nat.zero_le _, rfl, rfl, fun j hj => absurd hj (Nat.not_lt_zero j)⟩
 case round =>
  obtain ⟨i, hi, rfl, HW, HT⟩ := hrel
  obtain rfl := HW.out
  clear HW
  by_cases hlt : i < s.to_.length
  case pos =>
   obtain ⟨b, off, hA, hcl⟩ := HX1.out.1.to_at hlt
   have HBad : Hid (badT (s.to_.getD i 0) i = true → r = 8) := fun hb => HR.out.trans (HTo.out i hlt hb)
   have HT2 : Hid (badT (s.to_.getD i 0) i = false → ∀ j, j < i + 1 → badT (s.to_.getD j 0) j = false) := fun hb j hj => by
    by_cases e : j = i
    · subst e; exact hb
    · exact HT.out j (by omega)
   obtain ⟨z, hz⟩ : ∃ z, z = s.to_.getD i 0 := ⟨_, rfl⟩
   rw [← hz] at hcl HBad HT2
   subst hA
   clear hz HT c0
   have hcase : z < 0 ∨ (0 ≤ z ∧ 100 < z) ∨ (0 ≤ z ∧ z ≤ 100 ∧ 8 < max (z - (i : Int)) ((i : Int) - z)) ∨ (0 ≤ z ∧ z ≤ 100 ∧ max (z - (i : Int)) ((i : Int) - z) ≤ 8) := by omega
   rcases hcase with h1 | ⟨h1, h2⟩ | ⟨h1, h2, h3⟩ | ⟨h1, h2, h3⟩
   · have HR2 := Lib.hid (HBad.out (badT_iff.2 (by omega)))
     clear HBad HT2
     go_wp2
     go_ret
     exact ⟨ret_int HR2.out.symm, HX1.out.2⟩
   · have HR2 := Lib.hid (HBad.out (badT_iff.2 (by omega)))
     clear HBad HT2
     go_wp2
     go_ret
     exact ⟨ret_int HR2.out.symm, HX1.out.2⟩
   · have HR2 := Lib.hid (HBad.out (badT_iff.2 (by omega)))
     have dm : decide (8 < max (z - (i : Int)) ((i : Int) - z)) = true := decide_eq_true h3
     clear HBad HT2
     go_wp2
     go_ret
     exact ⟨ret_int HR2.out.symm, HX1.out.2⟩
   · have HT3 := Lib.hid (HT2.out (by rw [Bool.eq_false_iff, Ne, badT_iff]; omega))
     have dm : decide (8 < max (z - (i : Int)) ((i : Int) - z)) = false := decide_eq_false (by omega)
     clear HBad HT2
     go_wp2
     go_roundw
     case rel => exact ⟨i + 1, by omega, by go_num, by first | rfl | trivial, HT3.out⟩
     case measure => simp [intOf]; omega
  case neg =>
   have HTA : Hid (∀ i, i < s.n → badT (s.to_.getD i 0) i = false) := fun j hj => HT.out j (by have e : s.n = s.to_.length := rfl; omega)
   have c1 := HX1.out.1.c1
   clear HT HTo
   go_wp2
   clear c0
   go_loopw [41] (fun s41 wr => ∃ k : Nat, k ≤ s.first.length ∧ s41 = .int .i64 (k : Int) ∧ Hid (SfBx pb A F c fc s wr ∧ Below w.heap.size w wr) ∧ Hid (∀ (j : Nat) (p : Int × Int), j < k → s.first[j]? = some p → badF s j p = false)) (fun s41 _ => s.first.length - (intOf s41).toNat)
   case atStart => exact ⟨0, Nat.zero_le _, rfl, HX1.out, fun j p hj => absurd hj (Nat.not_lt_zero j)⟩
   case round =>
    obtain ⟨k, hk, rfl, HX3, HT⟩ := hrel
    clear HX1 c1
    obtain ⟨W3, hW3⟩ : ∃ W3 : World, W3 = wr := ⟨_, rfl⟩
    rw [← hW3] at HX3 ⊢
    clear hW3
    by_cases hkl : k < s.first.length
    case neg =>
     have HR2 : Hid (r = 0) := by
      show _ = _
      rw [HR.out]
      exact HZe.out HTA.out fun j p hp => HT.out j p (by have := (List.getElem?_eq_some_iff.1 hp).1; omega) hp
     clear HT
     go_wp2
     go_ret
     exact ⟨ret_int HR2.out.symm, HX3.out.2⟩
    case pos =>
     obtain ⟨b, off, p, rfl, -, hp, q0, q1⟩ := HX3.out.1.at_.fr.at_ hkl
     have HPk := Lib.hid hp
     have HBad : Hid (badF s k p = true → r = 8) := fun hb => HR.out.trans (HFr.out HTA.out k p hp hb)
     have HT2 : Hid (badF s k p = false → ∀ (j : Nat) (q : Int × Int), j < k + 1 → s.first[j]? = some q → badF s j q = false) := fun hb j q hj hq => by
      by_cases e : j = k
      · subst e; rw [HPk.out] at hq; cases hq; exact hb
      · exact HT.out j q (by omega) hq
     have HPr : Hid (0 < k → ∃ q : Int × Int, s.first.getD (k - 1) (0, 0) = q ∧ W3.cell? ⟨b, off + (k - 1) * 2, none⟩ = some (.int .i64 q.1) ∧ W3.cell? ⟨b, off + (k - 1) * 2 + 1, none⟩ = some (.int .i64 q.2)) := fun h0 => by
      obtain ⟨b', off', q, e, -, hq, r0, r1⟩ := HX3.out.1.at_.fr.at_ (k := k - 1) (by omega)
      cases e
      exact ⟨q, by rw [List.getD_eq_getElem?_getD, hq]; rfl, r0, r1⟩
     clear hp HT
     obtain ⟨x, y⟩ := p
     simp only at q0 q1
     have hXb : SfBx pb A (some ⟨b, off, none⟩) c fc s (W3.alloc (.cells #[.int .i64 x, .int .i64 y] 48)) ∧ Below W3.heap.size W3 (W3.alloc (.cells #[.int .i64 x, .int .i64 y] 48)) ∧ (W3.alloc (.cells #[.int .i64 x, .int .i64 y] 48)).cell? ⟨W3.heap.size, 0, none⟩ = some (.int .i64 x) ∧ (W3.alloc (.cells #[.int .i64 x, .int .i64 y] 48)).cell? ⟨W3.heap.size, 1, none⟩ = some (.int .i64 y) := ⟨HX3.out.1.to (al_t _ _), al_t _ _, cell_new rfl rfl rfl, cell_new rfl rfl rfl⟩
     have HXb := Lib.hid hXb
     clear hXb
     go_upto_region 13 with fail
     refine abs_world (Q := fun W => Code.wp _ _ _ _ W) (F := fun W => SfBx pb A (some ⟨b, off, none⟩) c fc s W ∧ Below W3.heap.size W3 W ∧ W.cell? ⟨W3.heap.size, 0, none⟩ = some (.int .i64 x) ∧ W.cell? ⟨W3.heap.size, 1, none⟩ = some (.int .i64 y)) _ HXb.out ?_
     clear HXb q0 q1
     obtain ⟨xb, hxb⟩ : ∃ xb, xb = W3.heap.size := ⟨_, rfl⟩
     rintro W4 ⟨hx4, hb4, y0, y1⟩
     rw [← hxb] at y0 y1 ⊢
     clear hxb
     have c1 := hx4.c1
     have HX4 : Hid (SfBx pb A (some ⟨b, off, none⟩) c fc s W4 ∧ Below w.heap.size w W4) := ⟨hx4, HX3.out.2.trans (hb4.mono HX3.out.2.size)⟩
     have HB4 := Lib.hid hb4
     clear hx4 hb4 HX3
     by_cases e1 : 0 ≤ x ∧ x < (s.to_.length : Int) ∧ 0 ≤ y ∧ y < (s.to_.length : Int) ∧ x ≠ y
     case neg =>
      have HR2 := Lib.hid (HBad.out (badF_iff.2 (Or.inl (by simp only; omega))))
      clear HBad HT2 HPr
      by_cases m1 : min x y < 0
      · have t1 : decide (min x y < 0) = true := decide_eq_true m1
        clear e1 m1
        go_quiet (fail)
        go_wp2
        go_ret
        exact ⟨ret_int HR2.out.symm, below_drewT HX4.out.2 _⟩
      · have t1 : decide (min x y < 0) = false := decide_eq_false m1
        by_cases m2 : (s.to_.length : Int) ≤ max x y
        · have t2 : decide ((s.to_.length : Int) ≤ max x y) = true := decide_eq_true m2
          clear e1 m1 m2
          go_quiet (fail)
          go_wp2
          go_ret
          exact ⟨ret_int HR2.out.symm, below_drewT HX4.out.2 _⟩
        · have t2 : decide ((s.to_.length : Int) ≤ max x y) = false := decide_eq_false m2
          have e3 : x = y := by omega
          have t3 : (x == y) = true := by rw [beq_iff_eq]; exact e3
          clear e1 m1 m2 e3
          go_quiet (fail)
          go_wp2
          go_ret
          exact ⟨ret_int HR2.out.symm, below_drewT HX4.out.2 _⟩
     case pos =>
      obtain ⟨h1, h2, h3, h4, h5⟩ := e1
      have t1 : decide (min x y < 0) = false := decide_eq_false (by omega)
      have t2 : decide ((s.to_.length : Int) ≤ max x y) = false := decide_eq_false (by omega)
      have t3 : (x == y) = false := beq_eq_false_iff_ne.2 h5
      by_cases hk0 : k = 0
      · subst hk0
        have HT3 := Lib.hid (HT2.out (by rw [Bool.eq_false_iff, Ne, badF_iff]; simp only; omega))
        have t4 : decide ((0 : Int) < ((0 : Nat) : Int)) = false := by decide
        clear HBad HT2 HPr h1 h2 h3 h4 h5
        go_quiet (fail)
        go_wp2
        go_roundw
        case rel => exact ⟨0 + 1, by omega, by go_num, ⟨HX4.out.1.to (below_drewT (Below.refl _ _) _), below_drewT HX4.out.2 _⟩, HT3.out⟩
        case measure => simp [intOf]; omega
      · obtain ⟨j, rfl⟩ : ∃ j, k = j + 1 := ⟨k - 1, by omega⟩
        obtain ⟨q, hqe, r0, r1⟩ := HPr.out (by omega)
        simp only [Nat.add_sub_cancel] at hqe r0 r1
        obtain ⟨u, v⟩ := q
        simp only at r0 r1
        have t4 : decide ((0 : Int) < ((j + 1 : Nat) : Int)) = true := decide_eq_true (by omega)
        have t4' : decide (0 < j + 1) = true := decide_eq_true (by omega)
        have hkl1 : j < s.first.length := by omega
        have hw1 : IntKind.i64.wrap (((j + 1 : Nat) : Int) - 1) = (j : Int) := by rw [show ((j + 1 : Nat) : Int) - 1 = (j : Int) by omega]; exact IntWalk.i64_in _ (by omega)
        have hw2 : IntKind.i64.wrap (j : Int) = (j : Int) := IntWalk.i64_in _ (by omega)
        have hw3 : IntKind.i64.wrap ((j : Int) + 1 - 1) = (j : Int) := by rw [show (j : Int) + 1 - 1 = (j : Int) by omega]; exact hw2
        have hi0 : (0 : Int) ≤ (j : Int) := by omega
        have hi1 : (j : Int) < (s.first.length : Int) := by omega
        have r0' := (bcell HB4.out (lt_of_cell r0) _).trans r0
        have r1' := (bcell HB4.out (lt_of_cell r1) _).trans r1
        have HCp : Hid (∀ W, W.cell? ⟨xb, 0, none⟩ = some (.int .i64 x) → W.cell? ⟨xb, 1, none⟩ = some (.int .i64 y) → W.cell? ⟨b, off + j * 2, none⟩ = some (.int .i64 u) → W.cell? ⟨b, off + j * 2 + 1, none⟩ = some (.int .i64 v) → Calls Tryz.prog 42 #[.slice (some ⟨b, off + j * 2, none⟩) 2 2, .slice (some ⟨xb, 0, none⟩) 2 2] W fun e w' => e = .returned (.int .i64 (cmpP (u, v) (x, y))) ∧ w' = W) := fun W a1 a2 a3 a4 => scmp_any b (off + j * 2) 2 xb 0 2 (u, v) (x, y) W a3 a4 a1 a2
        have hge := cmpP_ge (u, v) (x, y)
        obtain ⟨cv, hcv⟩ : ∃ cv, cv = cmpP (u, v) (x, y) := ⟨_, rfl⟩
        rw [← hcv] at hge
        simp only [← hcv] at HCp
        clear r0 r1 HPr hcv
        have HCp2 : Hid (∀ W', (W'.cell? ⟨xb, 0, none⟩ = some (.int .i64 x) ∧ W'.cell? ⟨xb, 1, none⟩ = some (.int .i64 y) ∧ W'.cell? ⟨pb, 1, none⟩ = some (.slice (some ⟨b, off, none⟩) s.first.length fc) ∧ W'.cell? ⟨b, off + j * 2, none⟩ = some (.int .i64 u) ∧ W'.cell? ⟨b, off + j * 2 + 1, none⟩ = some (.int .i64 v) ∧ Below W4.heap.size W4 W') → Calls Tryz.prog 42 #[.slice (some ⟨b, off + j * 2, none⟩) 2 2, .slice (some ⟨xb, 0, none⟩) 2 2] W' fun e w' => e = .returned (.int .i64 cv) ∧ w' = W') := fun W' h => HCp.out W' h.1 h.2.1 h.2.2.2.1 h.2.2.2.2.1
        have HS0 : Hid (W4.cell? ⟨xb, 0, none⟩ = some (.int .i64 x) ∧ W4.cell? ⟨xb, 1, none⟩ = some (.int .i64 y) ∧ W4.cell? ⟨pb, 1, none⟩ = some (.slice (some ⟨b, off, none⟩) s.first.length fc) ∧ W4.cell? ⟨b, off + j * 2, none⟩ = some (.int .i64 u) ∧ W4.cell? ⟨b, off + j * 2 + 1, none⟩ = some (.int .i64 v) ∧ Below W4.heap.size W4 W4) := ⟨y0, y1, c1, r0', r1', Below.refl _ _⟩
        have HKp : Hid ((W4.cell? ⟨xb, 0, none⟩ = some (.int .i64 x) ∧ W4.cell? ⟨xb, 1, none⟩ = some (.int .i64 y) ∧ W4.cell? ⟨pb, 1, none⟩ = some (.slice (some ⟨b, off, none⟩) s.first.length fc) ∧ W4.cell? ⟨b, off + j * 2, none⟩ = some (.int .i64 u) ∧ W4.cell? ⟨b, off + j * 2 + 1, none⟩ = some (.int .i64 v) ∧ Below W4.heap.size W4 W4) → W4.drew.cell? ⟨xb, 0, none⟩ = some (.int .i64 x) ∧ W4.drew.cell? ⟨xb, 1, none⟩ = some (.int .i64 y) ∧ W4.drew.cell? ⟨pb, 1, none⟩ = some (.slice (some ⟨b, off, none⟩) s.first.length fc) ∧ W4.drew.cell? ⟨b, off + j * 2, none⟩ = some (.int .i64 u) ∧ W4.drew.cell? ⟨b, off + j * 2 + 1, none⟩ = some (.int .i64 v) ∧ Below W4.heap.size W4 W4.drew) := fun h => ⟨h.1, h.2.1, h.2.2.1, h.2.2.2.1, h.2.2.2.2.1, Below.drew (Below.refl _ _)⟩
        cases hlt2 : ltP (u, v) (x, y) with
        | true =>
          rw [hlt2] at hge
          have t5 : decide (0 ≤ cv) = false := hge
          have HT3 := Lib.hid (HT2.out (by
           rw [Bool.eq_false_iff, Ne, badF_iff, Nat.add_sub_cancel, hqe]
           rintro (h | ⟨-, h⟩)
           · simp only at h; omega
           · rw [hlt2] at h; cases h))
          clear HBad HT2 hqe hlt2 hge h1 h2 h3 h4 h5 HCp hk0
          go_region_held3 (fun W' => W'.cell? ⟨xb, 0, none⟩ = some (.int .i64 x) ∧ W'.cell? ⟨xb, 1, none⟩ = some (.int .i64 y) ∧ W'.cell? ⟨pb, 1, none⟩ = some (.slice (some ⟨b, off, none⟩) s.first.length fc) ∧ W'.cell? ⟨b, off + j * 2, none⟩ = some (.int .i64 u) ∧ W'.cell? ⟨b, off + j * 2 + 1, none⟩ = some (.int .i64 v) ∧ Below W4.heap.size W4 W')
           (first | exact HKp.out HS0.out | exact (by assumption) | fail)
           (first | (go_at_call 42; refine (HCp2.out _ (by assumption)).mono ?_; rintro e w' ⟨rfl, rfl⟩))
          rename_i hS1
          have HB9 := Lib.hid hS1.2.2.2.2.2
          clear hS1 HS0 HKp y0 y1 c1 r0' r1'
          go_wp2
          go_roundw
          case rel => exact ⟨j + 1 + 1, by omega, by go_num, ⟨HX4.out.1.to HB9.out, HX4.out.2.trans (HB9.out.mono HX4.out.2.size)⟩, HT3.out⟩
          case measure => simp [intOf]; omega
        | false =>
          rw [hlt2] at hge
          have t5 : decide (0 ≤ cv) = true := hge
          have HR2 := Lib.hid (HBad.out (badF_iff.2 (Or.inr ⟨by omega, by rw [Nat.add_sub_cancel, hqe]; exact hlt2⟩)))
          clear HBad HT2 hqe hlt2 hge h1 h2 h3 h4 h5 HCp hk0
          go_region_held3 (fun W' => W'.cell? ⟨xb, 0, none⟩ = some (.int .i64 x) ∧ W'.cell? ⟨xb, 1, none⟩ = some (.int .i64 y) ∧ W'.cell? ⟨pb, 1, none⟩ = some (.slice (some ⟨b, off, none⟩) s.first.length fc) ∧ W'.cell? ⟨b, off + j * 2, none⟩ = some (.int .i64 u) ∧ W'.cell? ⟨b, off + j * 2 + 1, none⟩ = some (.int .i64 v) ∧ Below W4.heap.size W4 W')
           (first | exact HKp.out HS0.out | exact (by assumption) | fail)
           (first | (go_at_call 42; refine (HCp2.out _ (by assumption)).mono ?_; rintro e w' ⟨rfl, rfl⟩))
          rename_i hS1
          have HB9 := Lib.hid hS1.2.2.2.2.2
          clear hS1 HS0 HKp y0 y1 c1 r0' r1'
          go_wp2
          go_ret
          exact ⟨ret_int HR2.out.symm, HX4.out.2.trans (HB9.out.mono HX4.out.2.size)⟩
end Go.Proofs.YtflpikickbellaaGreat
