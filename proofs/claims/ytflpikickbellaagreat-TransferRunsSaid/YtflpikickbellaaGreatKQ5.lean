/- Layer 32: the reference's ready. Layer 32: the reference's Check. -/
import Derived.Test.YtflpikickbellaaGreatKQ4
namespace Go.Proofs.YtflpikickbellaaGreat
open Go.RowKit Go.Shelf Go.Sort
set_option maxRecDepth 100000

/-- Which loops have come, as a row of Bools. -/
def CmAt (gb n : Nat) (come : Nat → Bool) (W : World) : Prop := gb < W.heap.size ∧ ∀ i, i < n → W.cell? ⟨gb, i, none⟩ = some (.bool (come i))
theorem CmAt.to {gb n : Nat} {come : Nat → Bool} {W W' : World} (h : CmAt gb n come W) (hb : Below W.heap.size W W') : CmAt gb n come W' :=
  ⟨Nat.lt_of_lt_of_le h.1 hb.size, fun i hi => (bcell hb h.1 _).trans (h.2 i hi)⟩
/-- None of the first k has it. -/
def noneTo {α : Type} (f : α → Bool) (l : List α) (k : Nat) : Prop := ∀ (j : Nat) (p : α), j < k → l[j]? = some p → f p = false
theorem noneTo_zero {α : Type} (f : α → Bool) (l : List α) : noneTo f l 0 := fun j _ hj => absurd hj (Nat.not_lt_zero j)
theorem noneTo_next {α : Type} {f : α → Bool} {l : List α} {k : Nat} {p : α} (h : noneTo f l k) (hp : l[k]? = some p) (hf : f p = false) : noneTo f l (k + 1) := fun j q hj hq => by
  by_cases e : j = k
  · subst e; rw [hp] at hq; cases hq; exact hf
  · exact h j q (by omega) hq
theorem noneTo_all {α : Type} {f : α → Bool} {l : List α} {k : Nat} (h : noneTo f l k) (hk : l.length ≤ k) : l.any f = false := by
  rw [List.any_eq_false]
  intro p hp
  obtain ⟨j, hj⟩ := List.mem_iff_getElem?.1 hp
  rw [h j p (by have := (List.getElem?_eq_some_iff.1 hj).1; omega) hj]
  simp
theorem readyN_false {s : Sft} {come : Nat → Bool} {stop : Int} {k : Nat} {p : Int × Int} (hp : s.first[k]? = some p) (h : holdsS s come stop p = true) : readyN s come stop = false := by
  unfold readyN
  rw [List.any_eq_true.2 ⟨p, List.mem_of_getElem? hp, h⟩]; rfl
end Go.Proofs.YtflpikickbellaaGreat
namespace Go.Proofs.YtflpikickbellaaGreat
open Go.RowKit Go.Shelf Go.Sort
set_option maxRecDepth 100000

theorem sftE_many {s : Sft} (h : 40 < s.n) : sftE s = 4 := by unfold sftE; rw [if_pos h]
theorem sftE_to {s : Sft} (h : ¬ 40 < s.n) {i : Nat} (hi : i < s.n) (hb : badT (s.to_.getD i 0) i = true) : sftE s = 8 := by
  have hx : ((List.range s.n).any fun i => badT (s.to_.getD i 0) i) = true := List.any_eq_true.2 ⟨i, List.mem_range.2 hi, hb⟩
  unfold sftE
  rw [if_neg h, if_pos hx]
theorem sftE_fr {s : Sft} (h : ¬ 40 < s.n) (ht : ∀ i, i < s.n → badT (s.to_.getD i 0) i = false) {i : Nat} {p : Int × Int} (hp : s.first[i]? = some p) (hb : badF s i p = true) : sftE s = 8 := by
  have hi := (List.getElem?_eq_some_iff.1 hp).1
  have hx : ((List.range s.first.length).any fun i => badF s i (s.first.getD i (0, 0))) = true := List.any_eq_true.2 ⟨i, List.mem_range.2 hi, by rw [List.getD_eq_getElem?_getD, hp]; exact hb⟩
  unfold sftE
  rw [if_neg h, if_neg (by rw [Bool.not_eq_true, List.any_eq_false]; intro j hj; rw [ht j (List.mem_range.1 hj)]; simp), if_pos hx]
theorem sftE_zero {s : Sft} (h : ¬ 40 < s.n) (ht : ∀ i, i < s.n → badT (s.to_.getD i 0) i = false) (hf : ∀ (i : Nat) (p : Int × Int), s.first[i]? = some p → badF s i p = false) : sftE s = 0 := by
  unfold sftE
  rw [if_neg h, if_neg (by rw [Bool.not_eq_true, List.any_eq_false]; intro j hj; rw [ht j (List.mem_range.1 hj)]; simp), if_neg (by
    rw [Bool.not_eq_true, List.any_eq_false]
    intro j hj
    have hjl := List.mem_range.1 hj
    rw [List.getD_eq_getElem?_getD, List.getElem?_eq_getElem hjl, Option.getD_some, hf j _ (List.getElem?_eq_getElem hjl)]
    simp)]
theorem badT_iff {t : Int} {i : Nat} : badT t i = true ↔ t < 0 ∨ 100 < t ∨ t - i < -8 ∨ 8 < t - i := by
  unfold badT
  simp only [Bool.or_eq_true, decide_eq_true_eq]
  omega
theorem badF_iff {s : Sft} {i : Nat} {p : Int × Int} : badF s i p = true ↔ (p.1 < 0 ∨ (s.to_.length : Int) ≤ p.1 ∨ p.2 < 0 ∨ (s.to_.length : Int) ≤ p.2 ∨ p.1 = p.2) ∨ 0 < i ∧ ltP (s.first.getD (i - 1) (0, 0)) p = false := by
  unfold badF
  simp only [Bool.or_eq_true, Bool.and_eq_true, decide_eq_true_eq, Bool.not_eq_true']
  have e : s.n = s.to_.length := rfl
  rw [e]
  constructor
  · rintro (((h | h) | h) | h)
    · left; omega
    · left; omega
    · left; omega
    · right; exact h
  · rintro (h | h)
    · left
      by_cases h1 : p.1 = p.2
      · right; exact h1
      · left; omega
    · right; exact h
theorem ltP_iff {p q : Int × Int} : ltP p q = true ↔ p.1 < q.1 ∨ p.1 = q.1 ∧ p.2 < q.2 := by
  unfold ltP
  simp only [Bool.or_eq_true, Bool.and_eq_true, decide_eq_true_eq]
set_option maxHeartbeats 16000000 in
theorem rchk_any (A F : Option Addr) (c fc : Nat) (s : Sft) (hl : s.to_.length ≤ 4611686018427387904) (hf : s.first.length ≤ 4611686018427387904) (w : World) (h : SfAt A F s w) :
    Calls Tryz.prog 7 #[sftV A F c fc s] w fun e w' => e = .returned (.int .i64 (sftE s)) ∧ Below w.heap.size w w' := by
  have hb0 := al_t w (sftB A F c fc s)
  have HX0 : Hid (SfBx w.heap.size A F c fc s (w.alloc (sftB A F c fc s)) ∧ Below w.heap.size w (w.alloc (sftB A F c fc s))) := ⟨SfBx.new c fc h, hb0⟩
  have c0 := HX0.out.1.c0
  have c1 := HX0.out.1.c1
  obtain ⟨r, hr⟩ : ∃ r, r = sftE s := ⟨_, rfl⟩
  have HR : Hid (r = sftE s) := hr
  rw [← hr]
  obtain ⟨pb, hpb⟩ : ∃ pb, pb = w.heap.size := ⟨_, rfl⟩
  clear h hb0 hr
  by_cases h40 : 40 < s.to_.length
  case pos =>
    have d1 : decide (40 < s.to_.length) = true := decide_eq_true h40
    have d2 : decide ((40 : Int) < (s.to_.length : Int)) = true := decide_eq_true (by omega)
    have HR2 : Hid (r = 4) := by show _ = _; rw [HR.out, sftE_many h40]
    clear h40 HR hpb
    go_enter Tryz.func7, Tryz.ntmps7
    go_wp2
    go_ret
    exact ⟨ret_int HR2.out.symm, HX0.out.2⟩
  case neg =>
  have d1 : decide (40 < s.to_.length) = false := decide_eq_false h40
  have d2 : decide ((40 : Int) < (s.to_.length : Int)) = false := decide_eq_false (by omega)
  have HTo := Lib.hid (fun (i : Nat) (hi : i < s.n) hb => sftE_to (s := s) h40 (i := i) hi hb)
  have HFr := Lib.hid (fun ht (i : Nat) (p : Int × Int) hp hb => sftE_fr (s := s) h40 ht (i := i) (p := p) hp hb)
  have HZe := Lib.hid (fun ht hf => sftE_zero (s := s) h40 ht hf)
  have h40' : s.to_.length ≤ 40 := by omega
  go_enter Tryz.func7, Tryz.ntmps7
  go_upto_region 4 with fail
  refine abs_world (Q := fun W => Code.wp _ _ _ _ W) (F := fun W => SfBx w.heap.size A F c fc s W ∧ Below w.heap.size w W) _ HX0.out ?_
  clear HX0 c0 c1 d1 d2 h40
  rintro W1 ⟨hx, hb1⟩
  rw [← hpb] at hx ⊢
  have HX1 := Lib.hid (And.intro hx hb1)
  clear hx hb1 hpb
  go_wp2
  go_loopw [4] (fun s4 wr => ∃ i : Nat, i ≤ s.to_.length ∧ s4 = .int .i64 (i : Int) ∧ Hid (SfBx pb A F c fc s wr ∧ Below w.heap.size w wr) ∧ Hid (∀ j, j < i → badT (s.to_.getD j 0) j = false)) (fun s4 _ => s.to_.length - (intOf s4).toNat)
  case atStart => exact ⟨0, Nat.zero_le _, rfl, HX1.out, fun j hj => absurd hj (Nat.not_lt_zero j)⟩
  case round =>
    obtain ⟨i, hi, rfl, HX, HT⟩ := hrel
    clear HX1
    obtain ⟨W2, hW2⟩ : ∃ W2 : World, W2 = wr := ⟨_, rfl⟩
    rw [← hW2] at HX ⊢
    clear hW2
    have c0 := HX.out.1.c0
    have c1 := HX.out.1.c1
    by_cases hlt : i < s.to_.length
    case pos =>
      obtain ⟨b, off, hA, hcl⟩ := HX.out.1.to_at hlt
      have HXn : Hid (∀ W, Below W2.heap.size W2 W → SfBx pb A F c fc s W ∧ Below w.heap.size w W) := fun W hb => ⟨HX.out.1.to hb, HX.out.2.trans (hb.mono HX.out.2.size)⟩
      have hOf : 0 ≤ s.to_.getD i 0 → s.to_.getD i 0 ≤ 100 → ∀ W, Below W2.heap.size W2 W → Calls Tryz.prog 24 #[sftV A F c fc s, .int .i64 (i : Int)] W fun e w' => e = .returned (.int .i64 (s.to_.getD i 0 - (i : Int))) ∧ Below W.heap.size W w' := fun h0 h1 W hb => roff_any A F c fc s i hlt h0 h1 (by show s.to_.length ≤ 1000; omega) W (HX.out.1.at_.to hb)
      have HXs : Hid (∀ W, Below W2.heap.size W2 W → W.cell? ⟨pb, 0, none⟩ = some (.slice A s.to_.length c) ∧ W.cell? ⟨pb, 1, none⟩ = some (.slice F s.first.length fc)) := fun W hb => ⟨(HX.out.1.to hb).c0, (HX.out.1.to hb).c1⟩
      have HBad : Hid (badT (s.to_.getD i 0) i = true → r = 8) := fun hb => HR.out.trans (HTo.out i hlt hb)
      have HT2 : Hid (badT (s.to_.getD i 0) i = false → ∀ j, j < i + 1 → badT (s.to_.getD j 0) j = false) := fun hb j hj => by
        by_cases e : j = i
        · subst e; exact hb
        · exact HT.out j (by omega)
      obtain ⟨z, hz⟩ : ∃ z, z = s.to_.getD i 0 := ⟨_, rfl⟩
      rw [← hz] at hcl hOf HBad HT2
      subst hA
      have HOf := Lib.hid hOf
      clear hOf hz HT
      have hcase : z < 0 ∨ (0 ≤ z ∧ 100 < z) ∨ (0 ≤ z ∧ z ≤ 100) := by omega
      rcases hcase with h1 | ⟨h1, h2⟩ | ⟨h1, h2⟩
      · have HR2 := Lib.hid (HBad.out (badT_iff.2 (by omega)))
        clear HBad HT2
        go_wp2
        go_ret
        exact ⟨ret_int HR2.out.symm, HX.out.2⟩
      · have HR2 := Lib.hid (HBad.out (badT_iff.2 (by omega)))
        clear HBad HT2
        go_wp2
        go_ret
        exact ⟨ret_int HR2.out.symm, HX.out.2⟩
      · have HOz := Lib.hid (HOf.out h1 h2)
        clear HOf
        by_cases h3 : z - (i : Int) < -8
        · have d3 : decide (z - (i : Int) < -8) = true := decide_eq_true h3
          have HR2 := Lib.hid (HBad.out (badT_iff.2 (by omega)))
          obtain ⟨o, ho⟩ : ∃ o, o = z - (i : Int) := ⟨_, rfl⟩
          rw [← ho] at d3
          simp only [← ho] at HOz
          clear HBad HT2 h3 ho
          go_wp2_with fail
          refine (HOz.out W2 (Below.refl _ _)).mono ?_
          rintro e w3 ⟨rfl, hb3⟩
          have HB3 := Lib.hid hb3
          clear hb3
          go_wp2
          go_ret
          exact ⟨ret_int HR2.out.symm, (HXn.out w3 HB3.out).2⟩
        · have d3 : decide (z - (i : Int) < -8) = false := decide_eq_false h3
          by_cases h4 : 8 < z - (i : Int)
          · have d4 : decide (8 < z - (i : Int)) = true := decide_eq_true h4
            have HR2 := Lib.hid (HBad.out (badT_iff.2 (by omega)))
            obtain ⟨o, ho⟩ : ∃ o, o = z - (i : Int) := ⟨_, rfl⟩
            rw [← ho] at d3 d4
            simp only [← ho] at HOz
            clear HBad HT2 h3 h4 ho
            go_wp2_with fail
            refine (HOz.out W2 (Below.refl _ _)).mono ?_
            rintro e w3 ⟨rfl, hb3⟩
            obtain ⟨e0, e1⟩ := HXs.out w3 hb3
            have HB3 := Lib.hid hb3
            clear hb3 c0 c1
            go_wp2_with fail
            refine (HOz.out w3 HB3.out).mono ?_
            rintro e w4 ⟨rfl, hb4⟩
            have HB4 := Lib.hid (HB3.out.trans (hb4.mono HB3.out.size))
            clear hb4
            go_wp2
            go_ret
            exact ⟨ret_int HR2.out.symm, (HXn.out w4 HB4.out).2⟩
          · have d4 : decide (8 < z - (i : Int)) = false := decide_eq_false h4
            have HT3 := Lib.hid (HT2.out (by rw [Bool.eq_false_iff, Ne, badT_iff]; omega))
            obtain ⟨o, ho⟩ : ∃ o, o = z - (i : Int) := ⟨_, rfl⟩
            rw [← ho] at d3 d4
            simp only [← ho] at HOz
            clear HBad HT2 h3 h4 ho
            go_wp2_with fail
            refine (HOz.out W2 (Below.refl _ _)).mono ?_
            rintro e w3 ⟨rfl, hb3⟩
            obtain ⟨e0, e1⟩ := HXs.out w3 hb3
            have HB3 := Lib.hid hb3
            clear hb3 c0 c1
            go_wp2_with fail
            refine (HOz.out w3 HB3.out).mono ?_
            rintro e w4 ⟨rfl, hb4⟩
            have HB4 := Lib.hid (HB3.out.trans (hb4.mono HB3.out.size))
            clear hb4 e0 e1
            go_wp2
            go_roundw
            case rel => exact ⟨i + 1, by omega, by go_num, HXn.out w4 HB4.out, HT3.out⟩
            case measure => simp [intOf]; omega
    case neg =>
      have HTA : Hid (∀ i, i < s.n → badT (s.to_.getD i 0) i = false) := fun j hj => HT.out j (by have e : s.n = s.to_.length := rfl; omega)
      clear HT HTo
      go_upto_region 9 with fail
      go_wp2
      go_loopw [5] (fun s5 wr => ∃ k : Nat, k ≤ s.first.length ∧ s5 = .int .i64 (k : Int) ∧ Hid (SfBx pb A F c fc s wr ∧ Below w.heap.size w wr) ∧ Hid (∀ (j : Nat) (p : Int × Int), j < k → s.first[j]? = some p → badF s j p = false)) (fun s5 _ => s.first.length - (intOf s5).toNat)
      case atStart => exact ⟨0, Nat.zero_le _, rfl, HX.out, fun j p hj => absurd hj (Nat.not_lt_zero j)⟩
      case round =>
        obtain ⟨k, hk, rfl, HX3, HT⟩ := hrel
        clear HX c0 c1
        obtain ⟨W3, hW3⟩ : ∃ W3 : World, W3 = wr := ⟨_, rfl⟩
        rw [← hW3] at HX3 ⊢
        clear hW3
        have c0 := HX3.out.1.c0
        have c1 := HX3.out.1.c1
        by_cases hkl : k < s.first.length
        case neg =>
          have HR2 : Hid (r = 0) := by
            show _ = _
            rw [HR.out]
            exact HZe.out HTA.out fun j p hp => HT.out j p (by have := (List.getElem?_eq_some_iff.1 hp).1; omega) hp
          clear HT
          go_wp2
          go_ret
          exact ⟨ret_int HR2.out.symm, HX3.out.2⟩
        case pos =>
          obtain ⟨b, off, p, rfl, -, hp, q0, q1⟩ := HX3.out.1.at_.fr.at_ hkl
          have HPk := Lib.hid hp
          have HBad : Hid (badF s k p = true → r = 8) := fun hb => HR.out.trans (HFr.out HTA.out k p hp hb)
          have HT2 : Hid (badF s k p = false → ∀ (j : Nat) (q : Int × Int), j < k + 1 → s.first[j]? = some q → badF s j q = false) := fun hb j q hj hq => by
            by_cases e : j = k
            · subst e; rw [HPk.out] at hq; cases hq; exact hb
            · exact HT.out j q (by omega) hq
          have HPr : Hid (0 < k → ∃ q : Int × Int, s.first.getD (k - 1) (0, 0) = q ∧ (∀ o, (W3.alloc o).cell? ⟨b, off + (k - 1) * 2, none⟩ = some (.int .i64 q.1)) ∧ ∀ o, (W3.alloc o).cell? ⟨b, off + (k - 1) * 2 + 1, none⟩ = some (.int .i64 q.2)) := fun h0 => by
            obtain ⟨b', off', q, e, -, hq, r0, r1⟩ := HX3.out.1.at_.fr.at_ (k := k - 1) (by omega)
            cases e
            exact ⟨q, by rw [List.getD_eq_getElem?_getD, hq]; rfl, fun o => (bcell (al_t W3 o) (lt_of_cell r0) _).trans r0, fun o => (bcell (al_t W3 o) (lt_of_cell r0) _).trans r1⟩
          have HAl : Hid (∀ o, SfBx pb A (some ⟨b, off, none⟩) c fc s (W3.alloc o) ∧ Below w.heap.size w (W3.alloc o)) := fun o => ⟨HX3.out.1.to (al_t W3 o), HX3.out.2.trans ((al_t W3 o).mono HX3.out.2.size)⟩
          have HAl2 : Hid (∀ o o2, SfBx pb A (some ⟨b, off, none⟩) c fc s ((W3.alloc o).alloc o2) ∧ Below w.heap.size w ((W3.alloc o).alloc o2)) := fun o o2 => ⟨(HAl.out o).1.to (al_t _ o2), (HAl.out o).2.trans ((al_t _ o2).mono (HAl.out o).2.size)⟩
          have e10 : ∀ o, (W3.alloc o).cell? ⟨pb, 0, none⟩ = some (.slice A s.to_.length c) := fun o => (HAl.out o).1.c0
          have e11 : ∀ o, (W3.alloc o).cell? ⟨pb, 1, none⟩ = some (.slice (some ⟨b, off, none⟩) s.first.length fc) := fun o => (HAl.out o).1.c1
          clear hp HT
          by_cases e1 : 0 ≤ p.1 ∧ p.1 < (s.to_.length : Int) ∧ 0 ≤ p.2 ∧ p.2 < (s.to_.length : Int) ∧ p.1 ≠ p.2
          case neg =>
            have HR2 := Lib.hid (HBad.out (badF_iff.2 (Or.inl (by omega))))
            have hcase : p.1 < 0 ∨ (0 ≤ p.1 ∧ (s.to_.length : Int) ≤ p.1) ∨ (0 ≤ p.1 ∧ p.1 < (s.to_.length : Int) ∧ p.2 < 0) ∨ (0 ≤ p.1 ∧ p.1 < (s.to_.length : Int) ∧ 0 ≤ p.2 ∧ (s.to_.length : Int) ≤ p.2) ∨ (0 ≤ p.1 ∧ p.1 < (s.to_.length : Int) ∧ 0 ≤ p.2 ∧ p.2 < (s.to_.length : Int) ∧ p.1 = p.2) := by omega
            clear e1 HBad HT2 HPr
            obtain ⟨x, y⟩ := p
            simp only at hcase q0 q1
            rcases hcase with h1 | ⟨h1, h2⟩ | ⟨h1, h2, h3⟩ | ⟨h1, h2, h3, h4⟩ | ⟨h1, h2, h3, h4, h5⟩
            · go_wp2
              go_ret
              exact ⟨ret_int HR2.out.symm, (HAl.out _).2⟩
            · go_wp2
              go_ret
              exact ⟨ret_int HR2.out.symm, (HAl.out _).2⟩
            · go_wp2
              go_ret
              exact ⟨ret_int HR2.out.symm, (HAl.out _).2⟩
            · go_wp2
              go_ret
              exact ⟨ret_int HR2.out.symm, (HAl.out _).2⟩
            · have d5 : (x == y) = true := by rw [beq_iff_eq]; exact h5
              subst h5
              go_wp2
              go_ret
              exact ⟨ret_int HR2.out.symm, (HAl.out _).2⟩
          case pos =>
            obtain ⟨h1, h2, h3, h4, h5⟩ := e1
            have d5 : (p.1 == p.2) = false := beq_eq_false_iff_ne.2 h5
            by_cases hk0 : k = 0
            · subst hk0
              have HT3 := Lib.hid (HT2.out (by rw [Bool.eq_false_iff, Ne, badF_iff]; omega))
              clear HBad HT2 HPr h5
              obtain ⟨x, y⟩ := p
              simp only at h1 h2 h3 h4 d5 q0 q1
              simp only [Nat.zero_mul, Nat.add_zero] at q0 q1
              go_wp2
              go_roundw
              case rel => exact ⟨0 + 1, by omega, by go_num, HAl.out _, HT3.out⟩
              case measure => simp [intOf]; omega
            · obtain ⟨q, hqe, r0, r1⟩ := HPr.out (by omega)
              have hk1 : (k : Int) - 1 = ((k - 1 : Nat) : Int) := by omega
              have hkl1 : k - 1 < s.first.length := by omega
              have hk1p : (0 : Int) < (k : Int) := by omega
              have hlts : (q.1 < p.1) ∨ (p.1 < q.1) ∨ (q.1 = p.1 ∧ p.2 ≤ q.2) ∨ (q.1 = p.1 ∧ q.2 < p.2) := by omega
              clear HPr
              rcases hlts with g1 | g1 | ⟨g1, g2⟩ | ⟨g1, g2⟩
              · have HT3 := Lib.hid (HT2.out (by
                  rw [Bool.eq_false_iff, Ne, badF_iff, hqe]
                  rintro (h | ⟨-, h⟩)
                  · omega
                  · rw [ltP_iff.2 (Or.inl g1)] at h; cases h))
                have d6 : (q.1 == p.1) = false := by rw [beq_eq_false_iff_ne]; omega
                clear HBad HT2 hqe h5
                obtain ⟨x, y⟩ := p
                obtain ⟨u, v⟩ := q
                simp only at h1 h2 h3 h4 d5 d6 q0 q1 r0 r1 g1
                go_wp2
                go_roundw
                case rel => exact ⟨k + 1, by omega, by go_num, HAl2.out _ _, HT3.out⟩
                case measure => simp [intOf]; omega
              · have HR2 := Lib.hid (HBad.out (badF_iff.2 (Or.inr ⟨by omega, by
                  rw [hqe, Bool.eq_false_iff, Ne, ltP_iff]; omega⟩)))
                clear HBad HT2 hqe h5
                obtain ⟨x, y⟩ := p
                obtain ⟨u, v⟩ := q
                simp only at h1 h2 h3 h4 d5 q0 q1 r0 r1 g1
                go_wp2
                go_ret
                exact ⟨ret_int HR2.out.symm, (HAl2.out _ _).2⟩
              · have HR2 := Lib.hid (HBad.out (badF_iff.2 (Or.inr ⟨by omega, by
                  rw [hqe, Bool.eq_false_iff, Ne, ltP_iff]; omega⟩)))
                clear HBad HT2 hqe h5
                obtain ⟨x, y⟩ := p
                obtain ⟨u, v⟩ := q
                simp only at h1 h2 h3 h4 d5 q0 q1 r0 r1 g1 g2
                subst g1
                go_wp2
                go_ret
                exact ⟨ret_int HR2.out.symm, (HAl2.out _ _).2⟩
              · have HT3 := Lib.hid (HT2.out (by
                  rw [Bool.eq_false_iff, Ne, badF_iff, hqe]
                  rintro (h | ⟨-, h⟩)
                  · omega
                  · rw [ltP_iff.2 (Or.inr ⟨g1, g2⟩)] at h; cases h))
                clear HBad HT2 hqe h5
                obtain ⟨x, y⟩ := p
                obtain ⟨u, v⟩ := q
                simp only at h1 h2 h3 h4 d5 q0 q1 r0 r1 g1 g2
                subst g1
                go_wp2
                go_roundw
                case rel => exact ⟨k + 1, by omega, by go_num, HAl2.out _ _, HT3.out⟩
                case measure => simp [intOf]; omega
end Go.Proofs.YtflpikickbellaaGreat
