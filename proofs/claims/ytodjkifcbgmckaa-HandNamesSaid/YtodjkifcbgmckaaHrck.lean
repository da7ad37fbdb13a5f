/- Layer 29: the reference's Check, walked. -/
import Derived.Test.YtodjkifcbgmckaaHck
namespace Go.Proofs.Ytodjkifcbgmckaa
open Go.RowKit Go.Shelf Go.Sort
set_option maxRecDepth 100000

/-- A row of Bools, in a block of the call's own. -/
def rowBo (b n : Nat) (l : List Bool) : Own := ⟨4, 1, n, .slice (some ⟨b, 0, none⟩) n n, l.map Value.bool⟩
theorem rowBo_at {w : World} {B b n : Nat} {l : List Bool} (h : (rowBo b n l).lies w B) (hl : l.length = n) {k : Nat} (hk : k < n) : w.cell? ⟨b, k, none⟩ = some (.bool (l.getD k false)) ∧ w.frozen? ⟨b, k, none⟩ = false := by
  have h0 : w.ownsRow B 4 1 (.slice (some ⟨b, 0, none⟩) n n) n (l.map Value.bool) := h
  refine ⟨?_, h0.frozenAt k⟩
  rw [h0.cellAt k (by omega), List.getElem?_map, List.getD_eq_getElem?_getD, List.getElem?_eq_getElem (by omega)]
  rfl
theorem rowBo_put {w : World} {B b n : Nat} {l : List Bool} (h : (rowBo b n l).lies w B) (k : Nat) (x : Bool) : (rowBo b n (l.set k x)).lies (w.setCell ⟨b, k, none⟩ (.bool x)) B := by
  have h0 : w.ownsRow B 4 1 (.slice (some ⟨b, 0, none⟩) n n) n (l.map Value.bool) := h
  have h1 := (World.ownsRow.stored h0 k (.bool x)).1
  show World.ownsRow _ B _ 1 _ n ((l.set k x).map Value.bool)
  rw [List.map_set]
  exact h1
theorem info_boo : (Try.prog.info? 4).map (fun i => (i.zero, i.size, i.bytes)) = some (some (.bool false), 1, 1) := by kernel_rfl
theorem mk_bools (w : World) (n : Nat) (hn : n ≤ 1000000) : ∃ w', (Instr.makeSlice 85 (.int .i64 (n : Int)) (.int .i64 (n : Int))).run Try.prog w = .ok (.slice (some ⟨w.heap.size, 0, none⟩) n n) w' ∧ (rowBo w.heap.size n (List.replicate n false)).lies w' w.heap.size ∧ Below w.heap.size w w' := by
  obtain ⟨i1, hi', hz0', hz1', hz2'⟩ := info_parts info_boo
  obtain ⟨w3, hmr, hob, hgb⟩ := run_make_full (P := Try.prog) w w.heap.size 85 4 i1 (.bool false) 1 Try.underlying85 hi' hz0' hz1' .i64 .i64 n (by rw [hz2']; omega) (by unfold maxLen; omega) (Nat.le_refl _)
  refine ⟨w3, hmr, ?_, (Below.refl _ w).grown hgb (Nat.le_refl _) (fun k e => by cases e)⟩
  have e : (madeCells (Value.bool false).cells (n * 1)).toList = (List.replicate n false).map Value.bool := by
    rw [Nat.mul_one, List.map_replicate]
    exact toList_madeCells_one _ _
  rw [e] at hob
  exact hob
/-- Which numbers have been met. -/
def seenTo (l : List Int) (i : Nat) (s : List Bool) : Prop := s.length = l.length ∧ ∀ k, k < l.length → (s.getD k false = true ↔ ∃ j, j < i ∧ l[j]? = some (k : Int))
theorem seen_zero (l : List Int) : seenTo l 0 (List.replicate l.length false) := ⟨List.length_replicate .., fun k hk => by
  rw [List.getD_eq_getElem?_getD, List.getElem?_eq_getElem (by simpa using hk), List.getElem_replicate]
  exact ⟨fun h => by simp at h, fun ⟨j, hj, _⟩ => absurd hj (Nat.not_lt_zero j)⟩⟩
theorem seen_next {l : List Int} {i x : Nat} {s : List Bool} (h : seenTo l i s) (hx : l[i]? = some (x : Int)) (hl : x < l.length) : seenTo l (i + 1) (s.set x true) := by
  refine ⟨by rw [List.length_set]; exact h.1, fun k hk => ?_⟩
  by_cases e : x = k
  · subst e
    rw [List.getD_eq_getElem?_getD, List.getElem?_set_self (by rw [h.1]; exact hl)]
    exact ⟨fun _ => ⟨i, by omega, hx⟩, fun _ => rfl⟩
  · rw [List.getD_eq_getElem?_getD, List.getElem?_set_ne e, ← List.getD_eq_getElem?_getD, h.2 k hk]
    constructor
    · rintro ⟨j, hj, hy⟩; exact ⟨j, by omega, hy⟩
    · rintro ⟨j, hj, hy⟩
      by_cases ej : j = i
      · subst ej
        rw [hx] at hy
        exact absurd (by have := Option.some.inj hy; omega) e
      · exact ⟨j, by omega, hy⟩
theorem permTo_zero (l : List Int) : permTo l 0 := fun j _ hj => absurd hj (Nat.not_lt_zero j)
theorem permTo_next {l : List Int} {i x : Nat} {s : List Bool} (h : permTo l i) (hs : seenTo l i s) (hx : l[i]? = some (x : Int)) (hl : x < l.length) (hn : s.getD x false = false) : permTo l (i + 1) := fun j y hj hy => by
  by_cases e : j = i
  · subst e
    rw [hx] at hy
    obtain rfl : (x : Int) = y := by simpa using hy
    refine ⟨⟨by omega, by omega⟩, fun k hk e => ?_⟩
    have := (hs.2 x hl).2 ⟨k, hk, e⟩
    rw [hn] at this; cases this
  · exact h j y (by omega) hy
theorem perm_seen {l : List Int} {i x : Nat} {s : List Bool} (hs : seenTo l i s) (hx : l[i]? = some (x : Int)) (hl : x < l.length) (hn : s.getD x false = true) : permB l = false := by
  obtain ⟨j, hj, hy⟩ := (hs.2 x hl).1 hn
  exact perm_dup hx hy hj
set_option maxHeartbeats 64000000 in
theorem rcheck_big (A F : Option Addr) (c fc : Nat) (b : Brd) (hf : b.fronts.length ≤ 9223372036854775807) (w : World) (hs : SlI w w.heap.size A b.to_) (hp : SlPr w w.heap.size F b.fronts) :
    Calls Try.prog 20 #[.agg #[.slice A b.to_.length c, .slice F b.fronts.length fc]] w fun e w' => e = .returned (.int .i64 (brdE b)) ∧ Below w.heap.size w w' := by
  have HS := Lib.hid hs
  have HP := Lib.hid hp
  have hb0 : Below w.heap.size w (w.alloc (.cells #[.slice A b.to_.length c, .slice F b.fronts.length fc] 26)) := (Below.refl _ w).alloc (Nat.le_refl _) _
  have HB0 := Lib.hid hb0
  clear hs hp
  by_cases h8 : 8 < b.to_.length
  · have e1 : decide (8 < b.to_.length) = true := decide_eq_true h8
    have e2 : decide ((8 : Int) < (b.to_.length : Int)) = true := decide_eq_true (by omega)
    have HF := Lib.hid (brdE_many h8)
    clear hb0 h8
    go_enter Try.func20, Try.ntmps20
    go_wp2
    go_ret
    exact ⟨ret_int HF.out.symm, HB0.out⟩
  have e1 : decide (8 < b.to_.length) = false := decide_eq_false h8
  have e2 : decide ((8 : Int) < (b.to_.length : Int)) = false := decide_eq_false (by omega)
  have HP8 := Lib.hid (brdE_perm (b := b) h8)
  have HF8 := Lib.hid (fun hp q hf => brdE_fr (b := b) h8 hp (q := q) hf)
  obtain ⟨to_, fr⟩ := b
  have HLt : Hid (to_.length ≤ 8) := by show _ ≤ _; simp only at h8; omega
  have hlt8 := HLt.out
  simp only at hf e1 e2 HB0
  obtain ⟨w1, hm1, hr1, hb1⟩ := mk_bools (w.alloc (.cells #[.slice A to_.length c, .slice F fr.length fc] 26)) to_.length (by omega)
  have HB2 := Lib.hid (HB0.out.trans (hb1.mono HB0.out.size))
  have g0 : w1.cell? ⟨w.heap.size, 0, none⟩ = some (.slice A to_.length c) := (bcell hb1 (by simp) _).trans (cell_new rfl rfl rfl)
  have g1 : w1.cell? ⟨w.heap.size, 1, none⟩ = some (.slice F fr.length fc) := (bcell hb1 (by simp) _).trans (cell_new rfl rfl rfl)
  have HW1 := Lib.hid (And.intro g0 (And.intro g1 (And.intro HB2.out hr1)))
  clear hb0 h8 hr1 hb1 g0 g1 HB2 HB0
  go_enter Try.func20, Try.ntmps20
  go_upto_region 5 with fail
  refine abs_world (Q := fun W => Code.wp _ _ _ _ W) (F := fun W => W.cell? ⟨w.heap.size, 0, none⟩ = some (.slice A to_.length c) ∧ W.cell? ⟨w.heap.size, 1, none⟩ = some (.slice F fr.length fc) ∧ Below w.heap.size w W ∧ (rowBo (w.alloc (.cells #[.slice A to_.length c, .slice F fr.length fc] 26)).heap.size to_.length (List.replicate to_.length false)).lies W (w.alloc (.cells #[.slice A to_.length c, .slice F fr.length fc] 26)).heap.size) _ HW1.out ?_
  clear HW1 hm1 e1 e2
  simp only [World.size_alloc]
  rintro w2 ⟨g0, g1, hb2, hr2⟩
  obtain ⟨gb, hgb⟩ : ∃ gb, gb = w.heap.size + 1 := ⟨_, rfl⟩
  rw [← hgb] at hr2 ⊢
  have hgb1 : w.heap.size + 1 ≤ gb := by omega
  have HW2 := Lib.hid (And.intro g0 (And.intro g1 (And.intro hb2 hr2)))
  clear g0 g1 hb2 hr2 hgb
  go_wp2
  go_loopw [5] (fun s5 wr => ∃ (i : Nat) (s : List Bool), i ≤ to_.length ∧ s5 = .int .i64 (i : Int) ∧ Hid (permTo to_ i) ∧ Hid (seenTo to_ i s) ∧ Hid (wr.cell? ⟨w.heap.size, 0, none⟩ = some (.slice A to_.length c) ∧ wr.cell? ⟨w.heap.size, 1, none⟩ = some (.slice F fr.length fc) ∧ Below w.heap.size w wr ∧ (rowBo gb to_.length s).lies wr gb)) (fun s5 _ => to_.length - (intOf s5).toNat)
  case atStart => exact ⟨0, _, Nat.zero_le _, rfl, permTo_zero _, seen_zero _, HW2.out⟩
  case round =>
    clear HW2
    obtain ⟨i, s, hi, rfl, HT, HSn, HW⟩ := hrel
    obtain ⟨g0, g1, hb2, hr2⟩ := HW.out
    have HB2 := Lib.hid hb2
    have HR2 := Lib.hid hr2
    clear hb2 hr2 HW
    by_cases hlt : i < to_.length
    case pos =>
      obtain ⟨bb, off, x, hA, hBb, hx, hcx⟩ := HS.out.at_ hlt
      subst hA
      have c0 := (bcell HB2.out hBb _).trans hcx
      have HX := Lib.hid hx
      clear hx hcx hBb
      by_cases k0 : x < 0
      · have d0 : decide (x < 0) = true := decide_eq_true k0
        have HF : Hid (brdE ⟨to_, fr⟩ = 8) := HP8.out (perm_out HX.out (by omega))
        clear k0 HT HX HP8 HF8
        go_wp2
        go_ret
        exact ⟨ret_int HF.out.symm, HB2.out⟩
      have d0 : decide (x < 0) = false := decide_eq_false k0
      by_cases k1 : (to_.length : Int) ≤ x
      · have d1 : decide ((to_.length : Int) ≤ x) = true := decide_eq_true k1
        have HF : Hid (brdE ⟨to_, fr⟩ = 8) := HP8.out (perm_out HX.out (by omega))
        clear k0 k1 HT HX HP8 HF8
        go_wp2
        go_ret
        exact ⟨ret_int HF.out.symm, HB2.out⟩
      have d1 : decide ((to_.length : Int) ≤ x) = false := decide_eq_false k1
      obtain ⟨y, rfl⟩ : ∃ y : Nat, x = (y : Int) := ⟨x.toNat, by omega⟩
      have d2 : decide (to_.length ≤ y) = false := decide_eq_false (by omega)
      have hy : y < to_.length := by omega
      obtain ⟨r0, rf⟩ := rowBo_at HR2.out HSn.out.1 hy
      have hyI : (y : Int) < (to_.length : Int) := by omega
      have hy0 : (0 : Int) ≤ (y : Int) := by omega
      cases hsn : s.getD y false with
      | true =>
        rw [hsn] at r0
        have HF : Hid (brdE ⟨to_, fr⟩ = 8) := HP8.out (perm_seen HSn.out HX.out hy hsn)
        clear k0 k1 HT HX HP8 HF8 hsn HSn
        go_wp2
        go_ret
        exact ⟨ret_int HF.out.symm, HB2.out⟩
      | false =>
        rw [hsn] at r0
        have HT2 := Lib.hid (permTo_next HT.out HSn.out HX.out hy hsn)
        have HS2 := Lib.hid (seen_next HSn.out HX.out hy)
        have HW2 : Hid ((wr.setCell ⟨gb, y, none⟩ (.bool true)).cell? ⟨w.heap.size, 0, none⟩ = some (.slice (some ⟨bb, off, none⟩) to_.length c) ∧ (wr.setCell ⟨gb, y, none⟩ (.bool true)).cell? ⟨w.heap.size, 1, none⟩ = some (.slice F fr.length fc) ∧ Below w.heap.size w (wr.setCell ⟨gb, y, none⟩ (.bool true)) ∧ (rowBo gb to_.length (s.set y true)).lies (wr.setCell ⟨gb, y, none⟩ (.bool true)) gb) :=
          ⟨by rw [World.cell?_setCell_other _ _ _ _ (fun e => by cases e; omega)]; exact g0, by rw [World.cell?_setCell_other _ _ _ _ (fun e => by cases e; omega)]; exact g1, HB2.out.setCell (p := ⟨gb, y, none⟩) (by show w.heap.size ≤ gb; omega) _, rowBo_put HR2.out y true⟩
        have hne : gb ≠ w.heap.size := by omega
        clear k0 k1 HT HX HP8 HF8 hsn HSn HR2 HB2 d2
        go_wp2
        go_roundw
        case rel => exact ⟨i + 1, s.set y true, by omega, by go_num, HT2.out, HS2.out, HW2.out⟩
        case measure => simp [intOf]; omega
    case neg =>
      have HPt : Hid (permB to_ = true) := permTo_all (by rw [show to_.length = i by omega]; exact HT.out)
      have HG4 := Lib.hid (And.intro g0 g1)
      have HB4 := HB2
      obtain ⟨w4, rfl⟩ : ∃ x : World, x = wr := ⟨_, rfl⟩
      clear HT HSn HR2 HP8 HB2
      go_upto_region 11 with fail
      clear hlt hi g0 g1
      go_wp2
      go_loopw [6] (fun s6 wr => ∃ i : Nat, i ≤ fr.length ∧ s6 = .int .i64 (i : Int) ∧ Hid (frTo to_ fr i) ∧ Hid (Below w4.heap.size w4 wr)) (fun s6 _ => fr.length - (intOf s6).toNat)
      case atStart => exact ⟨0, Nat.zero_le _, rfl, frTo_zero _ _, Below.refl _ _⟩
      case round =>
        obtain ⟨i, hi, rfl, HT, HB⟩ := hrel
        have g0 := (bcell HB.out (lt_of_cell HG4.out.1) 0).trans HG4.out.1
        have g1 := (bcell HB.out (lt_of_cell HG4.out.2) 1).trans HG4.out.2
        have HB5 := Lib.hid (HB4.out.trans (HB.out.mono HB4.out.size))
        by_cases hlt : i < fr.length
        case pos =>
          obtain ⟨bb, off, p, hA, hBb, hpx, q0, q1⟩ := HP.out.at_ hlt
          subst hA
          have c0 := (bcell HB5.out hBb _).trans q0
          have c1 := (bcell HB5.out hBb _).trans q1
          have HX := Lib.hid hpx
          have HQ : Hid (∀ q, 0 < i → fr[i - 1]? = some q → wr.cell? ⟨bb, off + (i - 1) * 2, none⟩ = some (.int .i64 q.1) ∧ wr.cell? ⟨bb, off + (i - 1) * 2 + 1, none⟩ = some (.int .i64 q.2)) := fun q h0 hq => by
            obtain ⟨b2, off2, p2, hA2, hB2', hp2, r0, r1⟩ := HP.out.at_ (k := i - 1) (by omega)
            cases hA2
            rw [hq] at hp2
            cases hp2
            exact ⟨(bcell HB5.out hBb _).trans r0, (bcell HB5.out hBb _).trans r1⟩
          have HSI := Lib.hid ((HS.out.below HB5.out).more HB5.out.size)
          obtain ⟨p0, p1⟩ := p
          simp only at c0 c1
          have HA1 := Lib.hid ((Below.refl wr.heap.size wr).alloc (Nat.le_refl _) (.cells #[.int .i64 p0, .int .i64 p1] 66))
          have n0 : (wr.alloc (.cells #[.int .i64 p0, .int .i64 p1] 66)).cell? ⟨wr.heap.size, 0, none⟩ = some (.int .i64 p0) := cell_new rfl rfl rfl
          have n1 : (wr.alloc (.cells #[.int .i64 p0, .int .i64 p1] 66)).cell? ⟨wr.heap.size, 1, none⟩ = some (.int .i64 p1) := cell_new rfl rfl rfl
          have HW6 := Lib.hid (And.intro n0 (And.intro n1 (And.intro (cell_al g0 (.cells #[.int .i64 p0, .int .i64 p1] 66)) (And.intro (cell_al g1 (.cells #[.int .i64 p0, .int .i64 p1] 66)) HA1.out))))
          clear q0 q1 hpx hBb n0 n1 HA1
          go_upto_region 15 with fail
          refine abs_world (Q := fun W => Code.wp _ _ _ _ W) (F := fun W => W.cell? ⟨wr.heap.size, 0, none⟩ = some (.int .i64 p0) ∧ W.cell? ⟨wr.heap.size, 1, none⟩ = some (.int .i64 p1) ∧ W.cell? ⟨w.heap.size, 0, none⟩ = some (.slice A to_.length c) ∧ W.cell? ⟨w.heap.size, 1, none⟩ = some (.slice (some ⟨bb, off, none⟩) fr.length fc) ∧ Below wr.heap.size wr W) _ HW6.out ?_
          clear HW6 c0 c1 g0 g1
          rintro W6 ⟨n0, n1, g0, g1, hb6⟩
          obtain ⟨pb, hpb⟩ : ∃ pb, pb = wr.heap.size := ⟨_, rfl⟩
          have HB6 := Lib.hid (HB.out.trans (hb6.mono HB.out.size))
          have HB7 := Lib.hid (HB5.out.trans (hb6.mono HB5.out.size))
          have HSI6 := Lib.hid ((HSI.out.below hb6).more hb6.size)
          have HQ6 : Hid (∀ q, 0 < i → fr[i - 1]? = some q → W6.cell? ⟨bb, off + (i - 1) * 2, none⟩ = some (.int .i64 q.1) ∧ W6.cell? ⟨bb, off + (i - 1) * 2 + 1, none⟩ = some (.int .i64 q.2)) := fun q h0 hq => ⟨(bcell hb6 (lt_of_cell (HQ.out q h0 hq).1) _).trans (HQ.out q h0 hq).1, (bcell hb6 (lt_of_cell (HQ.out q h0 hq).2) _).trans (HQ.out q h0 hq).2⟩
          rw [← hpb] at n0 n1 ⊢
          clear hb6 hpb HSI HQ HB HB5
          by_cases k0 : p0 < 0
          · have d0 : decide (p0 < 0) = true := decide_eq_true k0
            have HF : Hid (brdE ⟨to_, fr⟩ = 8) := HF8.out HPt.out false (fr_bad HX.out (frontOk_lo k0))
            clear k0 HT HX HQ6 HF8
            go_wp2
            go_ret
            exact ⟨ret_int HF.out.symm, HB7.out⟩
          have d0 : decide (p0 < 0) = false := decide_eq_false k0
          by_cases k1 : (to_.length : Int) ≤ p1
          · have d1 : decide ((to_.length : Int) ≤ p1) = true := decide_eq_true k1
            have HF : Hid (brdE ⟨to_, fr⟩ = 8) := HF8.out HPt.out false (fr_bad HX.out (frontOk_hi k1))
            clear k0 k1 HT HX HQ6 HF8
            go_wp2
            go_ret
            exact ⟨ret_int HF.out.symm, HB7.out⟩
          have d1 : decide ((to_.length : Int) ≤ p1) = false := decide_eq_false k1
          obtain ⟨x, rfl⟩ : ∃ x : Nat, p0 = (x : Int) := ⟨p0.toNat, by omega⟩
          have hOk := frontOk_chg (to_ := to_) (x := x) (y := p1.toNat) (z := p1) rfl (by omega)
          by_cases k2 : p1 ≤ (x : Int)
          · have d2 : decide (p1 ≤ (x : Int)) = true := decide_eq_true k2
            have HF : Hid (brdE ⟨to_, fr⟩ = 8) := HF8.out HPt.out false (fr_bad HX.out (by rw [hOk]; unfold chg; exact decide_eq_false (by omega)))
            clear k0 k1 k2 HT HX HQ6 HF8 hOk
            go_wp2
            go_ret
            exact ⟨ret_int HF.out.symm, HB7.out⟩
          have d2 : decide (p1 ≤ (x : Int)) = false := decide_eq_false k2
          obtain ⟨y, rfl⟩ : ∃ y : Nat, p1 = (y : Int) := ⟨p1.toNat, by omega⟩
          rw [Int.toNat_natCast] at hOk
          have d3 : decide (to_.length ≤ y) = false := decide_eq_false (by omega)
          have d4 : decide (y ≤ x) = false := decide_eq_false (by omega)
          have HC := Lib.hid (rchg_any A c to_ (by omega) x y (by omega) W6 HSI6.out)
          cases hcg : chg to_ x y with
          | false =>
            rw [hcg] at hOk HC
            have HF : Hid (brdE ⟨to_, fr⟩ = 8) := HF8.out HPt.out false (fr_bad HX.out hOk)
            clear k0 k1 k2 HT HX HQ6 HF8 hcg hOk
            go_wp2_with ((go_at_call 35; refine HC.out.mono ?_; rintro e wd ⟨rfl, m, rfl⟩))
            go_ret
            exact ⟨ret_int HF.out.symm, below_drewN29 HB7.out _⟩
          | true =>
            rw [hcg] at hOk HC
            have HOk := Lib.hid hOk
            clear k0 k1 k2 hcg hOk
            go_upto_region 17 with ((go_at_call 35; refine HC.out.mono ?_; rintro e wd ⟨rfl, m, rfl⟩))
            refine abs_world (Q := fun W => Code.wp _ _ _ _ W) (F := fun W => Below W6.heap.size W6 W) _ (below_drewN29 (Below.refl _ W6) m) ?_
            clear HC
            intro W8 hb8
            have z0 := (bcell hb8 (lt_of_cell n0) _).trans n0
            have z1 := (bcell hb8 (lt_of_cell n1) _).trans n1
            have y0 := (bcell hb8 (lt_of_cell g0) _).trans g0
            have y1 := (bcell hb8 (lt_of_cell g1) _).trans g1
            have HB8 := Lib.hid (HB6.out.trans (hb8.mono HB6.out.size))
            have HB9 := Lib.hid (HB7.out.trans (hb8.mono HB7.out.size))
            cases i with
            | zero =>
              have HT2 : Hid (frTo to_ fr 1) := frTo_next HT.out HX.out HOk.out (fun q h => absurd h (Nat.not_lt_zero 0))
              clear HT HX HQ6 HF8 hb8 n0 n1 g0 g1 HB6 HB7
              go_wp2
              go_roundw
              case rel => exact ⟨1, by omega, by go_num, HT2.out, HB8.out⟩
              case measure => simp [intOf]; omega
            | succ i' =>
              obtain ⟨q, hq⟩ : ∃ q, fr[i']? = some q := ⟨_, List.getElem?_eq_getElem (by omega)⟩
              have hqc := HQ6.out q (by omega) hq
              obtain ⟨q0, q1⟩ := q
              simp only [Nat.add_sub_cancel] at hqc
              have x0 := (bcell hb8 (lt_of_cell hqc.1) _).trans hqc.1
              have x1 := (bcell hb8 (lt_of_cell hqc.2) _).trans hqc.2
              have HQe := Lib.hid hq
              have ki0 : (0 : Int) ≤ (i' : Int) := by omega
              have kiw : IntKind.i64.wrap (i' : Int) = (i' : Int) := IntWalk.i64_in _ (by omega)
              have ki1 : (i' : Int) < (fr.length : Int) := by omega
              have HA8 := Lib.hid (HB8.out.alloc HB8.out.size (.cells #[.int .i64 q0, .int .i64 q1] 66))
              have HA9 := Lib.hid (HB9.out.alloc HB9.out.size (.cells #[.int .i64 q0, .int .i64 q1] 66))
              have z0' := cell_al z0 (.cells #[.int .i64 q0, .int .i64 q1] 66)
              have z1' := cell_al z1 (.cells #[.int .i64 q0, .int .i64 q1] 66)
              have hlp : ltP (q0, q1) ((x : Int), (y : Int)) = decide (q0 < x ∨ (q0 = x ∧ q1 < y)) := rfl
              have HLp := Lib.hid hlp
              have HBad : Hid (ltP (q0, q1) ((x : Int), (y : Int)) = false → brdE ⟨to_, fr⟩ = 8) := fun h => HF8.out HPt.out false (fr_bad2 HX.out HQe.out h)
              have HGo : Hid (ltP (q0, q1) ((x : Int), (y : Int)) = true → frTo to_ fr (i' + 1 + 1)) := fun h => frTo_next HT.out HX.out HOk.out (fun q hh hq => by
                rw [Nat.add_sub_cancel, HQe.out] at hq
                cases hq
                exact h)
              clear hqc HQ6 hq HT HX HF8 hb8 n0 n1 g0 g1 HB6 HB7 z0 z1 hlp HB8 HB9 HOk HQe
              by_cases t0 : (x : Int) < q0
              · have u0 : decide ((x : Int) < q0) = true := decide_eq_true t0
                have HF := Lib.hid (HBad.out (by rw [HLp.out]; exact decide_eq_false (by omega)))
                clear t0 HBad HGo HLp
                go_wp2
                go_ret
                exact ⟨ret_int HF.out.symm, HA9.out⟩
              have u0 : decide ((x : Int) < q0) = false := decide_eq_false t0
              by_cases t1 : q0 = (x : Int)
              · have u1 : (q0 == (x : Int)) = true := beq_iff_eq.2 t1
                by_cases t2 : (y : Int) ≤ q1
                · have u2 : decide ((y : Int) ≤ q1) = true := decide_eq_true t2
                  have HF := Lib.hid (HBad.out (by rw [HLp.out]; exact decide_eq_false (by omega)))
                  clear t0 t1 t2 HBad HGo HLp
                  go_wp2
                  go_ret
                  exact ⟨ret_int HF.out.symm, HA9.out⟩
                · have u2 : decide ((y : Int) ≤ q1) = false := decide_eq_false t2
                  have HT2 := Lib.hid (HGo.out (by rw [HLp.out]; exact decide_eq_true (by omega)))
                  clear t0 t1 t2 HBad HGo HLp
                  go_wp2
                  go_roundw
                  case rel => exact ⟨i' + 1 + 1, by omega, by go_num, HT2.out, HA8.out⟩
                  case measure => simp [intOf]; omega
              · have u1 : (q0 == (x : Int)) = false := beq_eq_false_iff_ne.2 t1
                have HT2 := Lib.hid (HGo.out (by rw [HLp.out]; exact decide_eq_true (by omega)))
                clear t0 t1 HBad HGo HLp
                go_wp2
                go_roundw
                case rel => exact ⟨i' + 1 + 1, by omega, by go_num, HT2.out, HA8.out⟩
                case measure => simp [intOf]; omega
        case neg =>
          have HF : Hid (brdE ⟨to_, fr⟩ = 0) := HF8.out HPt.out true (fr_iff.2 (by rw [show fr.length = i by omega]; exact HT.out))
          clear HT HF8
          go_wp2
          go_ret
          exact ⟨ret_int HF.out.symm, HB5.out⟩
theorem rcheck_any (A F : Option Addr) (c fc : Nat) (b : Brd) (hf : b.fronts.length ≤ 4611686018427387904) (w : World) (hs : SlI w w.heap.size A b.to_) (hp : SlPr w w.heap.size F b.fronts) :
    Calls Try.prog 20 #[.agg #[.slice A b.to_.length c, .slice F b.fronts.length fc]] w fun e w' => e = .returned (.int .i64 (brdE b)) ∧ Below w.heap.size w w' := rcheck_big A F c fc b (by omega) w hs hp
end Go.Proofs.Ytodjkifcbgmckaa
