/- Layer 29: Fewest: plain; the program's, walked; the reference's Depths and Fewest. -/
import Derived.Test.YtodjkifcbgmckaaRsea
import Derived.Deep.RegionHeld3
namespace Go.Proofs.Ytodjkifcbgmckaa
open Go.RowKit Go.Shelf Go.Sort
set_option maxRecDepth 100000

/-- A plan with so many needles in front and behind. -/
def canB (b : Brd) (f k : Nat) : Bool := (sea (depthsL f k).length (okL b (depthsL f k)) b.to_.length []).isSome
def fewIn (b : Brd) (s : Nat) : Nat → Nat → Option (Nat × Nat)
  | 0, _ => none
  | c + 1, f => orE (if canB b f (s - f) then some (f, s - f) else none) (fewIn b s c (f + 1))
def fewOut (b : Brd) : Nat → Nat → Option (Nat × Nat)
  | 0, _ => none
  | c + 1, s => orE (fewIn b s (s + 1) 0) (fewOut b c (s + 1))
/-- What Fewest answers. -/
def fewE (b : Brd) : (Int × Int) × Int := if brdE b ≠ 0 then ((0, 0), brdE b) else match fewOut b 5 0 with
  | some (x, y) => (((x : Int), (y : Int)), 0)
  | none => ((0, 0), 6)
theorem fewE_bad {b : Brd} (h : brdE b ≠ 0) : fewE b = ((0, 0), brdE b) := by unfold fewE; rw [if_pos h]
theorem fewE_some {b : Brd} {x y : Nat} (h : brdE b = 0) (h2 : fewOut b 5 0 = some (x, y)) : fewE b = (((x : Int), (y : Int)), 0) := by unfold fewE; rw [if_neg (by rw [h]; decide), h2]
theorem fewE_none {b : Brd} (h : brdE b = 0) (h2 : fewOut b 5 0 = none) : fewE b = ((0, 0), 6) := by unfold fewE; rw [if_neg (by rw [h]; decide), h2]
theorem fewIn_yes {b : Brd} {s f : Nat} {r : Option (Nat × Nat)} (h : f ≤ s) (hc : canB b f (s - f) = true) : orE (fewIn b s (s + 1 - f) f) r = some (f, s - f) := by
  rw [show s + 1 - f = (s - f) + 1 by omega]
  unfold fewIn
  rw [hc, if_pos rfl]
  rfl
theorem fewIn_no {b : Brd} {s f : Nat} (h : f ≤ s) (hc : canB b f (s - f) = false) : fewIn b s (s + 1 - f) f = fewIn b s (s + 1 - (f + 1)) (f + 1) := by
  rw [show s + 1 - f = (s - f) + 1 by omega, show s + 1 - (f + 1) = s - f by omega]
  conv => lhs; unfold fewIn
  rw [hc, if_neg (by decide)]
  rfl
theorem fewOut_in {b : Brd} {s : Nat} (h : s < 5) : fewOut b (5 - s) s = orE (fewIn b s (s + 1 - 0) 0) (fewOut b (5 - (s + 1)) (s + 1)) := by
  rw [show 5 - s = (5 - (s + 1)) + 1 by omega]
  rfl
theorem fewIn_end {b : Brd} {s : Nat} {r : Option (Nat × Nat)} : orE (fewIn b s (s + 1 - (s + 1)) (s + 1)) r = r := by
  rw [Nat.sub_self]
  rfl
theorem depths_len (f k : Nat) : (depthsL f k).length = f + k := by unfold depthsL; simp
theorem depths_next {f k i : Nat} (h : i < f + k) : (depthsL f k).take (i + 1) = (depthsL f k).take i ++ [if i < f then (i : Int) + 1 else (f : Int) - (i : Int) - 1] := by
  rw [List.take_add_one]
  congr 1
  unfold depthsL
  by_cases hi : i < f
  · rw [List.getElem?_append_left (by simpa using hi), List.getElem?_map, List.getElem?_range hi, if_pos hi]
    rfl
  · rw [List.getElem?_append_right (by simp; omega), List.getElem?_map, if_neg hi]
    simp only [List.length_map, List.length_range]
    rw [List.getElem?_range (by omega)]
    simp only [Option.map_some, Option.toList_some, List.cons.injEq, and_true]
    omega
theorem depths_front (L : Nat) : depthsL (L + 1) 0 = depthsL L 0 ++ [(L : Int) + 1] := by
  unfold depthsL
  rw [List.range_succ, List.map_append]
  simp
theorem depths_back (f L : Nat) : depthsL f (L + 1) = depthsL f L ++ [-((L : Int) + 1)] := by
  unfold depthsL
  rw [List.range_succ (n := L), List.map_append, ← List.append_assoc]
  rfl
theorem depths_cab {f k : Nat} (h : f + k ≤ 4) : cabB (depthsL f k) = true := by
  have h0 : ∀ f k : Fin 5, f.val + k.val ≤ 4 → cabB (depthsL f.val k.val) = true := by decide
  exact h0 ⟨f, by omega⟩ ⟨k, by omega⟩ h
theorem plan_can {b : Brd} (h : brdE b = 0) {f k : Nat} (hk : f + k ≤ 4) : ((planE b (depthsL f k)).2 = 0) ↔ canB b f k = true := by
  unfold canB
  cases hs : sea (depthsL f k).length (okL b (depthsL f k)) b.to_.length [] with
  | none => rw [plan_none h (depths_cab hk) hs]; simp
  | some p => rw [plan_some h (depths_cab hk) hs]; simp
/-- What Fewest answers, in memory. -/
def fewstOut (r : (Int × Int) × Int) (w : World) (e : Ending) (w' : World) : Prop := e = .returned (.tuple #[.int .i64 r.1.1, .int .i64 r.1.2, .int .i64 r.2]) ∧ Below w.heap.size w w'
theorem fewstOut.mk' {r : (Int × Int) × Int} {x y z : Int} {w w' : World} (h : r = ((x, y), z)) (hb : Below w.heap.size w w') : fewstOut r w (.returned (.tuple #[.int .i64 x, .int .i64 y, .int .i64 z])) w' := by
  subst h
  exact ⟨rfl, hb⟩
set_option maxHeartbeats 64000000 in
theorem hfewest_any (A F : Option Addr) (c fc : Nat) (b : Brd) (hf : b.fronts.length ≤ 4611686018427387904) (w : World) (hs : SlI w w.heap.size A b.to_) (hp : SlPr w w.heap.size F b.fronts) :
    Calls Try.prog 23 #[.agg #[.slice A b.to_.length c, .slice F b.fronts.length fc]] w fun e w' => fewstOut (fewE b) w e w' := by
  have hb0 := (Below.refl w.heap.size w).alloc (Nat.le_refl _) (.cells #[.slice A b.to_.length c, .slice F b.fronts.length fc] 26)
  have g0 : (w.alloc (.cells #[.slice A b.to_.length c, .slice F b.fronts.length fc] 26)).cell? ⟨w.heap.size, 0, none⟩ = some (.slice A b.to_.length c) := cell_new rfl rfl rfl
  have g1 : (w.alloc (.cells #[.slice A b.to_.length c, .slice F b.fronts.length fc] 26)).cell? ⟨w.heap.size, 1, none⟩ = some (.slice F b.fronts.length fc) := cell_new rfl rfl rfl
  have HB0 := Lib.hid hb0
  have HG := Lib.hid (fun W (h : Below (w.alloc (.cells #[.slice A b.to_.length c, .slice F b.fronts.length fc] 26)).heap.size (w.alloc (.cells #[.slice A b.to_.length c, .slice F b.fronts.length fc] 26)) W) => And.intro ((bcell h (lt_of_cell g0) _).trans g0) ((bcell h (lt_of_cell g1) _).trans g1))
  have HCk := Lib.hid (hcheck_any A F c fc b hf (w.alloc (.cells #[.slice A b.to_.length c, .slice F b.fronts.length fc] 26)) ((hs.below hb0).more hb0.size) ((hp.below hb0).more hb0.size))
  have HFi : Hid (brdE b = 0 → ∀ W, Below w.heap.size w W → ∀ (An : Option Addr) (cn f k : Nat), f + k ≤ 4 → SlI W W.heap.size An (depthsL f k) → Calls Try.prog 46 #[.agg #[.slice A b.to_.length c, .slice F b.fronts.length fc], .slice An (f + k) cn] W fun e w' => ∃ v, e = .returned (.tuple #[v, .bool (canB b f k)]) ∧ Below W.heap.size W w') := fun h W hb An cn f k hk hsl => by
    have h1 := hfind_any A F c fc b h An cn (depthsL f k) (by rw [depths_len]; omega) W ((hs.below hb).more hb.size) ((hp.below hb).more hb.size) hsl
    rw [depths_len] at h1
    refine h1.mono ?_
    rintro e w' ⟨A', c', q, he, hq, -, hb'⟩
    refine ⟨.slice A' ((sea (f + k) (okL b (depthsL f k)) b.to_.length []).getD []).length c', ?_, hb'⟩
    rw [he, hq]
    unfold canB
    rw [depths_len]
  clear hs hp hb0
  by_cases hE : brdE b = 0
  case neg =>
    have HO := Lib.hid (fun w' (h : Below w.heap.size w w') => fewstOut.mk' (w' := w') (fewE_bad hE) h)
    have d0 : (brdE b != 0) = true := by simpa using hE
    clear hE HFi
    go_enter Try.func23, Try.ntmps23
    go_wp2_with ((go_at_call 19; refine HCk.out.mono ?_; rintro e w2 ⟨rfl, hb2⟩))
    go_ret3
    exact HO.out _ (HB0.out.trans (hb2.mono HB0.out.size))
  case pos =>
    rw [hE] at HCk
    have HFi2 := Lib.hid (HFi.out hE)
    have HSo := Lib.hid (fun w' x y (h : fewOut b 5 0 = some (x, y)) (h' : Below w.heap.size w w') => fewstOut.mk' (w' := w') (fewE_some hE h) h')
    have HNo := Lib.hid (fun w' (h : fewOut b 5 0 = none) (h' : Below w.heap.size w w') => fewstOut.mk' (w' := w') (fewE_none hE h) h')
    clear hE HFi
    go_enter Try.func23, Try.ntmps23
    go_upto_region 4 with ((go_at_call 19; refine HCk.out.mono ?_; rintro e w2 ⟨rfl, hb2⟩))
    obtain ⟨y0, y1⟩ := HG.out w2 hb2
    have HX := Lib.hid (And.intro (HB0.out.trans (hb2.mono HB0.out.size)) (And.intro y0 y1))
    refine abs_world (Q := fun W => Code.wp _ _ _ _ W) (F := fun W => Below w.heap.size w W ∧ W.cell? ⟨w.heap.size, 0, none⟩ = some (.slice A b.to_.length c) ∧ W.cell? ⟨w.heap.size, 1, none⟩ = some (.slice F b.fronts.length fc)) _ HX.out ?_
    clear HX y0 y1 hb2 HCk HG HB0 g0 g1
    rintro w1 ⟨hb1, g0, g1⟩
    have HB1 := Lib.hid hb1
    have HG := Lib.hid (fun W (h : Below w1.heap.size w1 W) => And.intro ((bcell h (lt_of_cell g0) _).trans g0) ((bcell h (lt_of_cell g1) _).trans g1))
    clear hb1 g0 g1
    go_wp2
    go_loopw [17] (fun s17 wr => ∃ s : Nat, s ≤ 5 ∧ s17 = .int .i64 (s : Int) ∧ Hid (fewOut b 5 0 = fewOut b (5 - s) s) ∧ Hid (Below w1.heap.size w1 wr)) (fun s17 _ => 5 - (intOf s17).toNat)
    case atStart => exact ⟨0, Nat.zero_le _, rfl, rfl, Below.refl _ _⟩
    case round =>
      obtain ⟨s, hs5, rfl, HS, HB⟩ := hrel
      by_cases hlt : s < 5
      case neg =>
        have HO := Lib.hid (HNo.out wr (by rw [HS.out, show 5 - s = 0 by omega]; rfl) (HB1.out.trans (HB.out.mono HB1.out.size)))
        have d1 : decide (s < 5) = false := decide_eq_false hlt
        have d1' : decide ((s : Int) < 5) = false := decide_eq_false (by omega)
        clear HS HB
        go_wp2
        go_ret3
        exact HO.out
      case pos =>
        have HS2 : Hid (fewOut b 5 0 = orE (fewIn b s (s + 1 - 0) 0) (fewOut b (5 - (s + 1)) (s + 1))) := by
          show _ = _
          rw [HS.out, fewOut_in hlt]
        have d1 : decide (s < 5) = true := decide_eq_true hlt
        have d1' : decide ((s : Int) < 5) = true := decide_eq_true (by omega)
        clear HS
        go_upto_region 8 with fail
        clear d1 d1'
        obtain ⟨wo, rfl⟩ : ∃ wo : World, wo = wr := ⟨_, rfl⟩
        go_wp2
        go_loopw [22] (fun s22 wr => ∃ f : Nat, f ≤ s + 1 ∧ s22 = .int .i64 (f : Int) ∧ Hid (fewOut b 5 0 = orE (fewIn b s (s + 1 - f) f) (fewOut b (5 - (s + 1)) (s + 1))) ∧ Hid (Below w1.heap.size w1 wr)) (fun s22 _ => s + 1 - (intOf s22).toNat)
        case atStart => exact ⟨0, Nat.zero_le _, rfl, HS2.out, HB.out⟩
        case round =>
          clear HS2 HB
          obtain ⟨f, hf1, rfl, HS, HB⟩ := hrel
          have HBw := Lib.hid (HB1.out.trans (HB.out.mono HB1.out.size))
          by_cases hfs : f < s + 1
          case neg =>
            have HS2 : Hid (fewOut b 5 0 = fewOut b (5 - (s + 1)) (s + 1)) := by
              show _ = _
              rw [HS.out, show f = s + 1 by omega, fewIn_end]
            have d1 : decide ((f : Int) < (s : Int) + 1) = false := decide_eq_false (by omega)
            clear HS
            go_wp2
            go_roundw
            case rel => exact ⟨s + 1, by omega, by go_num, HS2.out, HB.out⟩
            case measure => simp [intOf]; omega
          case pos =>
            have d1 : decide ((f : Int) < (s : Int) + 1) = true := decide_eq_true (by omega)
            go_upto_region 12 with fail
            clear d1
            obtain ⟨wp, rfl⟩ : ∃ wp : World, wp = wr := ⟨_, rfl⟩
            go_wp2
            go_loopw [8, 26] (fun s8 s26 wr => ∃ (i : Nat) (An : Option Addr) (cn : Nat), i ≤ s ∧ s8 = .slice An i cn ∧ s26 = .int .i64 (i : Int) ∧ Hid (rowL wr w1.heap.size An cn ((depthsL f (s - f)).take i)) ∧ Hid (Below w1.heap.size w1 wr)) (fun _ s26 _ => s - (intOf s26).toNat)
            case atStart => exact ⟨0, none, 0, Nat.zero_le _, rfl, rfl, World.ownsRow_nil .., HB.out⟩
            case round =>
              clear HB HBw
              obtain ⟨i, An, cn, hi, rfl, rfl, HR, HB⟩ := hrel
              have HBw := Lib.hid (HB1.out.trans (HB.out.mono HB1.out.size))
              have hlen : ((depthsL f (s - f)).take i).length = i := by rw [List.length_take, depths_len]; omega
              by_cases his : i < s
              case pos =>
                have hnx := depths_next (f := f) (k := s - f) (i := i) (by omega)
                have hsz := HB.out.size
                by_cases hif : i < f
                · rw [if_pos hif] at hnx
                  obtain ⟨A2, c2, w2, hr, hrow, hb2⟩ := rowL_push HR.out hsz (by rw [hlen]; omega) ((i : Int) + 1)
                  rw [← hnx] at hrow
                  rw [hlen] at hr
                  have HX := Lib.hid (And.intro hrow (HB.out.trans hb2))
                  have d2 : decide (i < f) = true := decide_eq_true hif
                  have d2' : decide ((i : Int) < (f : Int)) = true := decide_eq_true (by omega)
                  clear hrow hb2 hnx hlen HR
                  go_wp2_with (at_builtin; refine wpList_append_run _ rfl _ _ _ _ rfl _ _ (by rfl) (by rfl) hr ?_)
                  clear hr
                  go_roundw
                  case rel => exact ⟨i + 1, A2, c2, by omega, rfl, by go_num, HX.out.1, HX.out.2⟩
                  case measure => simp [intOf]; omega
                · rw [if_neg hif] at hnx
                  obtain ⟨A2, c2, w2, hr, hrow, hb2⟩ := rowL_push HR.out hsz (by rw [hlen]; omega) ((f : Int) - (i : Int) - 1)
                  rw [← hnx] at hrow
                  rw [hlen] at hr
                  have HX := Lib.hid (And.intro hrow (HB.out.trans hb2))
                  have d2 : decide (i < f) = false := decide_eq_false hif
                  have d2' : decide ((i : Int) < (f : Int)) = false := decide_eq_false (by omega)
                  clear hrow hb2 hnx hlen HR
                  go_wp2_with (at_builtin; refine wpList_append_run _ rfl _ _ _ _ rfl _ _ (by rfl) (by rfl) hr ?_)
                  clear hr
                  go_roundw
                  case rel => exact ⟨i + 1, A2, c2, by omega, rfl, by go_num, HX.out.1, HX.out.2⟩
                  case measure => simp [intOf]; omega
              case neg =>
                obtain ⟨g0, g1⟩ := HG.out wr HB.out
                have HN : Hid (SlI wr wr.heap.size An (depthsL f (s - f))) := by
                  have h := rowL_sl HR.out
                  rw [List.take_of_length_le (by rw [depths_len]; omega)] at h
                  exact h
                have hfi := HFi2.out wr HBw.out An cn f (s - f) (by omega) HN.out
                rw [show f + (s - f) = i by omega] at hfi
                have HFi3 := Lib.hid hfi
                clear hfi HN HR hlen
                cases hq : canB b f (s - f) with
                | true =>
                  rw [hq] at HFi3
                  have HO := Lib.hid (fun w' => HSo.out w' f (s - f) (by rw [HS.out, fewIn_yes (by omega) hq]))
                  have hsub : (s : Int) - (f : Int) = ((s - f : Nat) : Int) := by omega
                  rw [← hsub] at HO
                  clear hq HS hsub
                  go_wp2_with ((go_at_call 46; refine HFi3.out.mono ?_; rintro e w2 ⟨v, rfl, hb2⟩))
                  go_ret3
                  exact HO.out _ (HBw.out.trans (hb2.mono HBw.out.size))
                | false =>
                  rw [hq] at HFi3
                  have HS2 : Hid (fewOut b 5 0 = orE (fewIn b s (s + 1 - (f + 1)) (f + 1)) (fewOut b (5 - (s + 1)) (s + 1))) := by
                    show _ = _
                    rw [HS.out, fewIn_no (by omega) hq]
                  clear hq HS
                  go_wp2_with ((go_at_call 46; refine HFi3.out.mono ?_; rintro e w2 ⟨v, rfl, hb2⟩))
                  go_roundw
                  case rel => exact ⟨f + 1, by omega, by go_num, HS2.out, HB.out.trans (hb2.mono HB.out.size)⟩
                  case measure => simp [intOf]; omega
end Go.Proofs.Ytodjkifcbgmckaa
