/- Layer 29: the reference's Work, walked. -/
import Derived.Test.YtodjkifcbgmckaaHwk
import Derived.Test.YtodjkifcbgmckaaRlk
namespace Go.Proofs.Ytodjkifcbgmckaa
open Go.RowKit Go.Shelf Go.Sort
set_option maxRecDepth 100000

def slipL (plan : List Int) (last left : Nat) : List Mv := ((plan.take last).drop left).map fun a => (⟨true, a⟩ : Mv)
theorem slipL_len (plan : List Int) (last left : Nat) : (slipL plan last left).length ≤ plan.length := by unfold slipL; simp; omega
theorem idx_not {l : List Int} {t : Int} {x : Nat} (h : x < idxI l t) (hl : x < l.length) : l.getD x 0 ≠ t := by
  have := List.not_of_lt_findIdx (xs := l) (p := fun y => decide (y = t)) (i := x) h
  rw [List.getD_eq_getElem?_getD, List.getElem?_eq_getElem hl]
  simpa using this
theorem idx_yes {l : List Int} {t : Int} (h : idxI l t < l.length) : l.getD (idxI l t) 0 = t := by
  have := List.findIdx_getElem (xs := l) (p := fun y => decide (y = t)) (w := h)
  rw [List.getD_eq_getElem?_getD, List.getElem?_eq_getElem h]
  exact of_decide_eq_true this
set_option maxHeartbeats 64000000 in
theorem rwork_any (A F : Option Addr) (c fc : Nat) (b : Brd) (hf : b.fronts.length ≤ 4611686018427387904) (An : Option Addr) (cn : Nat) (ns : List Int) (hn : ns.length ≤ 1000000) (Ap : Option Addr) (cp : Nat) (plan : List Int) (hpll : plan.length ≤ 4611686018427387904) (w : World) (hs : SlI w w.heap.size A b.to_) (hp : SlPr w w.heap.size F b.fronts) (hns : SlI w w.heap.size An ns) (hpn : SlI w w.heap.size Ap plan) :
    Calls Try.prog 26 #[.agg #[.slice A b.to_.length c, .slice F b.fronts.length fc], .slice An ns.length cn, .slice Ap plan.length cp] w fun e w' => workOut (workE b ns plan) w e w' := by
  have hb0 := (Below.refl w.heap.size w).alloc (Nat.le_refl _) (.cells #[.slice A b.to_.length c, .slice F b.fronts.length fc] 26)
  have g0 : (w.alloc (.cells #[.slice A b.to_.length c, .slice F b.fronts.length fc] 26)).cell? ⟨w.heap.size, 0, none⟩ = some (.slice A b.to_.length c) := cell_new rfl rfl rfl
  have HB0 := Lib.hid hb0
  have HG := Lib.hid (fun W (h : Below (w.alloc (.cells #[.slice A b.to_.length c, .slice F b.fronts.length fc] 26)).heap.size (w.alloc (.cells #[.slice A b.to_.length c, .slice F b.fronts.length fc] 26)) W) => (bcell h (lt_of_cell g0) _).trans g0)
  have HRi := Lib.hid (rright_any A F c fc b hf An cn ns hn Ap cp plan hpll (w.alloc (.cells #[.slice A b.to_.length c, .slice F b.fronts.length fc] 26)) ((hs.below hb0).more hb0.size) ((hp.below hb0).more hb0.size) ((hns.below hb0).more hb0.size) ((hpn.below hb0).more hb0.size))
  have HS := Lib.hid hs
  have HPn := Lib.hid hpn
  have HGd := Lib.hid (fun h h2 => right_good (b := b) (ns := ns) (plan := plan) h h2)
  have HW : Hid (workE b ns plan = if (rightE b ns plan).2 ≠ 0 then ([], (rightE b ns plan).2) else if (rightE b ns plan).1 = false then ([], 36) else ((workL b.to_ plan b.to_.length).2, 0)) := rfl
  obtain ⟨r, hr⟩ : ∃ r, r = rightE b ns plan := ⟨_, rfl⟩
  rw [← hr] at HRi HGd HW
  obtain ⟨q, x⟩ := r
  clear hs hp hns hpn hb0 hr
  by_cases hx : x = 0
  case neg =>
    have HF : Hid (workE b ns plan = ([], x)) := by show _ = _; rw [HW.out, if_pos hx]
    have HO := Lib.hid (fun w' (h : Below w.heap.size w w') => workOut.stop (w' := w') HF.out h)
    have d0 : (x != 0) = true := by simpa using hx
    clear hx HW HGd
    go_enter Try.func26, Try.ntmps26
    go_wp2_with ((go_at_call 18; refine HRi.out.mono ?_; rintro e w2 ⟨rfl, hb2⟩))
    go_ret2
    exact HO.out _ (HB0.out.trans (hb2.mono HB0.out.size))
  subst hx
  cases q with
  | false =>
    have HF : Hid (workE b ns plan = ([], 36)) := by show _ = _; rw [HW.out, if_neg (by decide), if_pos rfl]
    have HO := Lib.hid (fun w' (h : Below w.heap.size w w') => workOut.stop (w' := w') HF.out h)
    clear HW HGd
    go_enter Try.func26, Try.ntmps26
    go_wp2_with ((go_at_call 18; refine HRi.out.mono ?_; rintro e w2 ⟨rfl, hb2⟩))
    go_ret2
    exact HO.out _ (HB0.out.trans (hb2.mono HB0.out.size))
  | true =>
    obtain ⟨hE, hpl⟩ := HGd.out rfl rfl
    obtain ⟨k8, kp, kf⟩ := brdE_zero hE
    have HF : Hid (workE b ns plan = ((workL b.to_ plan b.to_.length).2, 0)) := by show _ = _; rw [HW.out, if_neg (by decide), if_neg (by decide)]
    have HIx : Hid (∀ t, t < b.to_.length → idxI b.to_ (t : Int) < b.to_.length) := fun t ht => (idx_perm kp ht).1
    have HPl := Lib.hid hpl
    clear HW HGd hE kp kf hpl
    go_enter Try.func26, Try.ntmps26
    go_upto_region 6 with ((go_at_call 18; refine HRi.out.mono ?_; rintro e w2 ⟨rfl, hb2⟩))
    have g2 := HG.out w2 hb2
    have HX := Lib.hid (And.intro (HB0.out.trans (hb2.mono HB0.out.size)) g2)
    refine abs_world (Q := fun W => Code.wp _ _ _ _ W) (F := fun W => Below w.heap.size w W ∧ W.cell? ⟨w.heap.size, 0, none⟩ = some (.slice A b.to_.length c)) _ HX.out ?_
    clear HX hb2 HRi HG g0 HB0 g2
    rintro w1 ⟨hb1, g1⟩
    have HB1 := Lib.hid hb1
    have HG1 := Lib.hid (fun W (h : Below w1.heap.size w1 W) => (bcell h (lt_of_cell g1) _).trans g1)
    clear hb1
    go_wp2
    clear g1
    go_loopw [10, 12, 13] (fun s10 s12 s13 wr => ∃ (t : Nat) (A' : Option Addr) (c' : Nat), t ≤ b.to_.length ∧ s10 = .slice A' (workL b.to_ plan t).2.length c' ∧ s12 = .int .i64 ((workL b.to_ plan t).1 : Int) ∧ s13 = .int .i64 (t : Int) ∧ Hid (rowM wr w1.heap.size A' c' (workL b.to_ plan t).2) ∧ Hid (Below w1.heap.size w1 wr)) (fun _ _ s13 _ => b.to_.length - (intOf s13).toNat)
    case atStart => exact ⟨0, none, 0, Nat.zero_le _, rfl, rfl, rfl, World.ownsRow_nil .., Below.refl _ _⟩
    case round =>
      obtain ⟨t, A', c', ht, rfl, rfl, rfl, HR, HB⟩ := hrel
      have HBw := Lib.hid (HB1.out.trans (HB.out.mono HB1.out.size))
      by_cases hlt : t < b.to_.length
      case neg =>
        obtain rfl : t = b.to_.length := by omega
        have HO : Hid (workOut (workE b ns plan) w (.returned (.tuple #[.slice A' (workL b.to_ plan b.to_.length).2.length c', .int .i64 0])) wr) := by
          show workOut _ _ _ _
          rw [HF.out]
          exact ⟨A', c', rfl, World.ownsRow.mono HR.out HB1.out.size, HBw.out⟩
        obtain ⟨m, hm⟩ : ∃ m, m = (workL b.to_ plan b.to_.length).2.length := ⟨_, rfl⟩
        rw [← hm] at HO ⊢
        clear hm HR HF
        go_wp2
        go_ret2
        exact HO.out
      case pos =>
        obtain ⟨tb, tof, hA, htb, htc⟩ := sl_getD HS.out hlt
        obtain ⟨pb, pof, hAp, hpb, hpc'⟩ := sl_getD HPn.out (k := t) (by rw [HPl.out]; exact hlt)
        subst hA hAp
        have HTc : Hid (∀ W, Below w1.heap.size w1 W → ∀ j, j < b.to_.length → W.cell? ⟨tb, tof + j, none⟩ = some (.int .i64 (b.to_.getD j 0))) := fun W h j hj => (bcell (HB1.out.trans (h.mono HB1.out.size)) htb _).trans (htc j hj)
        have HPc : Hid (∀ W, Below w1.heap.size w1 W → ∀ j, j < plan.length → W.cell? ⟨pb, pof + j, none⟩ = some (.int .i64 (plan.getD j 0))) := fun W h j hj => (bcell (HB1.out.trans (h.mono HB1.out.size)) hpb _).trans (hpc' j hj)
        clear htb htc hpb hpc'
        obtain ⟨x, hx⟩ : ∃ x, x = idxI b.to_ (t : Int) := ⟨_, rfl⟩
        have hxl : x < b.to_.length := by rw [hx]; exact HIx.out t hlt
        have HXy : Hid (b.to_.getD x 0 = (t : Int)) := by show _ = _; rw [hx]; exact idx_yes (HIx.out t hlt)
        have HXn : Hid (∀ y, y < x → b.to_.getD y 0 ≠ (t : Int)) := fun y hy => idx_not (by rw [← hx]; exact hy) (by omega)
        have hstep : workL b.to_ plan (t + 1) = workStep plan x (workL b.to_ plan t) := by rw [hx]; rfl
        have hml := workL_len (to_ := b.to_) (plan := plan) t
        have hml2 : (workL b.to_ plan t).2.length ≤ 1000 := by
          have : t * (plan.length + 1) ≤ 8 * 9 := Nat.mul_le_mul (by omega) (by rw [HPl.out]; omega)
          omega
        obtain ⟨W0, hW0⟩ : ∃ W0, W0 = workL b.to_ plan t := ⟨_, rfl⟩
        rw [← hW0] at hstep hml2 HR ⊢
        obtain ⟨sl, mv⟩ := W0
        have HStp := Lib.hid hstep
        clear hx hml hW0 hstep
        replace hml2 : mv.length ≤ 1000 := hml2
        replace HR : Hid (rowM wr w1.heap.size A' c' mv) := HR
        have hpln : plan.length ≤ 8 := by rw [HPl.out]; omega
        go_upto_region 13 with fail
        obtain ⟨wo, rfl⟩ : ∃ wo : World, wo = wr := ⟨_, rfl⟩
        go_wp2
        go_loopw [14] (fun s14 wr => ∃ y : Nat, y ≤ x ∧ s14 = .int .i64 (y : Int) ∧ wr = wo) (fun s14 _ => x - (intOf s14).toNat)
        case atStart => exact ⟨0, Nat.zero_le _, rfl, rfl⟩
        case round =>
          obtain ⟨y, hyx, rfl, rfl⟩ := hrel
          have g0 := HG1.out wr HB.out
          have c0 := HTc.out wr HB.out y (by omega)
          have hyI : (y : Int) < (b.to_.length : Int) := by omega
          have hy0 : (0 : Int) ≤ (y : Int) := by omega
          obtain ⟨ty, hty⟩ : ∃ ty, ty = b.to_.getD y 0 := ⟨_, rfl⟩
          rw [← hty] at c0
          by_cases hyl : y < x
          case pos =>
            have d1 : (ty != (t : Int)) = true := by rw [hty]; simpa using HXn.out y hyl
            clear hty
            go_wp2
            clear c0 g0
            go_roundw
            case rel => exact ⟨y + 1, by omega, by go_num, by first | rfl | trivial⟩
            case measure => simp [intOf]; omega
          case neg =>
            obtain rfl : y = x := by omega
            have d1 : (ty != (t : Int)) = false := by rw [hty, HXy.out]; simp
            clear hty HXn HXy hyx hyl
            go_upto_region 15 with fail
            clear c0 d1 g0
            obtain ⟨px, hpx0⟩ : ∃ px, px = plan.getD y 0 := ⟨_, rfl⟩
            obtain ⟨last, hla⟩ : ∃ last, last = if 0 ≤ px then y + 1 else y := ⟨_, rfl⟩
            have HLa := Lib.hid hla
            have hl1 : y ≤ last := by rw [hla]; split <;> omega
            have hl2 : last ≤ y + 1 := by rw [hla]; split <;> omega
            have hl3 : 0 ≤ px → y + 1 ≤ last := fun h => by rw [hla, if_pos h]; exact Nat.le_refl _
            have hl4 : px < 0 → last ≤ y := fun h => by rw [hla, if_neg (by omega)]; exact Nat.le_refl _
            have HEq : Hid (workL b.to_ plan (t + 1) = (max sl (y + 1), mv ++ slipL plan last sl ++ [⟨false, px⟩])) := by
              show _ = _
              rw [HStp.out, hla, hpx0]
              rfl
            have HPx := Lib.hid hpx0
            have hpyl : (y : Int) < (plan.length : Int) := by rw [HPl.out]; omega
            have hyp : y < plan.length := by omega
            clear hpx0 hla HLa HStp
            go_wp2
            go_loopw [10, 12] (fun s10 s12 wr => ∃ (l : List Mv) (j : Nat) (A2 : Option Addr) (c2 : Nat), s10 = .slice A2 l.length c2 ∧ s12 = .int .i64 (j : Int) ∧ Hid (sl ≤ j) ∧ Hid (j = sl ∨ j ≤ last) ∧ Hid (l ++ slipL plan last j = mv ++ slipL plan last sl) ∧ Hid (rowM wr w1.heap.size A2 c2 l) ∧ Hid (Below w1.heap.size w1 wr)) (fun _ s12 _ => last - (intOf s12).toNat)
            case atStart => exact ⟨mv, sl, A', c', rfl, rfl, Nat.le_refl _, (show sl = sl ∨ sl ≤ last from Or.inl rfl), rfl, HR.out, HB.out⟩
            case round =>
              clear HR HB HBw
              obtain ⟨l, j, A2, c2, rfl, rfl, HJ1, HJ2, HLs, HRl, HB⟩ := hrel
              have hll : l.length ≤ 2000 := by
                have h := congrArg List.length HLs.out
                rw [List.length_append, List.length_append] at h
                have := slipL_len plan last sl
                omega
              have cx := HPc.out wr HB.out y hyp
              rw [← HPx.out] at cx
              by_cases hjl : j < last
              case pos =>
                have cj := HPc.out wr HB.out j (by omega)
                obtain ⟨pv, hpv⟩ : ∃ pv, pv = plan.getD j 0 := ⟨_, rfl⟩
                rw [← hpv] at cj
                have cj' := cj
                obtain ⟨A4, c4, w4, hr4, hrow4, hb4⟩ := rowM_push HRl.out HB.out.size (by omega) ⟨true, pv⟩
                have HX : Hid (sl ≤ j + 1 ∧ (j + 1 = sl ∨ j + 1 ≤ last) ∧ (l ++ [(⟨true, pv⟩ : Mv)]) ++ slipL plan last (j + 1) = mv ++ slipL plan last sl ∧ rowM w4 w1.heap.size A4 c4 (l ++ [(⟨true, pv⟩ : Mv)]) ∧ Below w1.heap.size w1 w4) := by
                  refine ⟨by have := HJ1.out; omega, Or.inr (by omega), ?_, hrow4, HB.out.trans hb4⟩
                  rw [← HLs.out, List.append_assoc]
                  congr 1
                  have h := slip_one (plan := plan) (left := j) (last := last) hjl (by omega)
                  unfold slipL
                  rw [h, ← hpv]
                  rfl
                have hlen4 : (l ++ [(⟨true, pv⟩ : Mv)]).length = l.length + 1 := by simp
                have hjI : (j : Int) < (plan.length : Int) := by omega
                have hj0 : (0 : Int) ≤ (j : Int) := by omega
                simp only at hr4
                by_cases hjy : j < y
                · have d1 : decide (j < y) = true := decide_eq_true hjy
                  have d1' : decide ((j : Int) < (y : Int)) = true := decide_eq_true (by omega)
                  clear hpv hrow4 hb4 HRl HLs HJ1 HJ2 HB cj'
                  go_wp2_with (at_builtin; refine wpList_append_run _ rfl _ _ _ _ rfl _ _ (by rfl) (by rfl) hr4 ?_)
                  clear hr4 cx cj
                  go_roundw
                  case rel => exact ⟨l ++ [(⟨true, pv⟩ : Mv)], j + 1, A4, c4, by rw [hlen4], by go_num, HX.out.1, HX.out.2.1, HX.out.2.2.1, HX.out.2.2.2.1, HX.out.2.2.2.2⟩
                  case measure => simp [intOf]; omega
                · obtain rfl : j = y := by omega
                  have hp0 : 0 ≤ px := by
                    rcases Int.lt_or_le px 0 with h | h
                    · have := hl4 h; omega
                    · exact h
                  have d1 : decide (j < j) = false := decide_eq_false hjy
                  have d1' : decide ((j : Int) < (j : Int)) = false := decide_eq_false (by omega)
                  have d2 : decide (0 ≤ px) = true := decide_eq_true hp0
                  have hpp : pv = px := by rw [hpv, HPx.out]
                  subst hpp
                  clear hpv hrow4 hb4 HRl HLs HJ1 HJ2 HB cj' hl3 hl4
                  go_wp2_with (at_builtin; refine wpList_append_run _ rfl _ _ _ _ rfl _ _ (by rfl) (by rfl) hr4 ?_)
                  clear hr4 cx cj
                  go_roundw
                  case rel => exact ⟨l ++ [(⟨true, pv⟩ : Mv)], j + 1, A4, c4, by rw [hlen4], by go_num, HX.out.1, HX.out.2.1, HX.out.2.2.1, HX.out.2.2.2.1, HX.out.2.2.2.2⟩
                  case measure => simp [intOf]; omega
              case neg =>
                have HLs2 : Hid (l = mv ++ slipL plan last sl) := by
                  show _ = _
                  rw [← HLs.out]
                  unfold slipL
                  rw [slip_nil (by omega), List.append_nil]
                obtain ⟨A4, c4, w4, hr4, hrow4, hb4⟩ := rowM_push HRl.out HB.out.size (by omega) ⟨false, px⟩
                have cx' := cell_al cx (.cells #[.bool false, .int .i64 px] 69)
                have HEq2 : Hid (workL b.to_ plan (t + 1) = (max j (y + 1), l ++ [⟨false, px⟩])) := by
                  show _ = _
                  rw [HEq.out, ← HLs2.out]
                  congr 1
                  have h1 := HJ1.out
                  rcases HJ2.out with h2 | h2
                  · rw [h2]
                  · omega
                have HR4 := Lib.hid hrow4
                have HB4 := Lib.hid (HB.out.trans hb4)
                have hlen4 : (l ++ [(⟨false, px⟩ : Mv)]).length = l.length + 1 := by simp
                obtain ⟨mx, hmx⟩ : ∃ mx, mx = max j (y + 1) := ⟨_, rfl⟩
                have hmax : max (j : Int) ((y : Int) + 1) = (mx : Int) := by omega
                rw [← hmx] at HEq2
                have hl5 : 0 ≤ px → ¬ j = y := fun h => by have := hl3 h; omega
                have hjy : ¬ j < y := by omega
                have d1 : decide (j < y) = false := decide_eq_false hjy
                have d1' : decide ((j : Int) < (y : Int)) = false := decide_eq_false (by omega)
                simp only at hr4
                clear hmx hrow4 hb4 HRl HLs HLs2 HJ1 HJ2 HB hjl hl3 hl4
                by_cases hjq : j = y
                · have d2 : decide (0 ≤ px) = false := decide_eq_false (fun h => hl5 h hjq)
                  have d3 : ((j : Int) == (y : Int)) = true := beq_iff_eq.2 (by omega)
                  have d3' : (j == y) = true := beq_iff_eq.2 hjq
                  clear hl5 hjq hjy
                  go_wp2_with (at_builtin; refine wpList_append_run _ rfl _ _ _ _ rfl _ _ (by rfl) (by rfl) hr4 ?_)
                  clear hr4 cx cx'
                  go_roundw
                  case rel => exact ⟨t + 1, A4, c4, by omega, by rw [HEq2.out]; show _ = Value.slice A4 (l ++ [(⟨false, px⟩ : Mv)]).length c4; rw [hlen4], by rw [HEq2.out], by go_num, by rw [HEq2.out]; exact HR4.out, HB4.out⟩
                  case measure => simp [intOf]; omega
                · have d3 : ((j : Int) == (y : Int)) = false := beq_eq_false_iff_ne.2 (by omega)
                  have d3' : (j == y) = false := beq_eq_false_iff_ne.2 hjq
                  clear hl5 hjq hjy
                  go_wp2_with (at_builtin; refine wpList_append_run _ rfl _ _ _ _ rfl _ _ (by rfl) (by rfl) hr4 ?_)
                  clear hr4 cx cx'
                  go_roundw
                  case rel => exact ⟨t + 1, A4, c4, by omega, by rw [HEq2.out]; show _ = Value.slice A4 (l ++ [(⟨false, px⟩ : Mv)]).length c4; rw [hlen4], by rw [HEq2.out], by go_num, by rw [HEq2.out]; exact HR4.out, HB4.out⟩
                  case measure => simp [intOf]; omega
end Go.Proofs.Ytodjkifcbgmckaa
