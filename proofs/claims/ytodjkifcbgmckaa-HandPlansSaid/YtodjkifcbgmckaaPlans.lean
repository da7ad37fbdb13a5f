/- HandPlans, walked: Plan, Fewest and Work return what the reference returns. -/
import Derived.Test.YtodjkifcbgmckaaRwk
import Derived.Test.YtodjkifcbgmckaaRfew
import Derived.Test.YtodjkifcbgmckaaRgr
import Derived.Test.YtodjkifcbgmckaaHsm
import Derived.Test.YtodjkifcbgmckaaHs2
namespace Go.Proofs.Ytodjkifcbgmckaa
open Go.RowKit Go.Shelf Go.Sort
set_option maxRecDepth 100000

theorem plan_len (b : Brd) (ns : List Int) : (planE b ns).1.length ≤ 8 := by
  by_cases hE : brdE b = 0
  · obtain ⟨k8, -, -⟩ := brdE_zero hE
    cases hc : cabB ns with
    | false => rw [plan_cab hE hc]; simp
    | true =>
      cases hs : sea ns.length (okL b ns) b.to_.length [] with
      | none => rw [plan_none hE hc hs]; simp
      | some p =>
        rw [plan_some hE hc hs]
        obtain ⟨p', e, hl, -⟩ := sea_sound hs
        rw [e]
        simp only [List.nil_append]
        omega
  · have e : planE b ns = ([], brdE b) := by unfold planE; rw [if_pos hE]
    rw [e]; simp
theorem work_len (b : Brd) (ns plan : List Int) : (workE b ns plan).1.length ≤ 72 := by
  unfold workE
  split
  · simp
  · rename_i h1
    split
    · simp
    · rename_i h2
      obtain ⟨hE, hl⟩ := right_good (b := b) (ns := ns) (plan := plan) (Classical.not_not.1 h1) (by simpa using h2)
      obtain ⟨k8, -, -⟩ := brdE_zero hE
      have h := workL_len (to_ := b.to_) (plan := plan) b.to_.length
      have h3 : b.to_.length * (plan.length + 1) ≤ 8 * 9 := Nat.mul_le_mul (by omega) (by omega)
      show (workL b.to_ plan b.to_.length).2.length ≤ 72
      omega
set_option maxHeartbeats 16000000 in
theorem plans_walk (A F : Option Addr) (c fc : Nat) (b : Brd) (An : Option Addr) (cn : Nat) (ns : List Int) (Ap : Option Addr) (cp : Nat) (plan : List Int) (hpc : plan.length ≤ cp) (w : World) (hs : SlI w w.heap.size A b.to_) (hp : SlPr w w.heap.size F b.fronts) (hns : SlI w w.heap.size An ns) (hpn : SlI w w.heap.size Ap plan) :
    Calls Try.prog 5 #[.agg #[.slice A b.to_.length c, .slice F b.fronts.length fc], .slice An ns.length cn, .slice Ap plan.length cp] w fun e w' => e = .returned (.bool true) ∧ Below w.heap.size w w' := by
  have hb1 := (Below.refl w.heap.size w).alloc (Nat.le_refl _) (.cells #[.slice A b.to_.length c, .slice F b.fronts.length fc] 26)
  have HX : Hid (Ag w A F c fc b An ns Ap plan (w.alloc (.cells #[.slice A b.to_.length c, .slice F b.fronts.length fc] 26))) := ⟨hb1, BrBx.new hs hp, (hns.below hb1).more hb1.size, (hpn.below hb1).more hb1.size⟩
  clear hb1 hs hp hns hpn
  go_enter Try.func5, Try.ntmps5
  go_upto_region 1 with fail
  refine abs_world (Q := fun W => Code.wp _ _ _ _ W) (F := fun W => Ag w A F c fc b An ns Ap plan W) _ HX.out ?_
  clear HX
  rintro W1 hA1
  obtain ⟨g0, g1⟩ := And.intro hA1.br.c0 hA1.br.c1
  have HA1 := Lib.hid hA1
  have HGr := Lib.hid (great_any A F c fc b W1)
  clear hA1
  cases hgr : greatB b with
  | true =>
    rw [hgr] at HGr
    clear hgr
    go_wp2_with ((go_at_call 14; refine HGr.out.mono ?_; rintro e w2 ⟨rfl, hb2⟩))
    go_ret
    exact ⟨rfl, HA1.out.lo.trans (hb2.mono HA1.out.lo.size)⟩
  | false =>
  rw [hgr] at HGr
  have hb20 : b.to_.length ≤ 20 ∧ b.fronts.length ≤ 100 := by
    unfold greatB at hgr
    rw [Bool.or_eq_false_iff] at hgr
    have h1 := of_decide_eq_false hgr.1
    have h2 := of_decide_eq_false hgr.2
    omega
  clear hgr
  by_cases hn : 20 < ns.length
  · have d1 : decide (20 < ns.length) = true := decide_eq_true hn
    have d2 : decide ((20 : Int) < (ns.length : Int)) = true := decide_eq_true (by omega)
    clear hn
    go_wp2_with ((go_at_call 14; refine HGr.out.mono ?_; rintro e w2 ⟨rfl, hb2⟩))
    go_ret
    exact ⟨rfl, HA1.out.lo.trans (hb2.mono HA1.out.lo.size)⟩
  have d1 : decide (20 < ns.length) = false := decide_eq_false hn
  have d2 : decide ((20 : Int) < (ns.length : Int)) = false := decide_eq_false (by omega)
  by_cases hm : 20 < plan.length
  · have d3 : decide (20 < plan.length) = true := decide_eq_true hm
    have d4 : decide ((20 : Int) < (plan.length : Int)) = true := decide_eq_true (by omega)
    clear hn hm
    go_wp2_with ((go_at_call 14; refine HGr.out.mono ?_; rintro e w2 ⟨rfl, hb2⟩))
    go_ret
    exact ⟨rfl, HA1.out.lo.trans (hb2.mono HA1.out.lo.size)⟩
  have d3 : decide (20 < plan.length) = false := decide_eq_false hm
  have d4 : decide ((20 : Int) < (plan.length : Int)) = false := decide_eq_false (by omega)
  have hpl := plan_len b ns
  have hwl := work_len b ns plan
  have HP1 : Hid (∀ W, Ag w A F c fc b An ns Ap plan W → Calls Try.prog 21 #[.agg #[.slice A b.to_.length c, .slice F b.fronts.length fc], .slice An ns.length cn] W fun e w' => ∃ A' c', e = .returned (.tuple #[.slice A' (planE b ns).1.length c', .int .i64 (planE b ns).2]) ∧ SlI w' w'.heap.size A' (planE b ns).1 ∧ Below W.heap.size W w') := fun W h => by
    refine (hplan_any A F c fc b (by omega) An cn ns (by omega) W h.br.tz h.br.fr h.ns).mono ?_
    rintro e w' ⟨A', c', he, hr, hb⟩
    exact ⟨A', c', he, rowL_sl hr, hb⟩
  have HP2 : Hid (∀ W, Ag w A F c fc b An ns Ap plan W → Calls Try.prog 22 #[.agg #[.slice A b.to_.length c, .slice F b.fronts.length fc], .slice An ns.length cn] W fun e w' => ∃ A' c', e = .returned (.tuple #[.slice A' (planE b ns).1.length c', .int .i64 (planE b ns).2]) ∧ SlI w' w'.heap.size A' (planE b ns).1 ∧ Below W.heap.size W w') := fun W h => rplan_any A F c fc b (by omega) An cn ns (by omega) W h.br.tz h.br.fr h.ns
  have HF1 : Hid (∀ W, Ag w A F c fc b An ns Ap plan W → Calls Try.prog 23 #[.agg #[.slice A b.to_.length c, .slice F b.fronts.length fc]] W fun e w' => e = .returned (.tuple #[.int .i64 (fewE b).1.1, .int .i64 (fewE b).1.2, .int .i64 (fewE b).2]) ∧ Below W.heap.size W w') := fun W h => hfewest_any A F c fc b (by omega) W h.br.tz h.br.fr
  have HF2 : Hid (∀ W, Ag w A F c fc b An ns Ap plan W → Calls Try.prog 24 #[.agg #[.slice A b.to_.length c, .slice F b.fronts.length fc]] W fun e w' => e = .returned (.tuple #[.int .i64 (fewE b).1.1, .int .i64 (fewE b).1.2, .int .i64 (fewE b).2]) ∧ Below W.heap.size W w') := fun W h => rfewest_any A F c fc b (by omega) W h.br.tz h.br.fr
  have HW1 : Hid (∀ W, Ag w A F c fc b An ns Ap plan W → Calls Try.prog 25 #[.agg #[.slice A b.to_.length c, .slice F b.fronts.length fc], .slice An ns.length cn, .slice Ap plan.length cp] W fun e w' => ∃ A' c', e = .returned (.tuple #[.slice A' (workE b ns plan).1.length c', .int .i64 (workE b ns plan).2]) ∧ SlMv w' w'.heap.size A' (workE b ns plan).1 ∧ Below W.heap.size W w') := fun W h => by
    refine (hwork_any A F c fc b (by omega) An cn ns (by omega) Ap cp plan hpc (by omega) W h.br.tz h.br.fr h.ns h.pl).mono ?_
    rintro e w' ⟨A', c', he, hr, hb⟩
    exact ⟨A', c', he, rowM_sl hr, hb⟩
  have HW2 : Hid (∀ W, Ag w A F c fc b An ns Ap plan W → Calls Try.prog 26 #[.agg #[.slice A b.to_.length c, .slice F b.fronts.length fc], .slice An ns.length cn, .slice Ap plan.length cp] W fun e w' => ∃ A' c', e = .returned (.tuple #[.slice A' (workE b ns plan).1.length c', .int .i64 (workE b ns plan).2]) ∧ SlMv w' w'.heap.size A' (workE b ns plan).1 ∧ Below W.heap.size W w') := fun W h => by
    refine (rwork_any A F c fc b (by omega) An cn ns (by omega) Ap cp plan (by omega) W h.br.tz h.br.fr h.ns h.pl).mono ?_
    rintro e w' ⟨A', c', he, hr, hb⟩
    exact ⟨A', c', he, rowM_sl hr, hb⟩
  obtain ⟨⟨pl, px⟩, hpe⟩ : ∃ y, y = planE b ns := ⟨_, rfl⟩
  obtain ⟨⟨⟨fx, fy⟩, fz⟩, hfe⟩ : ∃ y, y = fewE b := ⟨_, rfl⟩
  obtain ⟨⟨wl, wx⟩, hwe⟩ : ∃ y, y = workE b ns plan := ⟨_, rfl⟩
  rw [← hpe] at HP1 HP2 hpl
  rw [← hfe] at HF1 HF2
  rw [← hwe] at HW1 HW2 hwl
  replace hpl : pl.length ≤ 8 := hpl
  replace hwl : wl.length ≤ 72 := hwl
  clear hpe hfe hwe hn hm hpc hb20
  go_upto_region 3 with ((go_at_call 14; refine HGr.out.mono ?_; rintro e w2 ⟨rfl, hb2⟩))
  refine abs_world (Q := fun W => Code.wp _ _ _ _ W) (F := fun W => Ag w A F c fc b An ns Ap plan W) _ (HA1.out.to hb2) ?_
  clear HGr hb2 HA1 d1 d2 d3 d4 g0 g1
  rintro W3 hA3
  obtain ⟨g0, g1⟩ := And.intro hA3.br.c0 hA3.br.c1
  have HA3 := Lib.hid hA3
  clear hA3
  go_upto_region 4 with ((go_at_call 21; refine (HP1.out _ HA3.out).mono ?_; rintro e w4 ⟨A1, c1, rfl, hs1, hb1⟩))
  refine abs_world (Q := fun W => Code.wp _ _ _ _ W) (F := fun W => Ag w A F c fc b An ns Ap plan W ∧ SlI W W.heap.size A1 pl) _ ⟨HA3.out.to hb1, hs1⟩ ?_
  clear hs1 hb1 HA3 HP1 g0 g1
  rintro W5 ⟨hA5, hs5⟩
  obtain ⟨g0, g1⟩ := And.intro hA5.br.c0 hA5.br.c1
  have HA5 := Lib.hid hA5
  have HS5 := Lib.hid hs5
  clear hA5 hs5
  go_upto_region 5 with ((go_at_call 22; refine (HP2.out _ HA5.out).mono ?_; rintro e w6 ⟨A2, c2, rfl, hs2, hb2⟩))
  refine abs_world (Q := fun W => Code.wp _ _ _ _ W) (F := fun W => Ag w A F c fc b An ns Ap plan W ∧ SlI W W.heap.size A1 pl ∧ SlI W W.heap.size A2 pl) _ ⟨HA5.out.to hb2, (HS5.out.below hb2).more hb2.size, hs2⟩ ?_
  clear hs2 hb2 HA5 HS5 HP2 g0 g1
  rintro W7 ⟨hA7, hs7⟩
  obtain ⟨g0, g1⟩ := And.intro hA7.br.c0 hA7.br.c1
  have HA7 := Lib.hid hA7
  have HS7 := Lib.hid hs7
  clear hA7 hs7
  go_upto_region 6 with ((go_at_call 23; refine (HF1.out _ HA7.out).mono ?_; rintro e w8 ⟨rfl, hb8⟩))
  refine abs_world (Q := fun W => Code.wp _ _ _ _ W) (F := fun W => Ag w A F c fc b An ns Ap plan W ∧ SlI W W.heap.size A1 pl ∧ SlI W W.heap.size A2 pl) _ ⟨HA7.out.to hb8, (HS7.out.1.below hb8).more hb8.size, (HS7.out.2.below hb8).more hb8.size⟩ ?_
  clear hb8 HA7 HS7 HF1 g0 g1
  rintro W9 ⟨hA9, hs9⟩
  obtain ⟨g0, g1⟩ := And.intro hA9.br.c0 hA9.br.c1
  have HA9 := Lib.hid hA9
  have HS9 := Lib.hid hs9
  clear hA9 hs9
  go_upto_region 7 with ((go_at_call 24; refine (HF2.out _ HA9.out).mono ?_; rintro e w10 ⟨rfl, hb10⟩))
  refine abs_world (Q := fun W => Code.wp _ _ _ _ W) (F := fun W => Ag w A F c fc b An ns Ap plan W ∧ SlI W W.heap.size A1 pl ∧ SlI W W.heap.size A2 pl) _ ⟨HA9.out.to hb10, (HS9.out.1.below hb10).more hb10.size, (HS9.out.2.below hb10).more hb10.size⟩ ?_
  clear hb10 HA9 HS9 HF2 g0 g1
  rintro W11 ⟨hA11, hs11⟩
  obtain ⟨g0, g1⟩ := And.intro hA11.br.c0 hA11.br.c1
  have HA11 := Lib.hid hA11
  have HS11 := Lib.hid hs11
  clear hA11 hs11
  go_upto_region 8 with ((go_at_call 25; refine (HW1.out _ HA11.out).mono ?_; rintro e w12 ⟨A3, c3, rfl, hm3, hb12⟩))
  refine abs_world (Q := fun W => Code.wp _ _ _ _ W) (F := fun W => Ag w A F c fc b An ns Ap plan W ∧ SlI W W.heap.size A1 pl ∧ SlI W W.heap.size A2 pl ∧ SlMv W W.heap.size A3 wl) _ ⟨HA11.out.to hb12, (HS11.out.1.below hb12).more hb12.size, (HS11.out.2.below hb12).more hb12.size, hm3⟩ ?_
  clear hb12 hm3 HA11 HS11 HW1 g0 g1
  rintro W13 ⟨hA13, hs13⟩
  obtain ⟨g0, g1⟩ := And.intro hA13.br.c0 hA13.br.c1
  have HA13 := Lib.hid hA13
  have HS13 := Lib.hid hs13
  clear hA13 hs13
  go_upto_region 9 with ((go_at_call 26; refine (HW2.out _ HA13.out).mono ?_; rintro e w14 ⟨A4, c4, rfl, hm4, hb14⟩))
  refine abs_world (Q := fun W => Code.wp _ _ _ _ W) (F := fun W => Below w.heap.size w W ∧ SlI W W.heap.size A1 pl ∧ SlI W W.heap.size A2 pl ∧ SlMv W W.heap.size A3 wl ∧ SlMv W W.heap.size A4 wl) _ ⟨(HA13.out.to hb14).lo, (HS13.out.1.below hb14).more hb14.size, (HS13.out.2.1.below hb14).more hb14.size, SlS.more (HS13.out.2.2.below hb14) hb14.size, hm4⟩ ?_
  clear hb14 hm4 HA13 HS13 HW2 g0 g1
  rintro W ⟨hb, h1, h2, h3, h4⟩
  have HSi := Lib.hid (sameI_any A1 A2 c1 c2 pl W h1 h2 (by omega))
  have HSm : Hid (∀ m, Calls Try.prog 28 #[.slice A3 wl.length c3, .slice A4 wl.length c4] (W.drewN m) fun e w' => e = .returned (.bool true) ∧ Below w.heap.size w w') := fun m => by
    have hbm : Below W.heap.size W (W.drewN m) := below_drewP (Below.refl _ _) m
    refine (sameMv_any A3 A4 c3 c4 wl (W.drewN m) (SlS.more (h3.below hbm) hbm.size) (SlS.more (h4.below hbm) hbm.size) (by omega)).mono ?_
    rintro e w' ⟨he, m', rfl⟩
    exact ⟨he, below_drewP (below_drewP hb _) _⟩
  clear hb h1 h2 h3 h4 hpl hwl
  go_wp2_with (first
    | (go_at_call 27; refine HSi.out.mono ?_; rintro e w15 ⟨rfl, m, rfl⟩)
    | (go_at_call 28; refine (HSm.out _).mono ?_; rintro e w16 ⟨rfl, hb16⟩))
  go_ret
  exact ⟨by simp, hb16⟩
end Go.Proofs.Ytodjkifcbgmckaa
