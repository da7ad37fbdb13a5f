/- Layer 29: the reference's search, Plan. -/
import Derived.Test.YtodjkifcbgmckaaRlk
import Derived.Test.YtodjkifcbgmckaaHfi
namespace Go.Proofs.Ytodjkifcbgmckaa
open Go.RowKit Go.Shelf Go.Sort
set_option maxRecDepth 100000

/-- A new empty list, a list behind it. -/
theorem rowL_copy {w : World} {Ap : Option Addr} {cp : Nat} {plan : List Int} (h : SlI w w.heap.size Ap plan) (hl : plan.length ≤ 100000) :
    ∃ A' c' w', (Builtin.append_ #[22, 22] 22 #[.slice (some ⟨w.heap.size, 0, none⟩) 0 0, .slice Ap plan.length cp]).run Try.prog (w.alloc (.cells #[] 3)) = .ok (.slice A' plan.length c') w' ∧ rowL w' w.heap.size A' c' plan ∧ Below w.heap.size w w' := by
  obtain ⟨ii, hii, hii0, hii1, hii2⟩ := info_parts info_int'
  have hba : Below w.heap.size w (w.alloc (.cells #[] 3)) := (Below.refl _ w).alloc (Nat.le_refl _) _
  have hsz := hba.size
  have ho : (w.alloc (.cells #[] 3)).ownsRow w.heap.size 3 1 (.slice (some ⟨w.heap.size, 0, none⟩) 0 0) 0 [] := by
    have h := World.ownsRow_lit (e := 3) (base := w.heap.size) (size := 1) w #[] 0 (Nat.le_refl _) (by decide) rfl
    exact h
  obtain ⟨A', c', w', hr, ho1, hg1, -⟩ := run_app_any Try.underlying22 hii hii0 hii1 hii2 rfl (by decide) ho Ap plan.length cp (intV plan) (by unfold intV; simp) (fun e => by
      cases plan with
      | nil => rfl
      | cons x r => obtain ⟨b, off, e', -⟩ := h (by simp); rw [e] at e'; cases e') (fun ad e j u hu => by
      have hj : j < plan.length := by have := (List.getElem?_eq_some_iff.1 hu).1; unfold intV at this; simpa using this
      obtain ⟨b, off, e', hB, hc⟩ := h (fun e2 => by subst e2; simp at hj)
      rw [e] at e'; cases e'
      unfold intV at hu
      rw [List.getElem?_map, List.getElem?_eq_getElem hj] at hu
      simp only [Option.map_some, Option.some.injEq] at hu
      subst hu
      rw [add_lit]
      exact (bcell hba hB _).trans (hc j _ (List.getElem?_eq_getElem hj))) (by intro u hu; unfold intV at hu; obtain ⟨x, -, rfl⟩ := List.mem_map.1 hu; rfl) (by unfold maxLen; omega) (by omega) (by omega)
  rw [Nat.zero_add] at hr ho1
  refine ⟨A', c', w', hr, ?_, hba.trans (Below.of_grown hg1 (by omega) (fun k e => (World.ownsRow.lt ho k e).1))⟩
  unfold rowL
  rw [List.nil_append] at ho1
  exact ho1
/-- What the reference's search answers. -/
def seaOut (r : Option (List Int)) (w : World) (e : Ending) (w' : World) : Prop :=
  ∃ A c q, e = .returned (.tuple #[.slice A (r.getD []).length c, .bool q]) ∧ q = r.isSome ∧ SlI w' w'.heap.size A (r.getD []) ∧ Below w.heap.size w w'
theorem seaOut.base {r : Option (List Int)} {w w1 w' : World} {e : Ending} (h : seaOut r w1 e w') (hb : Below w.heap.size w w1) : seaOut r w e w' := by
  obtain ⟨A, c, q, h1, h2, h3, h4⟩ := h
  exact ⟨A, c, q, h1, h2, h3, hb.trans (h4.mono hb.size)⟩
set_option maxHeartbeats 64000000 in
theorem rsearch_any (A F : Option Addr) (c fc : Nat) (b : Brd) (h8 : b.to_.length ≤ 8) (hfl : b.fronts.length ≤ 1000000) (An : Option Addr) (cn : Nat) (ns : List Int) (hn : ns.length ≤ 1000000) :
    ∀ (m : Nat) (plan : List Int) (Ap : Option Addr) (cp : Nat) (w : World), plan.length + m = b.to_.length → (∀ a ∈ plan, a < (ns.length : Int)) → SlI w w.heap.size A b.to_ → SlPr w w.heap.size F b.fronts → SlI w w.heap.size An ns → SlI w w.heap.size Ap plan →
    Calls Try.prog 47 #[.agg #[.slice A b.to_.length c, .slice F b.fronts.length fc], .slice An ns.length cn, .slice Ap plan.length cp] w fun e w' => seaOut (sea ns.length (okL b ns) m plan) w e w' := by
  intro m
  induction m with
  | zero =>
    intro plan Ap cp w hl hb hs hp hns hpn
    have g0 : (w.alloc (.cells #[.slice A b.to_.length c, .slice F b.fronts.length fc] 26)).cell? ⟨w.heap.size, 0, none⟩ = some (.slice A b.to_.length c) := cell_new rfl rfl rfl
    have hb0 := (Below.refl w.heap.size w).alloc (Nat.le_refl _) (.cells #[.slice A b.to_.length c, .slice F b.fronts.length fc] 26)
    have d0 : ((plan.length : Int) == (b.to_.length : Int)) = true := beq_iff_eq.2 (by omega)
    have d1 : (plan.length == b.to_.length) = true := beq_iff_eq.2 (by omega)
    have HO : Hid (seaOut (sea ns.length (okL b ns) 0 plan) w (.returned (.tuple #[.slice Ap plan.length cp, .bool true])) (w.alloc (.cells #[.slice A b.to_.length c, .slice F b.fronts.length fc] 26))) := ⟨Ap, cp, true, rfl, rfl, (hpn.below hb0).more hb0.size, hb0⟩
    clear hb0 hs hp hns hpn hb hl
    go_enter Try.func47, Try.ntmps47
    go_wp2
    go_ret2
    exact HO.out
  | succ m ih =>
    intro plan Ap cp w hl hbd hs hp hns hpn
    have HIH := Lib.hid ih
    have hb0 := (Below.refl w.heap.size w).alloc (Nat.le_refl _) (.cells #[.slice A b.to_.length c, .slice F b.fronts.length fc] 26)
    have g0 : (w.alloc (.cells #[.slice A b.to_.length c, .slice F b.fronts.length fc] 26)).cell? ⟨w.heap.size, 0, none⟩ = some (.slice A b.to_.length c) := cell_new rfl rfl rfl
    have g1 : (w.alloc (.cells #[.slice A b.to_.length c, .slice F b.fronts.length fc] 26)).cell? ⟨w.heap.size, 1, none⟩ = some (.slice F b.fronts.length fc) := cell_new rfl rfl rfl
    have HSl : Hid (∀ W, Below w.heap.size w W → SlI W W.heap.size A b.to_ ∧ SlPr W W.heap.size F b.fronts ∧ SlI W W.heap.size An ns ∧ SlI W W.heap.size Ap plan) := fun W hb => ⟨(hs.below hb).more hb.size, (hp.below hb).more hb.size, (hns.below hb).more hb.size, (hpn.below hb).more hb.size⟩
    have HX : Hid (Below w.heap.size w (w.alloc (.cells #[.slice A b.to_.length c, .slice F b.fronts.length fc] 26)) ∧ (w.alloc (.cells #[.slice A b.to_.length c, .slice F b.fronts.length fc] 26)).cell? ⟨w.heap.size, 0, none⟩ = some (.slice A b.to_.length c) ∧ (w.alloc (.cells #[.slice A b.to_.length c, .slice F b.fronts.length fc] 26)).cell? ⟨w.heap.size, 1, none⟩ = some (.slice F b.fronts.length fc)) := ⟨hb0, g0, g1⟩
    have HBd := Lib.hid hbd
    have d0 : ((plan.length : Int) == (b.to_.length : Int)) = false := beq_eq_false_iff_ne.2 (by omega)
    have d1 : (plan.length == b.to_.length) = false := beq_eq_false_iff_ne.2 (by omega)
    have HLn := Lib.hid hl
    have hlp : plan.length ≤ 8 := by omega
    have hlx : plan.length < b.to_.length := by omega
    clear hb0 hs hp hns hpn hbd ih g0 g1 hl
    go_enter Try.func47, Try.ntmps47
    go_upto_region 2 with fail
    refine abs_world (Q := fun W => Code.wp _ _ _ _ W) (F := fun W => Below w.heap.size w W ∧ W.cell? ⟨w.heap.size, 0, none⟩ = some (.slice A b.to_.length c) ∧ W.cell? ⟨w.heap.size, 1, none⟩ = some (.slice F b.fronts.length fc)) _ HX.out ?_
    clear HX
    rintro w1 ⟨hb1, g0, g1⟩
    have HB1 := Lib.hid hb1
    have HG := Lib.hid (fun W (h : Below w1.heap.size w1 W) => And.intro ((bcell h (lt_of_cell g0) _).trans g0) ((bcell h (lt_of_cell g1) _).trans g1))
    clear hb1
    go_upto_region 4 with fail
    clear d0 d1 g0 g1
    go_wp2
    go_loopw [9] (fun s9 wr => ∃ a : Int, -1 ≤ a ∧ a ≤ (ns.length : Int) ∧ s9 = .int .i64 a ∧ Hid (sea ns.length (okL b ns) (m + 1) plan = seaF ns.length (okL b ns) m plan a) ∧ Hid (Below w1.heap.size w1 wr)) (fun s9 _ => ((ns.length : Int) - intOf s9).toNat)
    case atStart => exact ⟨-1, by omega, by omega, rfl, sea_F _ _ _ _, Below.refl _ _⟩
    case round =>
      obtain ⟨a, ha1, ha2, rfl, HS, HB⟩ := hrel
      have HBw := Lib.hid (HB1.out.trans (HB.out.mono HB1.out.size))
      by_cases hlt : a < (ns.length : Int)
      case neg =>
        have HF : Hid (sea ns.length (okL b ns) (m + 1) plan = none) := by
          show _ = _
          rw [HS.out, show a = (ns.length : Int) by omega, seaF_end]
        have HO : Hid (seaOut (sea ns.length (okL b ns) (m + 1) plan) w (.returned (.tuple #[.slice none 0 0, .bool false])) wr) := by
          show seaOut _ _ _ _
          rw [HF.out]
          exact ⟨none, 0, false, rfl, rfl, SlI.nil, HBw.out⟩
        clear HF HS HB
        go_wp2
        go_ret2
        exact HO.out
      case pos =>
        obtain ⟨A1, c1, w2, hr1, hrow1, hb2⟩ := rowL_copy (cp := cp) (HSl.out wr HBw.out).2.2.2 (by omega)
        have hsz2 := hb2.size
        obtain ⟨A2, c2, w3, hr2, hrow2, hb3⟩ := rowL_push hrow1 hsz2 (by omega) a
        have HX : Hid (Below wr.heap.size wr w3 ∧ SlI w3 w3.heap.size A2 (plan ++ [a])) := ⟨hb2.trans hb3, rowL_sl hrow2⟩
        clear hrow1 hb2 hsz2 hrow2 hb3
        go_upto_region 8 with (at_builtin; refine wpList_append_run _ rfl _ _ _ _ rfl _ _ (by rfl) (by rfl) (by first | exact hr1 | exact hr2) ?_)
        refine abs_world (Q := fun W => Code.wp _ _ _ _ W) (F := fun W => Below wr.heap.size wr W ∧ SlI W W.heap.size A2 (plan ++ [a])) _ HX.out ?_
        clear HX hr1 hr2
        rintro w4 ⟨hb4, hs4⟩
        have hbw4 := HBw.out.trans (hb4.mono HBw.out.size)
        have hb14 := HB.out.trans (hb4.mono HB.out.size)
        obtain ⟨g0, g1⟩ := HG.out w4 hb14
        obtain ⟨hA4, hF4, hN4, -⟩ := HSl.out w4 hbw4
        have hle : ∀ x ∈ plan ++ [a], x < (ns.length : Int) := fun x hx => by
          rcases List.mem_append.1 hx with hx | hx
          · exact HBd.out x hx
          · rw [List.mem_singleton.1 hx]; exact hlt
        have hft := fits_any A F c fc b h8 hfl An cn ns hn A2 c2 (plan ++ [a]) plan.length (by simp) (by simp; omega) hlx hle w4 hA4 hF4 hN4 hs4
        have hok : okP b ns (plan ++ [a]) plan.length = okL b ns (plan ++ [a]) := by unfold okL; rw [List.length_append, List.length_singleton, Nat.add_sub_cancel]
        rw [hok, List.length_append, List.length_singleton] at hft
        have HFt := Lib.hid hft
        have HB14 := Lib.hid hb14
        have HBw4 := Lib.hid hbw4
        have HS4 := Lib.hid hs4
        have HLe := Lib.hid hle
        clear hb4 hs4 hbw4 hb14 hle hft hok hA4 hF4 hN4
        cases hq : okL b ns (plan ++ [a]) with
        | false =>
          rw [hq] at HFt
          have HS2 : Hid (sea ns.length (okL b ns) (m + 1) plan = seaF ns.length (okL b ns) m plan (a + 1)) := by
            show _ = _
            rw [HS.out, seaF_step hlt, hq]
            rfl
          clear hq HS
          go_wp2_with ((go_at_call 42; refine HFt.out.mono ?_; rintro e w5 ⟨rfl, hb5⟩))
          go_roundw
          case rel => exact ⟨a + 1, by omega, by omega, by first | rfl | go_num, HS2.out, HB14.out.trans (hb5.mono HB14.out.size)⟩
          case measure => simp [intOf]; omega
        | true =>
          rw [hq] at HFt
          have HS2 : Hid (sea ns.length (okL b ns) (m + 1) plan = orE (sea ns.length (okL b ns) m (plan ++ [a])) (seaF ns.length (okL b ns) m plan (a + 1))) := by
            show _ = _
            rw [HS.out, seaF_step hlt, hq]
            rfl
          clear hq HS
          go_upto_region 9 with ((go_at_call 42; refine HFt.out.mono ?_; rintro e w5 ⟨rfl, hb5⟩))
          refine abs_world (Q := fun W => Code.wp _ _ _ _ W) (F := fun W => Below w4.heap.size w4 W) _ hb5 ?_
          clear hb5 HFt g0 g1
          intro w6 hb6
          have hb16 := HB14.out.trans (hb6.mono HB14.out.size)
          have hbw6 := HBw4.out.trans (hb6.mono HBw4.out.size)
          obtain ⟨g0, g1⟩ := HG.out w6 hb16
          obtain ⟨hA6, hF6, hN6, -⟩ := HSl.out w6 hbw6
          have hih := HIH.out (plan ++ [a]) A2 c2 w6 (by rw [List.length_append, List.length_singleton]; have := HLn.out; omega) HLe.out hA6 hF6 hN6 ((HS4.out.below hb6).more hb6.size)
          rw [List.length_append, List.length_singleton] at hih
          have HIh := Lib.hid hih
          have HB16 := Lib.hid hb16
          have HBw6 := Lib.hid hbw6
          clear hih hb16 hbw6 hb6 hA6 hF6 hN6
          cases hsea : sea ns.length (okL b ns) m (plan ++ [a]) with
          | none =>
            rw [hsea] at HIh
            have HS3 : Hid (sea ns.length (okL b ns) (m + 1) plan = seaF ns.length (okL b ns) m plan (a + 1)) := by
              show _ = _
              rw [HS2.out, hsea]
              rfl
            clear hsea HS2
            go_wp2_with ((go_at_call 47; refine HIh.out.mono ?_; rintro e w7 ⟨A7, c7, q, rfl, rfl, hs7, hb7⟩))
            go_roundw
            case rel => exact ⟨a + 1, by omega, by omega, by first | rfl | go_num, HS3.out, HB16.out.trans (hb7.mono HB16.out.size)⟩
            case measure => simp [intOf]; omega
          | some p =>
            rw [hsea] at HIh
            have HS3 : Hid (sea ns.length (okL b ns) (m + 1) plan = some p) := by
              show _ = _
              rw [HS2.out, hsea]
              rfl
            clear hsea HS2
            go_wp2_with ((go_at_call 47; refine HIh.out.mono ?_; rintro e w7 ⟨A7, c7, q, rfl, rfl, hs7, hb7⟩))
            go_ret2
            rw [HS3.out]
            exact ⟨A7, c7, true, rfl, rfl, hs7, HBw6.out.trans (hb7.mono HBw6.out.size)⟩
/-- What the reference's Plan answers. -/
def rplanOut (r : List Int × Int) (w : World) (e : Ending) (w' : World) : Prop :=
  ∃ A c, e = .returned (.tuple #[.slice A r.1.length c, .int .i64 r.2]) ∧ SlI w' w'.heap.size A r.1 ∧ Below w.heap.size w w'
theorem rplanOut.stop {r : List Int × Int} {x : Int} {w w' : World} (h : r = ([], x)) (hb : Below w.heap.size w w') : rplanOut r w (.returned (.tuple #[.slice none 0 0, .int .i64 x])) w' := by
  subst h
  exact ⟨none, 0, rfl, SlI.nil, hb⟩
set_option maxHeartbeats 8000000 in
theorem rplan_any (A F : Option Addr) (c fc : Nat) (b : Brd) (hf : b.fronts.length ≤ 4611686018427387904) (An : Option Addr) (cn : Nat) (ns : List Int) (hn : ns.length ≤ 1000000) (w : World) (hs : SlI w w.heap.size A b.to_) (hp : SlPr w w.heap.size F b.fronts) (hns : SlI w w.heap.size An ns) :
    Calls Try.prog 22 #[.agg #[.slice A b.to_.length c, .slice F b.fronts.length fc], .slice An ns.length cn] w fun e w' => rplanOut (planE b ns) w e w' := by
  have hb0 := (Below.refl w.heap.size w).alloc (Nat.le_refl _) (.cells #[.slice A b.to_.length c, .slice F b.fronts.length fc] 26)
  have g0 : (w.alloc (.cells #[.slice A b.to_.length c, .slice F b.fronts.length fc] 26)).cell? ⟨w.heap.size, 0, none⟩ = some (.slice A b.to_.length c) := cell_new rfl rfl rfl
  have g1 : (w.alloc (.cells #[.slice A b.to_.length c, .slice F b.fronts.length fc] 26)).cell? ⟨w.heap.size, 1, none⟩ = some (.slice F b.fronts.length fc) := cell_new rfl rfl rfl
  have HB0 := Lib.hid hb0
  have HG := Lib.hid (fun W (h : Below (w.alloc (.cells #[.slice A b.to_.length c, .slice F b.fronts.length fc] 26)).heap.size (w.alloc (.cells #[.slice A b.to_.length c, .slice F b.fronts.length fc] 26)) W) => And.intro ((bcell h (lt_of_cell g0) _).trans g0) ((bcell h (lt_of_cell g1) _).trans g1))
  have HCk : Hid (∀ W, Below w.heap.size w W → Calls Try.prog 20 #[.agg #[.slice A b.to_.length c, .slice F b.fronts.length fc]] W fun e w' => e = .returned (.int .i64 (brdE b)) ∧ Below W.heap.size W w') := fun W hb => rcheck_any A F c fc b hf W ((hs.below hb).more hb.size) ((hp.below hb).more hb.size)
  have HCb : Hid (∀ W, Below w.heap.size w W → Calls Try.prog 30 #[.slice An ns.length cn] W fun e w' => e = .returned (.bool (cabB ns)) ∧ Below W.heap.size W w') := fun W hb => rcables_any An cn ns hn W ((hns.below hb).more hb.size)
  have HFi : Hid (brdE b = 0 → ∀ W, Below w.heap.size w W → Calls Try.prog 47 #[.agg #[.slice A b.to_.length c, .slice F b.fronts.length fc], .slice An ns.length cn, .slice none 0 0] W fun e w' => seaOut (sea ns.length (okL b ns) b.to_.length []) W e w') := fun h W hb => by
    obtain ⟨k8, kp, kf⟩ := brdE_zero h
    exact rsearch_any A F c fc b k8 (Nat.le_trans (fr_len k8 kf) (by decide)) An cn ns hn b.to_.length [] none 0 W (by simp) (fun a ha => absurd ha List.not_mem_nil) ((hs.below hb).more hb.size) ((hp.below hb).more hb.size) ((hns.below hb).more hb.size) SlI.nil
  clear hs hp hns hb0
  by_cases hE : brdE b = 0
  case neg =>
    have HF : Hid (planE b ns = ([], brdE b)) := by show _ = _; unfold planE; rw [if_pos hE]
    have d0 : (brdE b != 0) = true := by simpa using hE
    have HO := Lib.hid (fun w' (h : Below w.heap.size w w') => rplanOut.stop (w' := w') HF.out h)
    clear hE HFi HCb
    go_enter Try.func22, Try.ntmps22
    go_upto_region 2 with ((go_at_call 20; refine (HCk.out _ HB0.out).mono ?_; rintro e w2 ⟨rfl, hb2⟩))
    obtain ⟨y0, y1⟩ := HG.out w2 hb2
    have HB2 := Lib.hid (HB0.out.trans (hb2.mono HB0.out.size))
    clear hb2 g0 g1
    go_wp2_with ((go_at_call 20; refine (HCk.out _ HB2.out).mono ?_; rintro e w3 ⟨rfl, hb3⟩))
    go_ret2
    exact HO.out _ (HB2.out.trans (hb3.mono HB2.out.size))
  case pos =>
    rw [hE] at HCk
    have HFi2 := Lib.hid (HFi.out hE)
    have HE := Lib.hid hE
    clear hE HFi
    cases hcb : cabB ns with
    | false =>
      have HO := Lib.hid (fun w' (h : Below w.heap.size w w') => rplanOut.stop (w' := w') (plan_cab HE.out hcb) h)
      rw [hcb] at HCb
      clear hcb
      go_enter Try.func22, Try.ntmps22
      go_wp2_with (first
        | (go_at_call 20; refine (HCk.out _ HB0.out).mono ?_; rintro e w2 ⟨rfl, hb2⟩; have hb3 := HB0.out.trans (hb2.mono HB0.out.size))
        | (go_at_call 30; refine (HCb.out _ hb3).mono ?_; rintro e w4 ⟨rfl, hb4⟩))
      go_ret2
      exact HO.out _ (hb3.trans (hb4.mono hb3.size))
    | true =>
      have HCa := Lib.hid hcb
      rw [hcb] at HCb
      clear hcb
      go_enter Try.func22, Try.ntmps22
      go_upto_region 5 with (first
        | (go_at_call 20; refine (HCk.out _ HB0.out).mono ?_; rintro e w2 ⟨rfl, hb2⟩; have hb3 := HB0.out.trans (hb2.mono HB0.out.size))
        | (go_at_call 30; refine (HCb.out _ hb3).mono ?_; rintro e w4 ⟨rfl, hb4⟩))
      obtain ⟨y0, y1⟩ := HG.out w4 (hb2.trans (hb4.mono hb2.size))
      have HB4 := Lib.hid (hb3.trans (hb4.mono hb3.size))
      have HFi4 := Lib.hid (HFi2.out w4 HB4.out)
      clear hb2 hb3 hb4 HFi2 HCb HCk HG g0 g1
      cases hsea : sea ns.length (okL b ns) b.to_.length [] with
      | none =>
        rw [hsea] at HFi4
        have HO := Lib.hid (fun w' (h : Below w.heap.size w w') => rplanOut.stop (w' := w') (plan_none HE.out HCa.out hsea) h)
        clear hsea
        go_wp2_with ((go_at_call 47; refine HFi4.out.mono ?_; rintro e w5 ⟨A5, c5, q, rfl, rfl, hr5, hb5⟩))
        go_ret2
        exact HO.out _ (HB4.out.trans (hb5.mono HB4.out.size))
      | some p =>
        rw [hsea] at HFi4
        have HP := Lib.hid (plan_some HE.out HCa.out hsea)
        clear hsea
        go_wp2_with ((go_at_call 47; refine HFi4.out.mono ?_; rintro e w5 ⟨A5, c5, q, rfl, rfl, hr5, hb5⟩))
        go_ret2
        rw [HP.out]
        exact ⟨A5, c5, rfl, hr5, HB4.out.trans (hb5.mono HB4.out.size)⟩
end Go.Proofs.Ytodjkifcbgmckaa
