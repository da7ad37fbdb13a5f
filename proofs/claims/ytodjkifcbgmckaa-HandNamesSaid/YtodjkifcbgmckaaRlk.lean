/- Layer 29: the reference's look. -/
import Derived.Test.YtodjkifcbgmckaaRfit
import Derived.Test.YtodjkifcbgmckaaHri
import Derived.Test.YtodjkifcbgmckaaHrck
namespace Go.Proofs.Ytodjkifcbgmckaa
open Go.RowKit Go.Shelf Go.Sort
set_option maxRecDepth 100000

def lookE (b : Brd) (ns plan : List Int) : Int := if brdE b ≠ 0 then brdE b else if cabB ns = false ∨ planOk ns.length b.to_.length plan = false then 2 else 0
theorem look_bad {b : Brd} {ns plan : List Int} (h : brdE b ≠ 0) : lookE b ns plan = brdE b := by unfold lookE; rw [if_pos h]
theorem look_arg {b : Brd} {ns plan : List Int} (h : brdE b = 0) (h2 : cabB ns = false ∨ planOk ns.length b.to_.length plan = false) : lookE b ns plan = 2 := by unfold lookE; rw [if_neg (by rw [h]; decide), if_pos h2]
theorem look_ok {b : Brd} {ns plan : List Int} (h : brdE b = 0) (h2 : cabB ns = true) (h3 : planOk ns.length b.to_.length plan = true) : lookE b ns plan = 0 := by unfold lookE; rw [if_neg (by rw [h]; decide), if_neg (by rw [h2, h3]; simp)]
theorem any_to {pr : Int → Bool} {l : List Int} (h : ∀ j x, j < l.length → l[j]? = some x → pr x = false) : l.any pr = false := by
  rw [List.any_eq_false]
  intro x hx
  obtain ⟨j, hj⟩ := List.mem_iff_getElem?.1 hx
  rw [h j x (List.getElem?_eq_some_iff.1 hj).1 hj]
  decide
theorem any_hit {pr : Int → Bool} {l : List Int} {j : Nat} {x : Int} (h : l[j]? = some x) (hp : pr x = true) : l.any pr = true := by
  rw [List.any_eq_true]
  exact ⟨x, List.mem_of_getElem? h, hp⟩
set_option maxHeartbeats 16000000 in
theorem rlook_any (A F : Option Addr) (c fc : Nat) (b : Brd) (hf : b.fronts.length ≤ 4611686018427387904) (An : Option Addr) (cn : Nat) (ns : List Int) (hn : ns.length ≤ 1000000) (Ap : Option Addr) (cp : Nat) (plan : List Int) (hpl : plan.length ≤ 4611686018427387904) (w : World) (hs : SlI w w.heap.size A b.to_) (hp : SlPr w w.heap.size F b.fronts) (hns : SlI w w.heap.size An ns) (hpn : SlI w w.heap.size Ap plan) :
    Calls Try.prog 41 #[.agg #[.slice A b.to_.length c, .slice F b.fronts.length fc], .slice An ns.length cn, .slice Ap plan.length cp] w fun e w' => e = .returned (.int .i64 (lookE b ns plan)) ∧ Below w.heap.size w w' := by
  have hb0 := (Below.refl w.heap.size w).alloc (Nat.le_refl _) (.cells #[.slice A b.to_.length c, .slice F b.fronts.length fc] 26)
  have g0 : (w.alloc (.cells #[.slice A b.to_.length c, .slice F b.fronts.length fc] 26)).cell? ⟨w.heap.size, 0, none⟩ = some (.slice A b.to_.length c) := cell_new rfl rfl rfl
  have g1 : (w.alloc (.cells #[.slice A b.to_.length c, .slice F b.fronts.length fc] 26)).cell? ⟨w.heap.size, 1, none⟩ = some (.slice F b.fronts.length fc) := cell_new rfl rfl rfl
  have HW := Lib.hid (And.intro g0 (And.intro g1 hb0))
  have HCk : Hid (∀ W, Below w.heap.size w W → Calls Try.prog 20 #[.agg #[.slice A b.to_.length c, .slice F b.fronts.length fc]] W fun e w' => e = .returned (.int .i64 (brdE b)) ∧ Below W.heap.size W w') := fun W hb => rcheck_any A F c fc b hf W ((hs.below hb).more hb.size) ((hp.below hb).more hb.size)
  have HCb : Hid (∀ W, Below w.heap.size w W → Calls Try.prog 30 #[.slice An ns.length cn] W fun e w' => e = .returned (.bool (cabB ns)) ∧ Below W.heap.size W w') := fun W hb => rcables_any An cn ns hn W ((hns.below hb).more hb.size)
  have HPn := Lib.hid hpn
  clear hs hp hns hpn hb0 g0 g1
  go_enter Try.func41, Try.ntmps41
  go_upto_region 1 with fail
  refine abs_world (Q := fun W => Code.wp _ _ _ _ W) (F := fun W => W.cell? ⟨w.heap.size, 0, none⟩ = some (.slice A b.to_.length c) ∧ W.cell? ⟨w.heap.size, 1, none⟩ = some (.slice F b.fronts.length fc) ∧ Below w.heap.size w W) _ HW.out ?_
  clear HW
  rintro w1 ⟨g0, g1, hb1⟩
  have HB1 := Lib.hid hb1
  clear hb1
  have HG := Lib.hid (fun W (h : Below w1.heap.size w1 W) => And.intro ((bcell h (lt_of_cell g0) _).trans g0) ((bcell h (lt_of_cell g1) _).trans g1))
  have HCk1 := Lib.hid (HCk.out w1 HB1.out)
  by_cases hE : brdE b = 0
  case neg =>
    have HF := Lib.hid (look_bad (ns := ns) (plan := plan) hE)
    have d0 : (brdE b != 0) = true := by simpa using hE
    clear hE
    go_upto_region 2 with ((go_at_call 20; refine HCk1.out.mono ?_; rintro e w2 ⟨rfl, hb2⟩))
    obtain ⟨y0, y1⟩ := HG.out w2 hb2
    have HB2 := Lib.hid (HB1.out.trans (hb2.mono HB1.out.size))
    have HCk2 := Lib.hid (HCk.out w2 HB2.out)
    clear hb2 HCk1 g0 g1 HCk
    go_wp2_with ((go_at_call 20; refine HCk2.out.mono ?_; rintro e w3 ⟨rfl, hb3⟩))
    go_ret
    exact ⟨ret_int HF.out.symm, HB2.out.trans (hb3.mono HB2.out.size)⟩
  rw [hE] at HCk1
  have HE := Lib.hid hE
  clear hE
  go_upto_region 3 with ((go_at_call 20; refine HCk1.out.mono ?_; rintro e w2 ⟨rfl, hb2⟩))
  refine abs_world (Q := fun W => Code.wp _ _ _ _ W) (F := fun W => Below w1.heap.size w1 W) _ hb2 ?_
  clear HCk HCk1 hb2 g0 g1
  intro w3 hb3
  obtain ⟨g0, g1⟩ := HG.out w3 hb3
  have HB3 := Lib.hid (HB1.out.trans (hb3.mono HB1.out.size))
  have HCb3 := Lib.hid (HCb.out w3 HB3.out)
  have g0w := Lib.hid (fun W (h : Below w3.heap.size w3 W) => (bcell h (lt_of_cell g0) _).trans g0)
  have HArg : Hid (cabB ns = false ∨ planOk ns.length b.to_.length plan = false → lookE b ns plan = 2) := fun h => look_arg HE.out h
  clear hb3 HCb HG
  cases hcb : cabB ns with
  | false =>
    rw [hcb] at HCb3
    have HF := Lib.hid (HArg.out (Or.inl hcb))
    clear hcb HArg
    go_wp2_with ((go_at_call 30; refine HCb3.out.mono ?_; rintro e w4 ⟨rfl, hb4⟩))
    go_ret
    exact ⟨ret_int HF.out.symm, HB3.out.trans (hb4.mono HB3.out.size)⟩
  | true =>
    rw [hcb] at HCb3
    have HCa := Lib.hid hcb
    clear hcb
    by_cases hlen : plan.length = b.to_.length
    case neg =>
      have HF := Lib.hid (HArg.out (Or.inr (by rw [plan_any, decide_eq_false hlen]; rfl)))
      have e1 : ((plan.length : Int) != (b.to_.length : Int)) = true := by simp; omega
      have e2 : (plan.length != b.to_.length) = true := by simp; omega
      have e3 : ((plan.length : Int) == (b.to_.length : Int)) = false := beq_eq_false_iff_ne.2 (by omega)
      have e4 : (plan.length == b.to_.length) = false := beq_eq_false_iff_ne.2 hlen
      clear hlen HArg
      go_wp2_with ((go_at_call 30; refine HCb3.out.mono ?_; rintro e w4 ⟨rfl, hb4⟩; have y0 := g0w.out w4 hb4))
      go_ret
      exact ⟨ret_int HF.out.symm, HB3.out.trans (hb4.mono HB3.out.size)⟩
    have e1 : ((plan.length : Int) != (b.to_.length : Int)) = false := by simp; omega
    have e2 : (plan.length != b.to_.length) = false := by simp; omega
    have e3 : ((plan.length : Int) == (b.to_.length : Int)) = true := beq_iff_eq.2 (by omega)
    have e4 : (plan.length == b.to_.length) = true := beq_iff_eq.2 hlen
    have HPo : Hid (planOk ns.length b.to_.length plan = !plan.any (offB ns.length)) := by show _ = _; rw [plan_any, decide_eq_true hlen]; rfl
    clear hlen
    go_upto_region 5 with ((go_at_call 30; refine HCb3.out.mono ?_; rintro e w4 ⟨rfl, hb4⟩; have y0 := g0w.out w4 hb4))
    refine abs_world (Q := fun W => Code.wp _ _ _ _ W) (F := fun W => Below w.heap.size w W) _ (HB3.out.trans (hb4.mono HB3.out.size)) ?_
    clear y0 hb4 HCb3 g0w HB3 g0 g1 e1 e2 e3 e4 HB1
    intro w5 hb5
    have HB5 := Lib.hid hb5
    clear hb5
    go_wp2
    go_loopw [7] (fun s7 wr => ∃ i : Nat, i ≤ plan.length ∧ s7 = .int .i64 (i : Int) ∧ Hid (∀ j x, j < i → plan[j]? = some x → offB ns.length x = false) ∧ Hid (Below w.heap.size w wr)) (fun s7 _ => plan.length - (intOf s7).toNat)
    case atStart => exact ⟨0, Nat.zero_le _, rfl, fun j x hj => absurd hj (Nat.not_lt_zero j), HB5.out⟩
    case round =>
      clear HB5
      obtain ⟨i, hi, rfl, HT, HB⟩ := hrel
      by_cases hlt : i < plan.length
      case pos =>
        obtain ⟨bb, off, x, hA, hBb, hx, hcx⟩ := HPn.out.at_ hlt
        subst hA
        have c0 := (bcell HB.out hBb _).trans hcx
        have HX := Lib.hid hx
        clear hx hcx hBb
        by_cases k1 : x < -1
        · have d1 : decide (x < -1) = true := decide_eq_true k1
          have HF := Lib.hid (HArg.out (Or.inr (by rw [HPo.out, any_hit HX.out (by unfold offB; rw [d1]; rfl)]; rfl)))
          clear k1 HT HX HArg
          go_wp2
          go_ret
          exact ⟨ret_int HF.out.symm, HB.out⟩
        have d1 : decide (x < -1) = false := decide_eq_false k1
        by_cases k2 : (ns.length : Int) ≤ x
        · have d2 : decide ((ns.length : Int) ≤ x) = true := decide_eq_true k2
          have HF := Lib.hid (HArg.out (Or.inr (by rw [HPo.out, any_hit HX.out (by unfold offB; rw [d2, Bool.or_true])]; rfl)))
          clear k1 k2 HT HX HArg
          go_wp2
          go_ret
          exact ⟨ret_int HF.out.symm, HB.out⟩
        have d2 : decide ((ns.length : Int) ≤ x) = false := decide_eq_false k2
        have HT2 : Hid (∀ j y, j < i + 1 → plan[j]? = some y → offB ns.length y = false) := fun j y hj hy => by
          by_cases e : j = i
          · subst e
            rw [HX.out] at hy
            cases hy
            unfold offB
            rw [d1, d2]; rfl
          · exact HT.out j y (by omega) hy
        clear k1 k2 HT HX
        go_wp2
        go_roundw
        case rel => exact ⟨i + 1, by omega, by go_num, HT2.out, HB.out⟩
        case measure => simp [intOf]; omega
      case neg =>
        have HF := Lib.hid (look_ok HE.out HCa.out (by rw [HPo.out, any_to (fun j x hj hx => HT.out j x (by omega) hx)]; rfl))
        clear HT HArg
        go_wp2
        go_ret
        exact ⟨ret_int HF.out.symm, HB.out⟩
theorem getD_take {l : List Int} {x y : Nat} (h : y ≤ x) : (l.take (x + 1)).getD y 0 = l.getD y 0 := by
  rw [List.getD_eq_getElem?_getD, List.getD_eq_getElem?_getD, List.getElem?_take_of_lt (by omega)]
/-- What a loop may have hangs on the loops up to it alone. -/
theorem okP_take {b : Brd} {ns plan : List Int} {x : Nat} : okP b ns (plan.take (x + 1)) x = okP b ns plan x := by
  unfold okP
  rw [getD_take (Nat.le_refl x)]
  congr 1
  rw [Bool.eq_iff_iff, decide_eq_true_iff, decide_eq_true_iff]
  constructor
  · intro h y hy hc
    have := h y hy hc
    rw [getD_take (Nat.le_of_lt hy)] at this
    exact this
  · intro h y hy hc
    rw [getD_take (Nat.le_of_lt hy)]
    exact h y hy hc
theorem right_look {b : Brd} {ns plan : List Int} (h : lookE b ns plan ≠ 0) : rightE b ns plan = (false, lookE b ns plan) := by
  unfold lookE at h ⊢
  unfold rightE
  by_cases h1 : brdE b ≠ 0
  · rw [if_pos h1, if_pos h1]
  · rw [if_neg h1] at h ⊢
    rw [if_neg h1]
    by_cases h2 : cabB ns = false ∨ planOk ns.length b.to_.length plan = false
    · rw [if_pos h2, if_pos h2]
    · rw [if_neg h2] at h; exact absurd rfl h
theorem look_zero {b : Brd} {ns plan : List Int} (h : lookE b ns plan = 0) : brdE b = 0 ∧ cabB ns = true ∧ planOk ns.length b.to_.length plan = true := by
  unfold lookE at h
  by_cases h1 : brdE b ≠ 0
  · rw [if_pos h1] at h; exact absurd h h1
  · rw [if_neg h1] at h
    by_cases h2 : cabB ns = false ∨ planOk ns.length b.to_.length plan = false
    · rw [if_pos h2] at h; cases h
    · refine ⟨by simpa using h1, ?_, ?_⟩
      · cases e : cabB ns with
        | true => rfl
        | false => exact absurd (Or.inl e) h2
      · cases e : planOk ns.length b.to_.length plan with
        | true => rfl
        | false => exact absurd (Or.inr e) h2
set_option maxHeartbeats 16000000 in
theorem rright_any (A F : Option Addr) (c fc : Nat) (b : Brd) (hf : b.fronts.length ≤ 4611686018427387904) (An : Option Addr) (cn : Nat) (ns : List Int) (hn : ns.length ≤ 1000000) (Ap : Option Addr) (cp : Nat) (plan : List Int) (hpl : plan.length ≤ 4611686018427387904) (w : World) (hs : SlI w w.heap.size A b.to_) (hp : SlPr w w.heap.size F b.fronts) (hns : SlI w w.heap.size An ns) (hpn : SlI w w.heap.size Ap plan) :
    Calls Try.prog 18 #[.agg #[.slice A b.to_.length c, .slice F b.fronts.length fc], .slice An ns.length cn, .slice Ap plan.length cp] w fun e w' => e = .returned (.tuple #[.bool (rightE b ns plan).1, .int .i64 (rightE b ns plan).2]) ∧ Below w.heap.size w w' := by
  have hb0 := (Below.refl w.heap.size w).alloc (Nat.le_refl _) (.cells #[.slice A b.to_.length c, .slice F b.fronts.length fc] 26)
  have g0 : (w.alloc (.cells #[.slice A b.to_.length c, .slice F b.fronts.length fc] 26)).cell? ⟨w.heap.size, 0, none⟩ = some (.slice A b.to_.length c) := cell_new rfl rfl rfl
  have g1 : (w.alloc (.cells #[.slice A b.to_.length c, .slice F b.fronts.length fc] 26)).cell? ⟨w.heap.size, 1, none⟩ = some (.slice F b.fronts.length fc) := cell_new rfl rfl rfl
  have HW := Lib.hid (And.intro g0 (And.intro g1 hb0))
  have HLk : Hid (∀ W, Below w.heap.size w W → Calls Try.prog 41 #[.agg #[.slice A b.to_.length c, .slice F b.fronts.length fc], .slice An ns.length cn, .slice Ap plan.length cp] W fun e w' => e = .returned (.int .i64 (lookE b ns plan)) ∧ Below W.heap.size W w') := fun W hb => rlook_any A F c fc b hf An cn ns hn Ap cp plan hpl W ((hs.below hb).more hb.size) ((hp.below hb).more hb.size) ((hns.below hb).more hb.size) ((hpn.below hb).more hb.size)
  have HFi : Hid (lookE b ns plan = 0 → ∀ W, Below w.heap.size w W → ∀ i : Nat, i < plan.length → Calls Try.prog 42 #[.agg #[.slice A b.to_.length c, .slice F b.fronts.length fc], .slice An ns.length cn, .slice Ap plan.length cp, .int .i64 (i : Int)] W fun e w' => e = .returned (.bool (okP b ns plan i)) ∧ Below W.heap.size W w') := fun h W hb i hi => by
    obtain ⟨h1, h2, h3⟩ := look_zero h
    obtain ⟨k8, kp, kf⟩ := brdE_zero h1
    unfold planOk at h3
    rw [Bool.and_eq_true, decide_eq_true_iff, decide_eq_true_iff] at h3
    exact fits_any A F c fc b k8 (Nat.le_trans (fr_len k8 kf) (by decide)) An cn ns hn Ap cp plan i hi (by omega) (by omega) (fun a ha => (h3.2 a ha).2) W ((hs.below hb).more hb.size) ((hp.below hb).more hb.size) ((hns.below hb).more hb.size) ((hpn.below hb).more hb.size)
  clear hs hp hns hpn hb0 g0 g1
  go_enter Try.func18, Try.ntmps18
  go_upto_region 1 with fail
  refine abs_world (Q := fun W => Code.wp _ _ _ _ W) (F := fun W => W.cell? ⟨w.heap.size, 0, none⟩ = some (.slice A b.to_.length c) ∧ W.cell? ⟨w.heap.size, 1, none⟩ = some (.slice F b.fronts.length fc) ∧ Below w.heap.size w W) _ HW.out ?_
  clear HW
  rintro w1 ⟨g0, g1, hb1⟩
  have HB1 := Lib.hid hb1
  clear hb1
  have HG := Lib.hid (fun W (h : Below w1.heap.size w1 W) => And.intro ((bcell h (lt_of_cell g0) _).trans g0) ((bcell h (lt_of_cell g1) _).trans g1))
  have HLk1 := Lib.hid (HLk.out w1 HB1.out)
  by_cases hL : lookE b ns plan = 0
  case neg =>
    have HF := Lib.hid (right_look hL)
    have d0 : (lookE b ns plan != 0) = true := by simpa using hL
    clear hL
    go_upto_region 2 with ((go_at_call 41; refine HLk1.out.mono ?_; rintro e w2 ⟨rfl, hb2⟩))
    obtain ⟨y0, y1⟩ := HG.out w2 hb2
    have HB2 := Lib.hid (HB1.out.trans (hb2.mono HB1.out.size))
    have HLk2 := Lib.hid (HLk.out w2 HB2.out)
    clear hb2 HLk1 g0 g1 HLk
    go_wp2_with ((go_at_call 41; refine HLk2.out.mono ?_; rintro e w3 ⟨rfl, hb3⟩))
    go_ret2
    exact ⟨by rw [HF.out]; rfl, HB2.out.trans (hb3.mono HB2.out.size)⟩
  have HFi2 := Lib.hid (HFi.out hL)
  have HRun : Hid (∀ q, ((∀ x, x < plan.length → okP b ns plan x = true) ↔ q = true) → rightE b ns plan = (q, 0)) := fun q hq => by
    obtain ⟨h1, h2, h3⟩ := look_zero hL
    exact right_run h1 h2 h3 (by
      rw [← hq]
      exact ⟨fun h x hx => by rw [← okP_take]; exact h x hx, fun h x hx => by rw [okP_take]; exact h x hx⟩)
  rw [hL] at HLk1
  clear hL HFi
  go_upto_region 3 with ((go_at_call 41; refine HLk1.out.mono ?_; rintro e w2 ⟨rfl, hb2⟩))
  refine abs_world (Q := fun W => Code.wp _ _ _ _ W) (F := fun W => Below w1.heap.size w1 W) _ hb2 ?_
  clear HLk HLk1 hb2 g0 g1
  intro w3 hb3
  have HB3 := Lib.hid hb3
  clear hb3
  go_wp2
  go_loopw [8] (fun s8 wr => ∃ i : Nat, i ≤ plan.length ∧ s8 = .int .i64 (i : Int) ∧ Hid (∀ x, x < i → okP b ns plan x = true) ∧ Hid (Below w1.heap.size w1 wr)) (fun s8 _ => plan.length - (intOf s8).toNat)
  case atStart => exact ⟨0, Nat.zero_le _, rfl, fun x hx => absurd hx (Nat.not_lt_zero x), HB3.out⟩
  case round =>
    clear HB3
    obtain ⟨i, hi, rfl, HT, HB⟩ := hrel
    have HBw := Lib.hid (HB1.out.trans (HB.out.mono HB1.out.size))
    obtain ⟨g0, g1⟩ := HG.out wr HB.out
    by_cases hlt : i < plan.length
    case pos =>
      have HA2 := Lib.hid (HFi2.out wr HBw.out i hlt)
      cases hq : okP b ns plan i with
      | false =>
        rw [hq] at HA2
        have HF := Lib.hid (HRun.out false ⟨fun h => (by rw [h i hlt] at hq; cases hq), fun h => (by cases h)⟩)
        clear hq HT HRun
        go_wp2_with ((go_at_call 42; refine HA2.out.mono ?_; rintro e w4 ⟨rfl, hb4⟩))
        go_ret2
        exact ⟨by rw [HF.out]; rfl, HBw.out.trans (hb4.mono HBw.out.size)⟩
      | true =>
        rw [hq] at HA2
        have HT2 : Hid (∀ x, x < i + 1 → okP b ns plan x = true) := fun x hx => by
          by_cases e : x = i
          · rw [e]; exact hq
          · exact HT.out x (by omega)
        clear hq HT HRun
        go_wp2_with ((go_at_call 42; refine HA2.out.mono ?_; rintro e w4 ⟨rfl, hb4⟩))
        go_roundw
        case rel => exact ⟨i + 1, by omega, by go_num, HT2.out, HB.out.trans (hb4.mono HB.out.size)⟩
        case measure => simp [intOf]; omega
    case neg =>
      have HF := Lib.hid (HRun.out true ⟨fun _ => rfl, fun _ x hx => HT.out x (by omega)⟩)
      clear HT HRun
      go_wp2
      go_ret2
      exact ⟨by rw [HF.out]; rfl, HBw.out⟩
end Go.Proofs.Ytodjkifcbgmckaa
