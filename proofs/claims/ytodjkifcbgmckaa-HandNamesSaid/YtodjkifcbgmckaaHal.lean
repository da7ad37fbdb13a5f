/- Layer 29: allowed: whether the last loop of a plan may have what it has. -/
import Derived.Test.YtodjkifcbgmckaaHbs
namespace Go.Proofs.Ytodjkifcbgmckaa
open Go.RowKit Go.Shelf Go.Sort
set_option maxRecDepth 100000

theorem quiet_same' {P : Program} {f : FuncId} {args : Array Value} {w : World} {n : Nat} {v : Value}
    (h : Calls P f args (w.drewN n) fun e w' => e = .returned v ∧ w.drewN n = w') : Calls P f args (w.drewN n) fun e w'' => e = .returned v ∧ ∃ m, w'' = w.drewN m :=
  h.mono fun _ _ ⟨he, hm⟩ => ⟨he, n, hm.symm⟩
/-- The loops of allowed, as they go. -/
def okTo (b : Brd) (ns plan : List Int) (x y : Nat) : Prop := ∀ z, z < y → chg b.to_ z x = true → plan.getD z 0 ≠ plan.getD x 0 ∧ isFr b z x = decide (deepI ns (plan.getD x 0) < deepI ns (plan.getD z 0))
theorem ok_bad1 {b : Brd} {ns plan : List Int} {x y : Nat} (h0 : plan.getD x 0 < 0) (hy : y < b.to_.length) (h : chg b.to_ x y = true) : okP b ns plan x = false := by
  unfold okP
  rw [decide_eq_false, Bool.false_and]
  intro hh
  rw [hh h0 y hy] at h; cases h
theorem ok_bad2 {b : Brd} {ns plan : List Int} {x y : Nat} (hy : y < x) (h : chg b.to_ y x = true) (h2 : plan.getD y 0 = plan.getD x 0 ∨ isFr b y x ≠ decide (deepI ns (plan.getD x 0) < deepI ns (plan.getD y 0))) : okP b ns plan x = false := by
  unfold okP
  rw [Bool.and_eq_false_iff]
  right
  apply decide_eq_false
  intro hh
  rcases h2 with h2 | h2
  · exact (hh y hy h).1 h2
  · exact h2 (hh y hy h).2
theorem ok_good {b : Brd} {ns plan : List Int} {x : Nat} (h1 : plan.getD x 0 < 0 → ∀ y, y < b.to_.length → chg b.to_ x y = false) (h2 : okTo b ns plan x x) : okP b ns plan x = true := by
  unfold okP
  rw [decide_eq_true h1, Bool.true_and]
  exact decide_eq_true h2
theorem okTo_next {b : Brd} {ns plan : List Int} {x y : Nat} (h : okTo b ns plan x y) (hn : chg b.to_ y x = true → plan.getD y 0 ≠ plan.getD x 0 ∧ isFr b y x = decide (deepI ns (plan.getD x 0) < deepI ns (plan.getD y 0))) : okTo b ns plan x (y + 1) := fun z hz hc => by
  by_cases e : z = y
  · subst e; exact hn hc
  · exact h z (by omega) hc
theorem chg_lt {l : List Int} {x y : Nat} (h : chg l x y = true) : x < y := by unfold chg at h; exact (of_decide_eq_true h).1
theorem sl_getD {w : World} {B : Nat} {A : Option Addr} {l : List Int} (h : SlI w B A l) {k : Nat} (hk : k < l.length) : ∃ b off, A = some ⟨b, off, none⟩ ∧ b < B ∧ ∀ j, j < l.length → w.cell? ⟨b, off + j, none⟩ = some (.int .i64 (l.getD j 0)) := by
  obtain ⟨b, off, hA, hb, hc⟩ := h (fun e => by subst e; simp at hk)
  exact ⟨b, off, hA, hb, fun j hj => hc j _ (by rw [List.getD_eq_getElem?_getD, List.getElem?_eq_getElem hj]; rfl)⟩
set_option maxHeartbeats 64000000 in
theorem allowed_any (A F : Option Addr) (c fc : Nat) (b : Brd) (h8 : b.to_.length ≤ 8) (hfl : b.fronts.length ≤ 1000000000) (hfr : frontsB b.to_ b.fronts = true) (An : Option Addr) (cn : Nat) (ns : List Int) (hn : ns.length ≤ 1000000) (Ap : Option Addr) (cp : Nat) (plan : List Int) (x : Nat) (hx : plan.length = x + 1) (hxn : x < b.to_.length) (hpl : ∀ a ∈ plan, a < (ns.length : Int)) (w : World) (hs : SlI w w.heap.size A b.to_) (hp : SlPr w w.heap.size F b.fronts) (hns : SlI w w.heap.size An ns) (hpn : SlI w w.heap.size Ap plan) :
    Calls Try.prog 40 #[.agg #[.slice A b.to_.length c, .slice F b.fronts.length fc], .slice An ns.length cn, .slice Ap plan.length cp] w fun e w' => e = .returned (.bool (okP b ns plan x)) ∧ Below w.heap.size w w' := by
  have HB0 := Lib.hid ((Below.refl w.heap.size w).alloc (Nat.le_refl _) (.cells #[.slice A b.to_.length c, .slice F b.fronts.length fc] 26))
  have g0 : (w.alloc (.cells #[.slice A b.to_.length c, .slice F b.fronts.length fc] 26)).cell? ⟨w.heap.size, 0, none⟩ = some (.slice A b.to_.length c) := cell_new rfl rfl rfl
  have g1 : (w.alloc (.cells #[.slice A b.to_.length c, .slice F b.fronts.length fc] 26)).cell? ⟨w.heap.size, 1, none⟩ = some (.slice F b.fronts.length fc) := cell_new rfl rfl rfl
  have hle : ∀ k, k < plan.length → plan.getD k 0 < (ns.length : Int) := fun k hk => hpl _ (by rw [List.getD_eq_getElem?_getD, List.getElem?_eq_getElem hk]; exact List.getElem_mem hk)
  have HC : Hid (∀ W, Below w.heap.size w W → ∀ u v : Nat, v < b.to_.length → Calls Try.prog 34 #[.agg #[.slice A b.to_.length c, .slice F b.fronts.length fc], .int .i64 (u : Int), .int .i64 (v : Int)] W fun e w' => e = .returned (.bool (chg b.to_ u v)) ∧ Below W.heap.size W w') := fun W hb u v hv => hchg_any A F c b.fronts.length fc b.to_ (by omega) u v hv W ((hs.below hb).more hb.size)
  have HBs : Hid (∀ W, Below w.heap.size w W → ∀ u v : Nat, Calls Try.prog 58 #[.slice F b.fronts.length fc, .agg #[.int .i64 (u : Int), .int .i64 (v : Int)], .func (.func 45) #[] #[]] W fun e w' => ∃ i : Nat, e = .returned (.tuple #[.int .i64 (i : Int), .bool (isFr b u v)]) ∧ Below W.heap.size W w') := fun W hb u v => (bsP_any F fc b.fronts hfl ((u : Int), (v : Int)) (cmp_mono hfr _) W ((hp.below hb).more hb.size)).mono (by
    rintro e w' ⟨i, q, rfl, hq, hb'⟩
    exact ⟨i, by rw [fnd_mem hfr hq]; rfl, hb'⟩)
  have HD : Hid (∀ W, Below w.heap.size w W → ∀ a : Int, a < (ns.length : Int) → Calls Try.prog 33 #[.slice An ns.length cn, .int .i64 a] W fun e w' => e = .returned (.int .i64 (deepI ns a)) ∧ W = w') := fun W hb a ha => deep_any An cn ns a ha hn W ((hns.below hb).more hb.size)
  obtain ⟨pb, po, hAp, hpb, hpc⟩ := sl_getD hpn (k := x) (by omega)
  subst hAp
  rw [hx] at hle hpc ⊢
  have HLe := Lib.hid hle
  have HPc : Hid (∀ W, Below w.heap.size w W → ∀ j, j < x + 1 → W.cell? ⟨pb, po + j, none⟩ = some (.int .i64 (plan.getD j 0))) := fun W hb j hj => (bcell hb hpb _).trans (hpc j hj)
  have HG := Lib.hid (And.intro g0 g1)
  have hwr : IntKind.i64.wrap (x : Int) = (x : Int) := IntWalk.i64_in _ (by omega)
  obtain ⟨px, hpx⟩ : ∃ px, px = plan.getD x 0 := ⟨_, rfl⟩
  have HPx := Lib.hid hpx
  have HCx : Hid (∀ W, Below w.heap.size w W → W.cell? ⟨pb, po + x, none⟩ = some (.int .i64 px)) := fun W hb => by rw [hpx]; exact HPc.out W hb x (by omega)
  clear hs hp hns hpn hpc hpb hpl hx hle g0 g1 hfr hpx
  go_enter Try.func40, Try.ntmps40
  go_upto_region 2 with fail
  obtain ⟨w1, hw1⟩ : ∃ w1, w1 = w.alloc (.cells #[.slice A b.to_.length c, .slice F b.fronts.length fc] 26) := ⟨_, rfl⟩
  rw [← hw1] at HG HB0 ⊢
  clear hw1
  go_wp2
  go_loopw [8] (fun s8 wr => ∃ y : Nat, x + 1 ≤ y ∧ y ≤ b.to_.length ∧ s8 = .int .i64 (y : Int) ∧ Hid (px < 0 → ∀ z, z < y → chg b.to_ x z = false) ∧ Hid (Below w1.heap.size w1 wr)) (fun s8 _ => b.to_.length - (intOf s8).toNat)
  case atStart => exact ⟨x + 1, Nat.le_refl _, hxn, by go_num, fun _ z hz => by cases e : chg b.to_ x z with | false => rfl | true => have := chg_lt e; omega, Below.refl _ _⟩
  case round =>
    obtain ⟨y, hxy, hyn, rfl, HT, HB⟩ := hrel
    have HBw := Lib.hid (HB0.out.trans (HB.out.mono HB0.out.size))
    have g0 := (bcell HB.out (lt_of_cell HG.out.1) 0).trans HG.out.1
    have g1 := (bcell HB.out (lt_of_cell HG.out.2) 1).trans HG.out.2
    have c0 := HCx.out wr HBw.out
    by_cases hlt : y < b.to_.length ∧ px < 0
    case pos =>
      obtain ⟨hlt, h0⟩ := hlt
      have d0 : decide (px < 0) = true := decide_eq_true h0
      have HCc := Lib.hid (HC.out wr HBw.out x y hlt)
      have HFx : Hid (chg b.to_ x y = true → okP b ns plan x = false) := fun h => ok_bad1 (by rw [← HPx.out]; exact h0) hlt h
      cases hcg : chg b.to_ x y with
      | true =>
        rw [hcg] at HCc
        have HF := Lib.hid (HFx.out hcg)
        clear HT hcg h0 HFx
        go_wp2_with ((go_at_call 34; refine HCc.out.mono ?_; rintro e wd ⟨rfl, hbd⟩))
        go_ret
        exact ⟨ret_bool HF.out.symm, HBw.out.trans (hbd.mono HBw.out.size)⟩
      | false =>
        rw [hcg] at HCc
        have HT2 : Hid (px < 0 → ∀ z, z < y + 1 → chg b.to_ x z = false) := fun h z hz => by
          by_cases e : z = y
          · rw [e]; exact hcg
          · exact HT.out h z (by omega)
        clear HT hcg h0 HFx
        go_wp2_with ((go_at_call 34; refine HCc.out.mono ?_; rintro e wd ⟨rfl, hbd⟩))
        go_roundw
        case rel => exact ⟨y + 1, by omega, by omega, by go_num, HT2.out, HB.out.trans (hbd.mono HB.out.size)⟩
        case measure => simp [intOf]; omega
    case neg =>
      have HT1 : Hid (px < 0 → ∀ z, z < b.to_.length → chg b.to_ x z = false) := fun h z hz => HT.out h z (by
        rcases Nat.lt_or_ge y b.to_.length with h1 | h1
        · exact absurd ⟨h1, h⟩ hlt
        · omega)
      clear HT
      have HX : Hid (Below w1.heap.size w1 wr) := HB.out
      obtain ⟨qd, hqd⟩ : ∃ q : Bool, q = decide (y < b.to_.length) := ⟨_, rfl⟩
      have hq1 : decide (y < b.to_.length) = qd := hqd.symm
      have hq2 : decide ((y : Int) < (b.to_.length : Int)) = qd := by rw [hqd]; exact decide_eq_decide.2 (by omega)
      have hq3 : qd = true → decide (px < 0) = false := fun h => decide_eq_false fun h2 => hlt ⟨by rw [hqd] at h; exact of_decide_eq_true h, h2⟩
      clear hlt hqd
      cases qd with
      | false =>
        clear hq3
        go_upto_region 7 with fail
        clear hq1 hq2
        refine abs_world (Q := fun W => Code.wp _ _ _ _ W) (F := fun W => Below w1.heap.size w1 W) _ HX.out ?_
        intro W4 hb4
        have HB4 := Lib.hid hb4
        clear hb4 HX g0 g1 c0 HB HBw
        go_wp2
        go_loopw [36] (fun s36 wr => ∃ y : Nat, y ≤ x ∧ s36 = .int .i64 (y : Int) ∧ Hid (okTo b ns plan x y) ∧ Hid (Below w1.heap.size w1 wr)) (fun s36 _ => x - (intOf s36).toNat)
        case atStart => exact ⟨0, Nat.zero_le _, rfl, fun z hz => absurd hz (Nat.not_lt_zero z), HB4.out⟩
        case round =>
          clear HB4
          obtain ⟨y, hyx, rfl, HT, HB⟩ := hrel
          have HBw := Lib.hid (HB0.out.trans (HB.out.mono HB0.out.size))
          have g0 := (bcell HB.out (lt_of_cell HG.out.1) 0).trans HG.out.1
          have g1 := (bcell HB.out (lt_of_cell HG.out.2) 1).trans HG.out.2
          by_cases hlt : y < x
          case pos =>
            have HCc := Lib.hid (HC.out wr HBw.out y x hxn)
            cases hcg : chg b.to_ y x with
            | false =>
              rw [hcg] at HCc
              have HT2 := Lib.hid (okTo_next HT.out (fun h => by rw [hcg] at h; cases h))
              clear HT hcg
              go_wp2_with ((go_at_call 34; refine HCc.out.mono ?_; rintro e wd ⟨rfl, hbd⟩))
              go_roundw
              case rel => exact ⟨y + 1, by omega, by go_num, HT2.out, HB.out.trans (hbd.mono HB.out.size)⟩
              case measure => simp [intOf]; omega
            | true =>
              rw [hcg] at HCc
              obtain ⟨fb, hfb⟩ : ∃ q, q = isFr b y x := ⟨_, rfl⟩
              obtain ⟨py, hpy⟩ : ∃ q, q = plan.getD y 0 := ⟨_, rfl⟩
              have hpyl : py < (ns.length : Int) := by rw [hpy]; exact HLe.out y (by omega)
              have hpxl : px < (ns.length : Int) := by rw [HPx.out]; exact HLe.out x (by omega)
              have HBy : Hid (∀ W, Below w.heap.size w W → Calls Try.prog 58 #[.slice F b.fronts.length fc, .agg #[.int .i64 (y : Int), .int .i64 (x : Int)], .func (.func 45) #[] #[]] W fun e w' => ∃ i : Nat, e = .returned (.tuple #[.int .i64 (i : Int), .bool fb]) ∧ Below W.heap.size W w') := fun W hb => by rw [hfb]; exact HBs.out W hb y x
              have g1w : ∀ W, Below wr.heap.size wr W → W.cell? ⟨w.heap.size, 1, none⟩ = some (.slice F b.fronts.length fc) := fun W hb => (bcell hb (lt_of_cell g1) 1).trans g1
              have HG1 := Lib.hid g1w
              have HT2 : Hid (py ≠ px → fb = decide (deepI ns px < deepI ns py) → okTo b ns plan x (y + 1)) := fun h1 h2 => okTo_next HT.out (fun _ => by rw [← hpy, ← HPx.out]; exact ⟨h1, by rw [← hfb]; exact h2⟩)
              have HBad : Hid (py = px ∨ fb ≠ decide (deepI ns px < deepI ns py) → okP b ns plan x = false) := fun h => ok_bad2 hlt hcg (by rw [← hpy, ← HPx.out, ← hfb]; exact h)
              have HCy : Hid (∀ W, Below w.heap.size w W → W.cell? ⟨pb, po + y, none⟩ = some (.int .i64 py)) := fun W hb => by rw [hpy]; exact HPc.out W hb y (by omega)
              clear hfb hpy hcg HT g1w
              go_upto_region 12 with (first
                | (go_at_call 34; refine HCc.out.mono ?_; rintro e wd ⟨rfl, hbd⟩; have g1d := HG1.out wd hbd)
                | (go_at_call 58; refine (HBy.out _ (HBw.out.trans (hbd.mono HBw.out.size))).mono ?_; rintro e we ⟨bi, rfl, hbe⟩))
              refine abs_world (Q := fun W => Code.wp _ _ _ _ W) (F := fun W => Below wr.heap.size wr W) _ (hbd.trans (hbe.mono hbd.size)) ?_
              clear hbd hbe g0 g1 g1d HCc HBy HG1
              intro W5 hb5
              have HB5 := Lib.hid (HB.out.trans (hb5.mono HB.out.size))
              have hbw5 := HBw.out.trans (hb5.mono HBw.out.size)
              have y0 := HCy.out W5 hbw5
              have x0 := HCx.out W5 hbw5
              have HBw5 := Lib.hid hbw5
              have HDD := Lib.hid (fun m a ha => HD.out (W5.drewN m) (below_drewN29 hbw5 m) a ha)
              have HXl := Lib.hid hpxl
              have HYl := Lib.hid hpyl
              have hyi : (y : Int) < (x : Int) + 1 := by omega
              have hyi2 : (y : Int) < ((x + 1 : Nat) : Int) := by omega
              have hy0 : (0 : Int) ≤ (y : Int) := by omega
              clear hb5 hbw5 HB HBw HCy hpxl hpyl
              by_cases hpe : py = px
              · have HF := Lib.hid (HBad.out (Or.inl hpe))
                have d1 : (py == px) = true := beq_iff_eq.2 hpe
                clear hpe HBad HT2
                go_quiet (fail)
                go_wp2
                go_ret
                exact ⟨ret_bool HF.out.symm, below_drewN29 HBw5.out _⟩
              · have d1 : (py == px) = false := beq_eq_false_iff_ne.2 hpe
                have HNe := Lib.hid hpe
                clear hpe
                by_cases hdd : deepI ns px < deepI ns py
                · have d2 : decide (deepI ns px < deepI ns py) = true := decide_eq_true hdd
                  rw [d2] at HBad HT2
                  clear hdd
                  cases fb with
                  | true =>
                    have HT3 := Lib.hid (HT2.out HNe.out rfl)
                    clear HBad HT2
                    go_quiet ((go_at_call 33; refine quiet_same' (HDD.out _ _ ?_); first | exact HYl.out | exact HXl.out))
                    go_wp2
                    go_roundw
                    case rel => exact ⟨y + 1, by omega, by go_num, HT3.out, below_drewN29 HB5.out _⟩
                    case measure => simp [intOf]; omega
                  | false =>
                    have HF := Lib.hid (HBad.out (Or.inr (by decide)))
                    clear HBad HT2
                    go_quiet ((go_at_call 33; refine quiet_same' (HDD.out _ _ ?_); first | exact HYl.out | exact HXl.out))
                    go_wp2
                    go_ret
                    exact ⟨ret_bool HF.out.symm, below_drewN29 HBw5.out _⟩
                · have d2 : decide (deepI ns px < deepI ns py) = false := decide_eq_false hdd
                  rw [d2] at HBad HT2
                  clear hdd
                  cases fb with
                  | false =>
                    have HT3 := Lib.hid (HT2.out HNe.out rfl)
                    clear HBad HT2
                    go_quiet ((go_at_call 33; refine quiet_same' (HDD.out _ _ ?_); first | exact HYl.out | exact HXl.out))
                    go_wp2
                    go_roundw
                    case rel => exact ⟨y + 1, by omega, by go_num, HT3.out, below_drewN29 HB5.out _⟩
                    case measure => simp [intOf]; omega
                  | true =>
                    have HF := Lib.hid (HBad.out (Or.inr (by decide)))
                    clear HBad HT2
                    go_quiet ((go_at_call 33; refine quiet_same' (HDD.out _ _ ?_); first | exact HYl.out | exact HXl.out))
                    go_wp2
                    go_ret
                    exact ⟨ret_bool HF.out.symm, below_drewN29 HBw5.out _⟩
          case neg =>
            have HF : Hid (okP b ns plan x = true) := by
              have e : y = x := by omega
              rw [e] at HT
              exact ok_good (fun h => HT1.out (by rw [HPx.out]; exact h)) HT.out
            clear HT
            go_wp2
            go_ret
            exact ⟨ret_bool HF.out.symm, HBw.out⟩
      | true =>
        have hq4 := hq3 rfl
        clear hq3
        go_upto_region 7 with fail
        clear hq1 hq2 hq4
        refine abs_world (Q := fun W => Code.wp _ _ _ _ W) (F := fun W => Below w1.heap.size w1 W) _ HX.out ?_
        intro W4 hb4
        have HB4 := Lib.hid hb4
        clear hb4 HX g0 g1 c0 HB HBw
        go_wp2
        go_loopw [36] (fun s36 wr => ∃ y : Nat, y ≤ x ∧ s36 = .int .i64 (y : Int) ∧ Hid (okTo b ns plan x y) ∧ Hid (Below w1.heap.size w1 wr)) (fun s36 _ => x - (intOf s36).toNat)
        case atStart => exact ⟨0, Nat.zero_le _, rfl, fun z hz => absurd hz (Nat.not_lt_zero z), HB4.out⟩
        case round =>
          clear HB4
          obtain ⟨y, hyx, rfl, HT, HB⟩ := hrel
          have HBw := Lib.hid (HB0.out.trans (HB.out.mono HB0.out.size))
          have g0 := (bcell HB.out (lt_of_cell HG.out.1) 0).trans HG.out.1
          have g1 := (bcell HB.out (lt_of_cell HG.out.2) 1).trans HG.out.2
          by_cases hlt : y < x
          case pos =>
            have HCc := Lib.hid (HC.out wr HBw.out y x hxn)
            cases hcg : chg b.to_ y x with
            | false =>
              rw [hcg] at HCc
              have HT2 := Lib.hid (okTo_next HT.out (fun h => by rw [hcg] at h; cases h))
              clear HT hcg
              go_wp2_with ((go_at_call 34; refine HCc.out.mono ?_; rintro e wd ⟨rfl, hbd⟩))
              go_roundw
              case rel => exact ⟨y + 1, by omega, by go_num, HT2.out, HB.out.trans (hbd.mono HB.out.size)⟩
              case measure => simp [intOf]; omega
            | true =>
              rw [hcg] at HCc
              obtain ⟨fb, hfb⟩ : ∃ q, q = isFr b y x := ⟨_, rfl⟩
              obtain ⟨py, hpy⟩ : ∃ q, q = plan.getD y 0 := ⟨_, rfl⟩
              have hpyl : py < (ns.length : Int) := by rw [hpy]; exact HLe.out y (by omega)
              have hpxl : px < (ns.length : Int) := by rw [HPx.out]; exact HLe.out x (by omega)
              have HBy : Hid (∀ W, Below w.heap.size w W → Calls Try.prog 58 #[.slice F b.fronts.length fc, .agg #[.int .i64 (y : Int), .int .i64 (x : Int)], .func (.func 45) #[] #[]] W fun e w' => ∃ i : Nat, e = .returned (.tuple #[.int .i64 (i : Int), .bool fb]) ∧ Below W.heap.size W w') := fun W hb => by rw [hfb]; exact HBs.out W hb y x
              have g1w : ∀ W, Below wr.heap.size wr W → W.cell? ⟨w.heap.size, 1, none⟩ = some (.slice F b.fronts.length fc) := fun W hb => (bcell hb (lt_of_cell g1) 1).trans g1
              have HG1 := Lib.hid g1w
              have HT2 : Hid (py ≠ px → fb = decide (deepI ns px < deepI ns py) → okTo b ns plan x (y + 1)) := fun h1 h2 => okTo_next HT.out (fun _ => by rw [← hpy, ← HPx.out]; exact ⟨h1, by rw [← hfb]; exact h2⟩)
              have HBad : Hid (py = px ∨ fb ≠ decide (deepI ns px < deepI ns py) → okP b ns plan x = false) := fun h => ok_bad2 hlt hcg (by rw [← hpy, ← HPx.out, ← hfb]; exact h)
              have HCy : Hid (∀ W, Below w.heap.size w W → W.cell? ⟨pb, po + y, none⟩ = some (.int .i64 py)) := fun W hb => by rw [hpy]; exact HPc.out W hb y (by omega)
              clear hfb hpy hcg HT g1w
              go_upto_region 12 with (first
                | (go_at_call 34; refine HCc.out.mono ?_; rintro e wd ⟨rfl, hbd⟩; have g1d := HG1.out wd hbd)
                | (go_at_call 58; refine (HBy.out _ (HBw.out.trans (hbd.mono HBw.out.size))).mono ?_; rintro e we ⟨bi, rfl, hbe⟩))
              refine abs_world (Q := fun W => Code.wp _ _ _ _ W) (F := fun W => Below wr.heap.size wr W) _ (hbd.trans (hbe.mono hbd.size)) ?_
              clear hbd hbe g0 g1 g1d HCc HBy HG1
              intro W5 hb5
              have HB5 := Lib.hid (HB.out.trans (hb5.mono HB.out.size))
              have hbw5 := HBw.out.trans (hb5.mono HBw.out.size)
              have y0 := HCy.out W5 hbw5
              have x0 := HCx.out W5 hbw5
              have HBw5 := Lib.hid hbw5
              have HDD := Lib.hid (fun m a ha => HD.out (W5.drewN m) (below_drewN29 hbw5 m) a ha)
              have HXl := Lib.hid hpxl
              have HYl := Lib.hid hpyl
              have hyi : (y : Int) < (x : Int) + 1 := by omega
              have hyi2 : (y : Int) < ((x + 1 : Nat) : Int) := by omega
              have hy0 : (0 : Int) ≤ (y : Int) := by omega
              clear hb5 hbw5 HB HBw HCy hpxl hpyl
              by_cases hpe : py = px
              · have HF := Lib.hid (HBad.out (Or.inl hpe))
                have d1 : (py == px) = true := beq_iff_eq.2 hpe
                clear hpe HBad HT2
                go_quiet (fail)
                go_wp2
                go_ret
                exact ⟨ret_bool HF.out.symm, below_drewN29 HBw5.out _⟩
              · have d1 : (py == px) = false := beq_eq_false_iff_ne.2 hpe
                have HNe := Lib.hid hpe
                clear hpe
                by_cases hdd : deepI ns px < deepI ns py
                · have d2 : decide (deepI ns px < deepI ns py) = true := decide_eq_true hdd
                  rw [d2] at HBad HT2
                  clear hdd
                  cases fb with
                  | true =>
                    have HT3 := Lib.hid (HT2.out HNe.out rfl)
                    clear HBad HT2
                    go_quiet ((go_at_call 33; refine quiet_same' (HDD.out _ _ ?_); first | exact HYl.out | exact HXl.out))
                    go_wp2
                    go_roundw
                    case rel => exact ⟨y + 1, by omega, by go_num, HT3.out, below_drewN29 HB5.out _⟩
                    case measure => simp [intOf]; omega
                  | false =>
                    have HF := Lib.hid (HBad.out (Or.inr (by decide)))
                    clear HBad HT2
                    go_quiet ((go_at_call 33; refine quiet_same' (HDD.out _ _ ?_); first | exact HYl.out | exact HXl.out))
                    go_wp2
                    go_ret
                    exact ⟨ret_bool HF.out.symm, below_drewN29 HBw5.out _⟩
                · have d2 : decide (deepI ns px < deepI ns py) = false := decide_eq_false hdd
                  rw [d2] at HBad HT2
                  clear hdd
                  cases fb with
                  | false =>
                    have HT3 := Lib.hid (HT2.out HNe.out rfl)
                    clear HBad HT2
                    go_quiet ((go_at_call 33; refine quiet_same' (HDD.out _ _ ?_); first | exact HYl.out | exact HXl.out))
                    go_wp2
                    go_roundw
                    case rel => exact ⟨y + 1, by omega, by go_num, HT3.out, below_drewN29 HB5.out _⟩
                    case measure => simp [intOf]; omega
                  | true =>
                    have HF := Lib.hid (HBad.out (Or.inr (by decide)))
                    clear HBad HT2
                    go_quiet ((go_at_call 33; refine quiet_same' (HDD.out _ _ ?_); first | exact HYl.out | exact HXl.out))
                    go_wp2
                    go_ret
                    exact ⟨ret_bool HF.out.symm, below_drewN29 HBw5.out _⟩
          case neg =>
            have HF : Hid (okP b ns plan x = true) := by
              have e : y = x := by omega
              rw [e] at HT
              exact ok_good (fun h => HT1.out (by rw [HPx.out]; exact h)) HT.out
            clear HT
            go_wp2
            go_ret
            exact ⟨ret_bool HF.out.symm, HBw.out⟩
end Go.Proofs.Ytodjkifcbgmckaa
