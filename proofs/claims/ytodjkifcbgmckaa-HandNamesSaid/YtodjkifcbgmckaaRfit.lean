/- Layer 29: the reference's depth, fits. -/
import Derived.Test.YtodjkifcbgmckaaHal
import Derived.ChangeKeysEq
namespace Go.Proofs.Ytodjkifcbgmckaa
open Go.RowKit Go.Shelf Go.Sort
set_option maxRecDepth 100000

theorem rdepth_any (A : Option Addr) (c : Nat) (ns : List Int) (a : Int) (h : a < (ns.length : Int)) (hn : ns.length ≤ 1000000) (w : World) (hs : SlI w w.heap.size A ns) :
    Calls Try.prog 59 #[.slice A ns.length c, .int .i64 a] w fun e w' => e = .returned (.int .i64 (deepI ns a)) ∧ w = w' := by
  by_cases h0 : a < 0
  · have e1 : decide (a < 0) = true := decide_eq_true h0
    have HE : Hid (deepI ns a = 0) := by unfold Hid deepI; rw [if_pos h0]
    clear h h0 hs
    go_enter Try.func59, Try.ntmps59
    go_wp2
    go_ret
    exact ⟨ret_int HE.out.symm, rfl⟩
  · have e1 : decide (a < 0) = false := decide_eq_false h0
    obtain ⟨k, rfl⟩ : ∃ k : Nat, a = (k : Int) := ⟨a.toNat, by omega⟩
    have hk : k < ns.length := by omega
    obtain ⟨b, off, hA, hb, hc⟩ := hs (fun e => by subst e; simp at hk)
    have c0 := hc k _ (List.getElem?_eq_getElem hk)
    have HE : Hid (deepI ns (k : Int) = ns[k]) := by
      unfold Hid deepI
      rw [if_neg h0, Int.toNat_natCast, List.getD_eq_getElem?_getD, List.getElem?_eq_getElem hk]
      rfl
    have hk0 : (0 : Int) ≤ (k : Int) := by omega
    generalize ns[k] = x at c0 HE
    subst hA
    clear hs hc h0
    go_enter Try.func59, Try.ntmps59
    go_wp2
    go_ret
    exact ⟨ret_int HE.out.symm, rfl⟩
set_option maxHeartbeats 4000000 in
theorem eql_pr (W : World) (a b c d : Int) : (binOp .eql 66 (.agg #[.int .i64 a, .int .i64 b]) (.agg #[.int .i64 c, .int .i64 d])).run Try.prog W = .ok (.bool (decide ((a, b) = (c, d)))) W := by
  obtain ⟨i1, hi', hz0', hz1', hz2'⟩ := info_parts info_int'
  rw [run_eql_struct, show (10000 : Nat) = 9999 + 1 from rfl, run_equalIn_array W 9999 _ _ Try.underlying66 hi', show Try.prog.cellsOf 3 = 1 by kernel_rfl]
  by_cases h1 : a = c
  · subst h1
    by_cases h2 : b = d
    · subst h2
      simp [Op.eqItems, List.range, List.range.loop, part, go_sem]
    · simp [Op.eqItems, List.range, List.range.loop, part, go_sem, h2]
  · have h1' : (a == c) = false := beq_eq_false_iff_ne.2 h1
    have h3 : decide ((a, b) = (c, d)) = false := decide_eq_false (fun e => h1 (Prod.mk.inj e).1)
    rw [h3]
    clear h3
    simp [Op.eqItems, List.range, List.range.loop, part, go_sem, h1']
theorem mem_take {l : List (Int × Int)} {i : Nat} {p t : Int × Int} (h : l[i]? = some p) : decide (t ∈ l.take (i + 1)) = (decide (t ∈ l.take i) || decide (p = t)) := by
  rw [List.take_add_one, h, Bool.eq_iff_iff, Bool.or_eq_true, decide_eq_true_iff, decide_eq_true_iff, decide_eq_true_iff, Option.toList_some, List.mem_append, List.mem_singleton]
  exact ⟨fun h => h.imp id Eq.symm, fun h => h.imp id Eq.symm⟩

set_option maxHeartbeats 64000000 in
theorem fits_any (A F : Option Addr) (c fc : Nat) (b : Brd) (h8 : b.to_.length ≤ 8) (hfl : b.fronts.length ≤ 1000000) (An : Option Addr) (cn : Nat) (ns : List Int) (hn : ns.length ≤ 1000000) (Ap : Option Addr) (cp : Nat) (plan : List Int) (x : Nat) (hx : x < plan.length) (hpm : plan.length ≤ 1000000) (hxn : x < b.to_.length) (hpl : ∀ a ∈ plan, a < (ns.length : Int)) (w : World) (hs : SlI w w.heap.size A b.to_) (hp : SlPr w w.heap.size F b.fronts) (hns : SlI w w.heap.size An ns) (hpn : SlI w w.heap.size Ap plan) :
    Calls Try.prog 42 #[.agg #[.slice A b.to_.length c, .slice F b.fronts.length fc], .slice An ns.length cn, .slice Ap plan.length cp, .int .i64 (x : Int)] w fun e w' => e = .returned (.bool (okP b ns plan x)) ∧ Below w.heap.size w w' := by
  have HB0 := Lib.hid ((Below.refl w.heap.size w).alloc (Nat.le_refl _) (.cells #[.slice A b.to_.length c, .slice F b.fronts.length fc] 26))
  have g0 : (w.alloc (.cells #[.slice A b.to_.length c, .slice F b.fronts.length fc] 26)).cell? ⟨w.heap.size, 0, none⟩ = some (.slice A b.to_.length c) := cell_new rfl rfl rfl
  have g1 : (w.alloc (.cells #[.slice A b.to_.length c, .slice F b.fronts.length fc] 26)).cell? ⟨w.heap.size, 1, none⟩ = some (.slice F b.fronts.length fc) := cell_new rfl rfl rfl
  have hle : ∀ k, k < plan.length → plan.getD k 0 < (ns.length : Int) := fun k hk => hpl _ (by rw [List.getD_eq_getElem?_getD, List.getElem?_eq_getElem hk]; exact List.getElem_mem hk)
  have HC : Hid (∀ W, Below w.heap.size w W → ∀ u v : Nat, v < b.to_.length → Calls Try.prog 35 #[.slice A b.to_.length c, .int .i64 (u : Int), .int .i64 (v : Int)] W fun e w' => e = .returned (.bool (chg b.to_ u v)) ∧ ∃ m, w' = W.drewN m) := fun W hb u v hv => rchg_any A c b.to_ (by omega) u v hv W ((hs.below hb).more hb.size)
  have HD : Hid (∀ W, Below w.heap.size w W → ∀ a : Int, a < (ns.length : Int) → Calls Try.prog 59 #[.slice An ns.length cn, .int .i64 a] W fun e w' => e = .returned (.int .i64 (deepI ns a)) ∧ W = w') := fun W hb a ha => rdepth_any An cn ns a ha hn W ((hns.below hb).more hb.size)
  obtain ⟨pb, po, hAp, hpb, hpc⟩ := sl_getD hpn hx
  subst hAp
  have HLe := Lib.hid hle
  have HPr := Lib.hid hp
  have HPc : Hid (∀ W, Below w.heap.size w W → ∀ j, j < plan.length → W.cell? ⟨pb, po + j, none⟩ = some (.int .i64 (plan.getD j 0))) := fun W hb j hj => (bcell hb hpb _).trans (hpc j hj)
  have HG := Lib.hid (And.intro g0 g1)
  obtain ⟨px, hpx⟩ : ∃ px, px = plan.getD x 0 := ⟨_, rfl⟩
  have HPx := Lib.hid hpx
  have HCx : Hid (∀ W, Below w.heap.size w W → W.cell? ⟨pb, po + x, none⟩ = some (.int .i64 px)) := fun W hb => by rw [hpx]; exact HPc.out W hb x hx
  have hxI : (x : Int) < (plan.length : Int) := by omega
  have hx0 : (0 : Int) ≤ (x : Int) := by omega
  clear hs hp hns hpn hpc hpb hpl hle g0 g1 hpx
  go_enter Try.func42, Try.ntmps42
  go_upto_region 1 with fail
  obtain ⟨w1, hw1⟩ : ∃ w1, w1 = w.alloc (.cells #[.slice A b.to_.length c, .slice F b.fronts.length fc] 26) := ⟨_, rfl⟩
  rw [← hw1] at HG HB0 ⊢
  clear hw1
  have cx := HCx.out w1 HB0.out
  by_cases h0 : px < 0
  case pos =>
    have d0 : decide (px < 0) = true := decide_eq_true h0
    go_upto_region 2 with fail
    clear cx
    go_wp2
    go_loopw [9] (fun s9 wr => ∃ y : Nat, x + 1 ≤ y ∧ y ≤ b.to_.length ∧ s9 = .int .i64 (y : Int) ∧ Hid (∀ z, z < y → chg b.to_ x z = false) ∧ Hid (Below w1.heap.size w1 wr)) (fun s9 _ => b.to_.length - (intOf s9).toNat)
    case atStart => exact ⟨x + 1, Nat.le_refl _, hxn, by go_num, fun z hz => by cases e : chg b.to_ x z with | false => rfl | true => have := chg_lt e; omega, Below.refl _ _⟩
    case round =>
      obtain ⟨y, hxy, hyn, rfl, HT, HB⟩ := hrel
      have HBw := Lib.hid (HB0.out.trans (HB.out.mono HB0.out.size))
      have g0 := (bcell HB.out (lt_of_cell HG.out.1) 0).trans HG.out.1
      have g1 := (bcell HB.out (lt_of_cell HG.out.2) 1).trans HG.out.2
      by_cases hlt : y < b.to_.length
      case pos =>
        have HCc := Lib.hid (HC.out wr HBw.out x y hlt)
        have HFx : Hid (chg b.to_ x y = true → okP b ns plan x = false) := fun h => ok_bad1 (by rw [← HPx.out]; exact h0) hlt h
        cases hcg : chg b.to_ x y with
        | true =>
          rw [hcg] at HCc
          have HF := Lib.hid (HFx.out hcg)
          clear HT hcg HFx
          go_wp2_with ((go_at_call 35; refine HCc.out.mono ?_; rintro e wd ⟨rfl, m, rfl⟩))
          go_ret
          exact ⟨ret_bool HF.out.symm, below_drewN29 HBw.out _⟩
        | false =>
          rw [hcg] at HCc
          have HT2 : Hid (∀ z, z < y + 1 → chg b.to_ x z = false) := fun z hz => by
            by_cases e : z = y
            · rw [e]; exact hcg
            · exact HT.out z (by omega)
          clear HT hcg HFx
          go_wp2_with ((go_at_call 35; refine HCc.out.mono ?_; rintro e wd ⟨rfl, m, rfl⟩))
          go_roundw
          case rel => exact ⟨y + 1, by omega, by omega, by go_num, HT2.out, below_drewN29 HB.out _⟩
          case measure => simp [intOf]; omega
      case neg =>
        have HT1 : Hid (px < 0 → ∀ z, z < b.to_.length → chg b.to_ x z = false) := fun _ z hz => HT.out z (by omega)
        have HX : Hid (Below w1.heap.size w1 wr) := HB.out
        clear HT
        go_upto_region 7 with fail
        clear hlt
        refine abs_world (Q := fun W => Code.wp _ _ _ _ W) (F := fun W => Below w1.heap.size w1 W) _ HX.out ?_
        intro W4 hb4
        have HB4 := Lib.hid hb4
        clear hb4 HX g0 d0
        go_wp2
        go_loopw [10] (fun s10 wr => ∃ y : Nat, y ≤ x ∧ s10 = .int .i64 (y : Int) ∧ Hid (okTo b ns plan x y) ∧ Hid (Below w1.heap.size w1 wr)) (fun s10 _ => x - (intOf s10).toNat)
        case atStart => exact ⟨0, Nat.zero_le _, rfl, fun z hz => absurd hz (Nat.not_lt_zero z), HB4.out⟩
        case round =>
          clear HB4
          obtain ⟨y, hyx, rfl, HT, HB⟩ := hrel
          have HBw := Lib.hid (HB0.out.trans (HB.out.mono HB0.out.size))
          have g0 := (bcell HB.out (lt_of_cell HG.out.1) 0).trans HG.out.1
          by_cases hlt : y < x
          case pos =>
            have HCc := Lib.hid (HC.out wr HBw.out y x hxn)
            cases hcg : chg b.to_ y x with
            | false =>
              rw [hcg] at HCc
              have HT2 := Lib.hid (okTo_next HT.out (fun h => by rw [hcg] at h; cases h))
              clear HT hcg
              go_wp2_with ((go_at_call 35; refine HCc.out.mono ?_; rintro e wd ⟨rfl, m, rfl⟩))
              go_roundw
              case rel => exact ⟨y + 1, by omega, by go_num, HT2.out, below_drewN29 HB.out _⟩
              case measure => simp [intOf]; omega
            | true =>
              rw [hcg] at HCc
              obtain ⟨py, hpy⟩ : ∃ q, q = plan.getD y 0 := ⟨_, rfl⟩
              have hpyl : py < (ns.length : Int) := by rw [hpy]; exact HLe.out y (by omega)
              have hpxl : px < (ns.length : Int) := by rw [HPx.out]; exact HLe.out x hx
              have HT2 : Hid (py ≠ px → isFr b y x = decide (deepI ns px < deepI ns py) → okTo b ns plan x (y + 1)) := fun h1 h2 => okTo_next HT.out (fun _ => by rw [← hpy, ← HPx.out]; exact ⟨h1, h2⟩)
              have HBad : Hid (py = px ∨ isFr b y x ≠ decide (deepI ns px < deepI ns py) → okP b ns plan x = false) := fun h => ok_bad2 hlt hcg (by rw [← hpy, ← HPx.out]; exact h)
              have HCy : Hid (∀ W, Below w.heap.size w W → W.cell? ⟨pb, po + y, none⟩ = some (.int .i64 py)) := fun W hb => by rw [hpy]; exact HPc.out W hb y (by omega)
              clear hpy hcg HT
              go_upto_region 11 with ((go_at_call 35; refine HCc.out.mono ?_; rintro e wd ⟨rfl, m, rfl⟩))
              refine abs_world (Q := fun W => Code.wp _ _ _ _ W) (F := fun W => Below wr.heap.size wr W) _ (below_drewN29 (Below.refl _ wr) _) ?_
              clear g0 HCc
              intro W5 hb5
              have HB5 := Lib.hid (HB.out.trans (hb5.mono HB.out.size))
              have hbw5 := HBw.out.trans (hb5.mono HBw.out.size)
              have y0 := HCy.out W5 hbw5
              have x0 := HCx.out W5 hbw5
              have HBw5 := Lib.hid hbw5
              have HXl := Lib.hid hpxl
              have HYl := Lib.hid hpyl
              have hyi : (y : Int) < (plan.length : Int) := by omega
              have hy0 : (0 : Int) ≤ (y : Int) := by omega
              clear hb5 hbw5 HB HBw hpxl hpyl
              by_cases hpe : py = px
              · have HF := Lib.hid (HBad.out (Or.inl hpe))
                have d1 : (py == px) = true := beq_iff_eq.2 hpe
                clear hpe HBad HT2
                go_quiet (fail)
                go_wp2
                go_ret
                exact ⟨ret_bool HF.out.symm, below_drewN29 HBw5.out _⟩
              · have d1 : (py == px) = false := beq_eq_false_iff_ne.2 hpe
                have HNe := Lib.hid hpe
                clear hpe
                go_quiet (fail)
                go_upto_region 13 with fail
                refine abs_world (Q := fun W => Code.wp _ _ _ _ W) (F := fun W => Below w1.heap.size w1 W) _ (below_drewN29 HB5.out _) ?_
                clear y0 x0 HB5 HBw5 d1
                intro W6 hb6
                have HB6 := Lib.hid hb6
                clear hb6
                go_wp2
                go_loopw [11, 12] (fun s11 s12 wr => ∃ (i : Nat) (fb : Bool), i ≤ b.fronts.length ∧ s11 = .bool fb ∧ s12 = .int .i64 (i : Int) ∧ Hid (fb = decide (((y : Int), (x : Int)) ∈ b.fronts.take i)) ∧ Hid (Below w1.heap.size w1 wr)) (fun _ s12 _ => b.fronts.length - (intOf s12).toNat)
                case atStart => exact ⟨0, false, Nat.zero_le _, rfl, rfl, (by show _ = _; simp), HB6.out⟩
                case round =>
                  clear HB6
                  obtain ⟨i, fb, hi, rfl, rfl, HFb, HB7⟩ := hrel
                  have HBw7 := Lib.hid (HB0.out.trans (HB7.out.mono HB0.out.size))
                  have g1 := (bcell HB7.out (lt_of_cell HG.out.2) 1).trans HG.out.2
                  by_cases hil : i < b.fronts.length
                  case pos =>
                    obtain ⟨pq, off, p, hFq, hBq, hpi, r0, r1⟩ := HPr.out.at_ hil
                    subst hFq
                    have q0 := (bcell HBw7.out hBq _).trans r0
                    have q1 := (bcell HBw7.out hBq _).trans r1
                    have hmt := mem_take (t := ((y : Int), (x : Int))) hpi
                    have hiI : (i : Int) < (b.fronts.length : Int) := by omega
                    have hi0 : (0 : Int) ≤ (i : Int) := by omega
                    cases fb with
                    | true =>
                      have HF2 : Hid (true = decide (((y : Int), (x : Int)) ∈ b.fronts.take (i + 1))) := by show _ = _; rw [hmt, ← HFb.out]; rfl
                      clear hmt r0 r1 hpi hBq q0 q1
                      go_wp2
                      go_roundw
                      case rel => exact ⟨i + 1, true, by omega, rfl, by go_num, HF2.out, HB7.out⟩
                      case measure => simp [intOf]; omega
                    | false =>
                      obtain ⟨p1, p2⟩ := p
                      simp only at q0 q1
                      have hN := fun W => eql_pr W p1 p2 (y : Int) (x : Int)
                      obtain ⟨q, hq⟩ : ∃ q, q = decide (((p1, p2) : Int × Int) = ((y : Int), (x : Int))) := ⟨_, rfl⟩
                      rw [← hq] at hmt
                      simp only [← hq] at hN
                      have HF2 : Hid (q = decide (((y : Int), (x : Int)) ∈ b.fronts.take (i + 1))) := by show _ = _; rw [hmt, ← HFb.out]; rfl
                      clear hmt r0 r1 hpi hBq hq
                      go_wp2
                      go_roundw
                      case rel => exact ⟨i + 1, q, by omega, rfl, by go_num, HF2.out, HB7.out⟩
                      case measure => simp [intOf]; omega
                  case neg =>
                    have HI : Hid (isFr b y x = fb) := by
                      have h := HFb.out
                      rw [List.take_of_length_le (by omega)] at h
                      exact h.symm
                    have y0 := HCy.out wr HBw7.out
                    have x0 := HCx.out wr HBw7.out
                    have HDD := Lib.hid (fun m a ha => HD.out (wr.drewN m) (below_drewN29 HBw7.out m) a ha)
                    clear HFb
                    by_cases hdd : deepI ns px < deepI ns py
                    · have d2 : decide (deepI ns px < deepI ns py) = true := decide_eq_true hdd
                      rw [d2] at HBad HT2
                      clear hdd
                      cases fb with
                      | true =>
                        have HT3 := Lib.hid (HT2.out HNe.out (by rw [HI.out]))
                        clear HBad HT2
                        go_upto_region 18 with fail
                        go_quiet ((go_at_call 59; refine quiet_same' (HDD.out _ _ ?_); first | exact HYl.out | exact HXl.out))
                        go_wp2
                        go_roundw
                        case rel => exact ⟨y + 1, by omega, by go_num, HT3.out, below_drewN29 HB7.out _⟩
                        case measure => simp [intOf]; omega
                      | false =>
                        have HF := Lib.hid (HBad.out (Or.inr (by rw [HI.out]; decide)))
                        clear HBad HT2
                        go_upto_region 18 with fail
                        go_quiet ((go_at_call 59; refine quiet_same' (HDD.out _ _ ?_); first | exact HYl.out | exact HXl.out))
                        go_wp2
                        go_ret
                        exact ⟨ret_bool HF.out.symm, below_drewN29 HBw7.out _⟩
                    · have d2 : decide (deepI ns px < deepI ns py) = false := decide_eq_false hdd
                      rw [d2] at HBad HT2
                      clear hdd
                      cases fb with
                      | false =>
                        have HT3 := Lib.hid (HT2.out HNe.out (by rw [HI.out]))
                        clear HBad HT2
                        go_upto_region 18 with fail
                        go_quiet ((go_at_call 59; refine quiet_same' (HDD.out _ _ ?_); first | exact HYl.out | exact HXl.out))
                        go_wp2
                        go_roundw
                        case rel => exact ⟨y + 1, by omega, by go_num, HT3.out, below_drewN29 HB7.out _⟩
                        case measure => simp [intOf]; omega
                      | true =>
                        have HF := Lib.hid (HBad.out (Or.inr (by rw [HI.out]; decide)))
                        clear HBad HT2
                        go_upto_region 18 with fail
                        go_quiet ((go_at_call 59; refine quiet_same' (HDD.out _ _ ?_); first | exact HYl.out | exact HXl.out))
                        go_wp2
                        go_ret
                        exact ⟨ret_bool HF.out.symm, below_drewN29 HBw7.out _⟩
          case neg =>
            have HF : Hid (okP b ns plan x = true) := by
              have e : y = x := by omega
              rw [e] at HT
              exact ok_good (fun h => HT1.out (by rw [HPx.out]; exact h)) HT.out
            clear HT
            go_wp2
            go_ret
            exact ⟨ret_bool HF.out.symm, HBw.out⟩
  case neg =>
    have d0 : decide (px < 0) = false := decide_eq_false h0
    have HT1 : Hid (px < 0 → ∀ z, z < b.to_.length → chg b.to_ x z = false) := fun h => absurd h h0
    have HX : Hid (Below w1.heap.size w1 w1) := Below.refl _ _
    go_upto_region 7 with fail
    clear cx
    have g0 := HG.out.1
    refine abs_world (Q := fun W => Code.wp _ _ _ _ W) (F := fun W => Below w1.heap.size w1 W) _ HX.out ?_
    intro W4 hb4
    have HB4 := Lib.hid hb4
    clear hb4 HX g0 d0
    go_wp2
    go_loopw [10] (fun s10 wr => ∃ y : Nat, y ≤ x ∧ s10 = .int .i64 (y : Int) ∧ Hid (okTo b ns plan x y) ∧ Hid (Below w1.heap.size w1 wr)) (fun s10 _ => x - (intOf s10).toNat)
    case atStart => exact ⟨0, Nat.zero_le _, rfl, fun z hz => absurd hz (Nat.not_lt_zero z), HB4.out⟩
    case round =>
      clear HB4
      obtain ⟨y, hyx, rfl, HT, HB⟩ := hrel
      have HBw := Lib.hid (HB0.out.trans (HB.out.mono HB0.out.size))
      have g0 := (bcell HB.out (lt_of_cell HG.out.1) 0).trans HG.out.1
      by_cases hlt : y < x
      case pos =>
        have HCc := Lib.hid (HC.out wr HBw.out y x hxn)
        cases hcg : chg b.to_ y x with
        | false =>
          rw [hcg] at HCc
          have HT2 := Lib.hid (okTo_next HT.out (fun h => by rw [hcg] at h; cases h))
          clear HT hcg
          go_wp2_with ((go_at_call 35; refine HCc.out.mono ?_; rintro e wd ⟨rfl, m, rfl⟩))
          go_roundw
          case rel => exact ⟨y + 1, by omega, by go_num, HT2.out, below_drewN29 HB.out _⟩
          case measure => simp [intOf]; omega
        | true =>
          rw [hcg] at HCc
          obtain ⟨py, hpy⟩ : ∃ q, q = plan.getD y 0 := ⟨_, rfl⟩
          have hpyl : py < (ns.length : Int) := by rw [hpy]; exact HLe.out y (by omega)
          have hpxl : px < (ns.length : Int) := by rw [HPx.out]; exact HLe.out x hx
          have HT2 : Hid (py ≠ px → isFr b y x = decide (deepI ns px < deepI ns py) → okTo b ns plan x (y + 1)) := fun h1 h2 => okTo_next HT.out (fun _ => by rw [← hpy, ← HPx.out]; exact ⟨h1, h2⟩)
          have HBad : Hid (py = px ∨ isFr b y x ≠ decide (deepI ns px < deepI ns py) → okP b ns plan x = false) := fun h => ok_bad2 hlt hcg (by rw [← hpy, ← HPx.out]; exact h)
          have HCy : Hid (∀ W, Below w.heap.size w W → W.cell? ⟨pb, po + y, none⟩ = some (.int .i64 py)) := fun W hb => by rw [hpy]; exact HPc.out W hb y (by omega)
          clear hpy hcg HT
          go_upto_region 11 with ((go_at_call 35; refine HCc.out.mono ?_; rintro e wd ⟨rfl, m, rfl⟩))
          refine abs_world (Q := fun W => Code.wp _ _ _ _ W) (F := fun W => Below wr.heap.size wr W) _ (below_drewN29 (Below.refl _ wr) _) ?_
          clear g0 HCc
          intro W5 hb5
          have HB5 := Lib.hid (HB.out.trans (hb5.mono HB.out.size))
          have hbw5 := HBw.out.trans (hb5.mono HBw.out.size)
          have y0 := HCy.out W5 hbw5
          have x0 := HCx.out W5 hbw5
          have HBw5 := Lib.hid hbw5
          have HXl := Lib.hid hpxl
          have HYl := Lib.hid hpyl
          have hyi : (y : Int) < (plan.length : Int) := by omega
          have hy0 : (0 : Int) ≤ (y : Int) := by omega
          clear hb5 hbw5 HB HBw hpxl hpyl
          by_cases hpe : py = px
          · have HF := Lib.hid (HBad.out (Or.inl hpe))
            have d1 : (py == px) = true := beq_iff_eq.2 hpe
            clear hpe HBad HT2
            go_quiet (fail)
            go_wp2
            go_ret
            exact ⟨ret_bool HF.out.symm, below_drewN29 HBw5.out _⟩
          · have d1 : (py == px) = false := beq_eq_false_iff_ne.2 hpe
            have HNe := Lib.hid hpe
            clear hpe
            go_quiet (fail)
            go_upto_region 13 with fail
            refine abs_world (Q := fun W => Code.wp _ _ _ _ W) (F := fun W => Below w1.heap.size w1 W) _ (below_drewN29 HB5.out _) ?_
            clear y0 x0 HB5 HBw5 d1
            intro W6 hb6
            have HB6 := Lib.hid hb6
            clear hb6
            go_wp2
            go_loopw [11, 12] (fun s11 s12 wr => ∃ (i : Nat) (fb : Bool), i ≤ b.fronts.length ∧ s11 = .bool fb ∧ s12 = .int .i64 (i : Int) ∧ Hid (fb = decide (((y : Int), (x : Int)) ∈ b.fronts.take i)) ∧ Hid (Below w1.heap.size w1 wr)) (fun _ s12 _ => b.fronts.length - (intOf s12).toNat)
            case atStart => exact ⟨0, false, Nat.zero_le _, rfl, rfl, (by show _ = _; simp), HB6.out⟩
            case round =>
              clear HB6
              obtain ⟨i, fb, hi, rfl, rfl, HFb, HB7⟩ := hrel
              have HBw7 := Lib.hid (HB0.out.trans (HB7.out.mono HB0.out.size))
              have g1 := (bcell HB7.out (lt_of_cell HG.out.2) 1).trans HG.out.2
              by_cases hil : i < b.fronts.length
              case pos =>
                obtain ⟨pq, off, p, hFq, hBq, hpi, r0, r1⟩ := HPr.out.at_ hil
                subst hFq
                have q0 := (bcell HBw7.out hBq _).trans r0
                have q1 := (bcell HBw7.out hBq _).trans r1
                have hmt := mem_take (t := ((y : Int), (x : Int))) hpi
                have hiI : (i : Int) < (b.fronts.length : Int) := by omega
                have hi0 : (0 : Int) ≤ (i : Int) := by omega
                cases fb with
                | true =>
                  have HF2 : Hid (true = decide (((y : Int), (x : Int)) ∈ b.fronts.take (i + 1))) := by show _ = _; rw [hmt, ← HFb.out]; rfl
                  clear hmt r0 r1 hpi hBq q0 q1
                  go_wp2
                  go_roundw
                  case rel => exact ⟨i + 1, true, by omega, rfl, by go_num, HF2.out, HB7.out⟩
                  case measure => simp [intOf]; omega
                | false =>
                  obtain ⟨p1, p2⟩ := p
                  simp only at q0 q1
                  have hN := fun W => eql_pr W p1 p2 (y : Int) (x : Int)
                  obtain ⟨q, hq⟩ : ∃ q, q = decide (((p1, p2) : Int × Int) = ((y : Int), (x : Int))) := ⟨_, rfl⟩
                  rw [← hq] at hmt
                  simp only [← hq] at hN
                  have HF2 : Hid (q = decide (((y : Int), (x : Int)) ∈ b.fronts.take (i + 1))) := by show _ = _; rw [hmt, ← HFb.out]; rfl
                  clear hmt r0 r1 hpi hBq hq
                  go_wp2
                  go_roundw
                  case rel => exact ⟨i + 1, q, by omega, rfl, by go_num, HF2.out, HB7.out⟩
                  case measure => simp [intOf]; omega
              case neg =>
                have HI : Hid (isFr b y x = fb) := by
                  have h := HFb.out
                  rw [List.take_of_length_le (by omega)] at h
                  exact h.symm
                have y0 := HCy.out wr HBw7.out
                have x0 := HCx.out wr HBw7.out
                have HDD := Lib.hid (fun m a ha => HD.out (wr.drewN m) (below_drewN29 HBw7.out m) a ha)
                clear HFb
                by_cases hdd : deepI ns px < deepI ns py
                · have d2 : decide (deepI ns px < deepI ns py) = true := decide_eq_true hdd
                  rw [d2] at HBad HT2
                  clear hdd
                  cases fb with
                  | true =>
                    have HT3 := Lib.hid (HT2.out HNe.out (by rw [HI.out]))
                    clear HBad HT2
                    go_upto_region 18 with fail
                    go_quiet ((go_at_call 59; refine quiet_same' (HDD.out _ _ ?_); first | exact HYl.out | exact HXl.out))
                    go_wp2
                    go_roundw
                    case rel => exact ⟨y + 1, by omega, by go_num, HT3.out, below_drewN29 HB7.out _⟩
                    case measure => simp [intOf]; omega
                  | false =>
                    have HF := Lib.hid (HBad.out (Or.inr (by rw [HI.out]; decide)))
                    clear HBad HT2
                    go_upto_region 18 with fail
                    go_quiet ((go_at_call 59; refine quiet_same' (HDD.out _ _ ?_); first | exact HYl.out | exact HXl.out))
                    go_wp2
                    go_ret
                    exact ⟨ret_bool HF.out.symm, below_drewN29 HBw7.out _⟩
                · have d2 : decide (deepI ns px < deepI ns py) = false := decide_eq_false hdd
                  rw [d2] at HBad HT2
                  clear hdd
                  cases fb with
                  | false =>
                    have HT3 := Lib.hid (HT2.out HNe.out (by rw [HI.out]))
                    clear HBad HT2
                    go_upto_region 18 with fail
                    go_quiet ((go_at_call 59; refine quiet_same' (HDD.out _ _ ?_); first | exact HYl.out | exact HXl.out))
                    go_wp2
                    go_roundw
                    case rel => exact ⟨y + 1, by omega, by go_num, HT3.out, below_drewN29 HB7.out _⟩
                    case measure => simp [intOf]; omega
                  | true =>
                    have HF := Lib.hid (HBad.out (Or.inr (by rw [HI.out]; decide)))
                    clear HBad HT2
                    go_upto_region 18 with fail
                    go_quiet ((go_at_call 59; refine quiet_same' (HDD.out _ _ ?_); first | exact HYl.out | exact HXl.out))
                    go_wp2
                    go_ret
                    exact ⟨ret_bool HF.out.symm, below_drewN29 HBw7.out _⟩
      case neg =>
        have HF : Hid (okP b ns plan x = true) := by
          have e : y = x := by omega
          rw [e] at HT
          exact ok_good (fun h => HT1.out (by rw [HPx.out]; exact h)) HT.out
        clear HT
        go_wp2
        go_ret
        exact ⟨ret_bool HF.out.symm, HBw.out⟩
end Go.Proofs.Ytodjkifcbgmckaa
