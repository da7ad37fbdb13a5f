/- Layer 29: the reference's Depths and Fewest, walked. -/
import Derived.Test.YtodjkifcbgmckaaFwst
namespace Go.Proofs.Ytodjkifcbgmckaa
open Go.RowKit Go.Shelf Go.Sort
set_option maxRecDepth 100000

set_option maxHeartbeats 4000000 in
theorem rdepths_any (f k : Nat) (hf : f ≤ 4) (hk : k ≤ 4) (z : Int) (hz : z = (k : Int)) (w : World) :
    Calls Try.prog 48 #[.int .i64 (f : Int), .int .i64 z] w fun e w' => ∃ A c, e = .returned (.slice A (f + k) c) ∧ SlI w' w'.heap.size A (depthsL f k) ∧ Below w.heap.size w w' := by
  subst hz
  go_enter Try.func48, Try.ntmps48
  go_wp2
  go_loopw [5, 6] (fun s5 s6 wr => ∃ (i L : Nat) (A : Option Addr) (c : Nat), i ≤ L + 1 ∧ L + 1 ≤ i ∧ L ≤ f ∧ s5 = .slice A L c ∧ s6 = .int .i64 (i : Int) ∧ Hid (rowL wr w.heap.size A c (depthsL L 0)) ∧ Hid (Below w.heap.size w wr)) (fun _ s6 _ => f + 1 - (intOf s6).toNat)
  case atStart => exact ⟨1, 0, none, 0, by omega, by omega, Nat.zero_le _, rfl, rfl, World.ownsRow_nil .., Below.refl _ _⟩
  case round =>
    obtain ⟨i, L, A, c, h1, h2, h3, rfl, rfl, HR, HB⟩ := hrel
    have hlen : (depthsL L 0).length = L := by rw [depths_len]; rfl
    have hsz := HB.out.size
    by_cases hlt : i ≤ f
    case pos =>
      obtain ⟨A2, c2, w2, hr, hrow, hb2⟩ := rowL_push HR.out hsz (by rw [hlen]; omega) (i : Int)
      rw [show depthsL L 0 ++ [(i : Int)] = depthsL (L + 1) 0 by rw [depths_front, show (i : Int) = (L : Int) + 1 by omega]] at hrow
      rw [hlen] at hr
      have HX := Lib.hid (And.intro hrow (HB.out.trans hb2))
      have d1 : decide (i ≤ f) = true := decide_eq_true hlt
      have d1' : decide ((i : Int) ≤ (f : Int)) = true := decide_eq_true (by omega)
      clear hrow hb2 hlen HR
      go_wp2_with (at_builtin; refine wpList_append_run _ rfl _ _ _ _ rfl _ _ (by rfl) (by rfl) hr ?_)
      clear hr
      go_roundw
      case rel => exact ⟨i + 1, L + 1, A2, c2, by omega, by omega, by omega, rfl, by go_num, HX.out.1, HX.out.2⟩
      case measure => simp [intOf]; omega
    case neg =>
      have hLf : L = f := by omega
      have HR2 : Hid (rowL wr w.heap.size A c (depthsL f 0)) := by have h := HR.out; rw [hLf] at h; exact h
      have d1 : decide (i ≤ f) = false := decide_eq_false hlt
      have d1' : decide ((i : Int) ≤ (f : Int)) = false := decide_eq_false (by omega)
      subst hLf
      clear HR hlen hlt
      go_upto_region 7 with fail
      go_wp2
      clear d1 d1' h1 h2 h3
      go_loopw [5, 7] (fun s5 s7 wr => ∃ (j M : Nat) (A : Option Addr) (c : Nat), j ≤ M + 1 ∧ M + 1 ≤ j ∧ M ≤ k ∧ s5 = .slice A (L + M) c ∧ s7 = .int .i64 (j : Int) ∧ Hid (rowL wr w.heap.size A c (depthsL L M)) ∧ Hid (Below w.heap.size w wr)) (fun _ s7 _ => k + 1 - (intOf s7).toNat)
      case atStart => exact ⟨1, 0, A, c, by omega, by omega, Nat.zero_le _, rfl, rfl, HR2.out, HB.out⟩
      case round =>
        clear HR2 HB hsz
        obtain ⟨j, M, A, c, h1, h2, h3, rfl, rfl, HR, HB⟩ := hrel
        have hlen : (depthsL L M).length = L + M := by rw [depths_len]
        have hsz := HB.out.size
        by_cases hlt : j ≤ k
        case pos =>
          obtain ⟨A2, c2, w2, hr, hrow, hb2⟩ := rowL_push HR.out hsz (by rw [hlen]; omega) (-(j : Int))
          rw [show depthsL L M ++ [-(j : Int)] = depthsL L (M + 1) by rw [depths_back, show (j : Int) = (M : Int) + 1 by omega]] at hrow
          rw [hlen] at hr
          have HX := Lib.hid (And.intro hrow (HB.out.trans hb2))
          have d1 : decide (j ≤ k) = true := decide_eq_true hlt
          have d1' : decide ((j : Int) ≤ (k : Int)) = true := decide_eq_true (by omega)
          clear hrow hb2 hlen HR
          go_wp2_with (at_builtin; refine wpList_append_run _ rfl _ _ _ _ rfl _ _ (by rfl) (by rfl) hr ?_)
          clear hr
          go_roundw
          case rel => exact ⟨j + 1, M + 1, A2, c2, by omega, by omega, by omega, rfl, by go_num, HX.out.1, HX.out.2⟩
          case measure => simp [intOf]; omega
        case neg =>
          have hMk : M = k := by omega
          have HX : Hid (SlI wr wr.heap.size A (depthsL L k)) := by have h := rowL_sl HR.out; rw [hMk] at h; exact h
          have d1 : decide (j ≤ k) = false := decide_eq_false hlt
          have d1' : decide ((j : Int) ≤ (k : Int)) = false := decide_eq_false (by omega)
          subst hMk
          clear HR hlen hlt
          go_wp2
          go_ret
          exact ⟨A, c, rfl, HX.out, HB.out⟩
theorem limbF {P0 P1 Q : Prop} (h : P0 ∧ P1 ∧ Q) : Q := h.2.2
set_option maxHeartbeats 64000000 in
theorem rfewest_any (A F : Option Addr) (c fc : Nat) (b : Brd) (hf : b.fronts.length ≤ 4611686018427387904) (w : World) (hs : SlI w w.heap.size A b.to_) (hp : SlPr w w.heap.size F b.fronts) :
    Calls Try.prog 24 #[.agg #[.slice A b.to_.length c, .slice F b.fronts.length fc]] w fun e w' => fewstOut (fewE b) w e w' := by
  have hb0 := (Below.refl w.heap.size w).alloc (Nat.le_refl _) (.cells #[.slice A b.to_.length c, .slice F b.fronts.length fc] 26)
  have g0 : (w.alloc (.cells #[.slice A b.to_.length c, .slice F b.fronts.length fc] 26)).cell? ⟨w.heap.size, 0, none⟩ = some (.slice A b.to_.length c) := cell_new rfl rfl rfl
  have g1 : (w.alloc (.cells #[.slice A b.to_.length c, .slice F b.fronts.length fc] 26)).cell? ⟨w.heap.size, 1, none⟩ = some (.slice F b.fronts.length fc) := cell_new rfl rfl rfl
  have HB0 := Lib.hid hb0
  have HG := Lib.hid (fun W (h : Below (w.alloc (.cells #[.slice A b.to_.length c, .slice F b.fronts.length fc] 26)).heap.size (w.alloc (.cells #[.slice A b.to_.length c, .slice F b.fronts.length fc] 26)) W) => And.intro ((bcell h (lt_of_cell g0) _).trans g0) ((bcell h (lt_of_cell g1) _).trans g1))
  have HCk : Hid (∀ W, Below w.heap.size w W → Calls Try.prog 20 #[.agg #[.slice A b.to_.length c, .slice F b.fronts.length fc]] W fun e w' => e = .returned (.int .i64 (brdE b)) ∧ Below W.heap.size W w') := fun W hb => rcheck_any A F c fc b hf W ((hs.below hb).more hb.size) ((hp.below hb).more hb.size)
  have HPl : Hid (∀ W, Below w.heap.size w W → ∀ (An : Option Addr) (cn f k : Nat), f + k ≤ 4 → SlI W W.heap.size An (depthsL f k) → Calls Try.prog 22 #[.agg #[.slice A b.to_.length c, .slice F b.fronts.length fc], .slice An (f + k) cn] W fun e w' => ∃ v, e = .returned (.tuple #[v, .int .i64 (planE b (depthsL f k)).2]) ∧ Below W.heap.size W w') := fun W hb An cn f k hk hsl => by
    have h1 := rplan_any A F c fc b hf An cn (depthsL f k) (by rw [depths_len]; omega) W ((hs.below hb).more hb.size) ((hp.below hb).more hb.size) hsl
    rw [depths_len] at h1
    refine h1.mono ?_
    rintro e w' ⟨A', c', he, -, hb'⟩
    exact ⟨.slice A' (planE b (depthsL f k)).1.length c', he, hb'⟩
  have HDp := Lib.hid rdepths_any
  clear hs hp hb0
  by_cases hE : brdE b = 0
  case neg =>
    have HO := Lib.hid (fun w' (h : Below w.heap.size w w') => fewstOut.mk' (w' := w') (fewE_bad hE) h)
    have d0 : (brdE b != 0) = true := by simpa using hE
    clear hE HPl HDp
    go_enter Try.func24, Try.ntmps24
    go_upto_region 2 with ((go_at_call 20; refine (HCk.out _ HB0.out).mono ?_; rintro e w2 ⟨rfl, hb2⟩))
    obtain ⟨y0, y1⟩ := HG.out w2 hb2
    have HB2 := Lib.hid (HB0.out.trans (hb2.mono HB0.out.size))
    clear hb2 g0 g1
    go_wp2_with ((go_at_call 20; refine (HCk.out _ HB2.out).mono ?_; rintro e w3 ⟨rfl, hb3⟩))
    go_ret3
    exact HO.out _ (HB2.out.trans (hb3.mono HB2.out.size))
  case pos =>
    rw [hE] at HCk
    have HCan := Lib.hid (fun f k (h : f + k ≤ 4) => plan_can (f := f) (k := k) hE h)
    have HSo := Lib.hid (fun w' x y (h : fewOut b 5 0 = some (x, y)) (h' : Below w.heap.size w w') => fewstOut.mk' (w' := w') (fewE_some hE h) h')
    have HNo := Lib.hid (fun w' (h : fewOut b 5 0 = none) (h' : Below w.heap.size w w') => fewstOut.mk' (w' := w') (fewE_none hE h) h')
    clear hE
    go_enter Try.func24, Try.ntmps24
    go_upto_region 3 with ((go_at_call 20; refine (HCk.out _ HB0.out).mono ?_; rintro e w2 ⟨rfl, hb2⟩))
    obtain ⟨y0, y1⟩ := HG.out w2 hb2
    have HX := Lib.hid (And.intro (HB0.out.trans (hb2.mono HB0.out.size)) (And.intro y0 y1))
    refine abs_world (Q := fun W => Code.wp _ _ _ _ W) (F := fun W => Below w.heap.size w W ∧ W.cell? ⟨w.heap.size, 0, none⟩ = some (.slice A b.to_.length c) ∧ W.cell? ⟨w.heap.size, 1, none⟩ = some (.slice F b.fronts.length fc)) _ HX.out ?_
    clear HX y0 y1 hb2 HCk HG HB0 g0 g1
    rintro w1 ⟨hb1, g0, g1⟩
    have HB1 := Lib.hid hb1
    have HG := Lib.hid (fun W (h : Below w1.heap.size w1 W) => And.intro ((bcell h (lt_of_cell g0) _).trans g0) ((bcell h (lt_of_cell g1) _).trans g1))
    clear hb1 g0 g1
    go_wp2
    go_loopw [5] (fun s5 wr => ∃ s : Nat, s ≤ 5 ∧ s5 = .int .i64 (s : Int) ∧ Hid (fewOut b 5 0 = fewOut b (5 - s) s) ∧ Hid (Below w1.heap.size w1 wr)) (fun s5 _ => 5 - (intOf s5).toNat)
    case atStart => exact ⟨0, Nat.zero_le _, rfl, rfl, Below.refl _ _⟩
    case round =>
      obtain ⟨s, hs5, rfl, HS, HB⟩ := hrel
      by_cases hlt : s < 5
      case neg =>
        have HO := Lib.hid (HNo.out wr (by rw [HS.out, show 5 - s = 0 by omega]; rfl) (HB1.out.trans (HB.out.mono HB1.out.size)))
        have d1' : decide ((s : Int) ≤ 4) = false := decide_eq_false (by omega)
        clear HS HB
        go_wp2
        go_ret3
        exact HO.out
      case pos =>
        have HS2 : Hid (fewOut b 5 0 = orE (fewIn b s (s + 1 - 0) 0) (fewOut b (5 - (s + 1)) (s + 1))) := by
          show _ = _
          rw [HS.out, fewOut_in hlt]
        have d1' : decide ((s : Int) ≤ 4) = true := decide_eq_true (by omega)
        clear HS
        go_upto_region 7 with fail
        clear d1'
        obtain ⟨wo, rfl⟩ : ∃ wo : World, wo = wr := ⟨_, rfl⟩
        go_wp2
        go_loopw [6] (fun s6 wr => ∃ f : Nat, f ≤ s + 1 ∧ s6 = .int .i64 (f : Int) ∧ Hid (fewOut b 5 0 = orE (fewIn b s (s + 1 - f) f) (fewOut b (5 - (s + 1)) (s + 1))) ∧ Hid (Below w1.heap.size w1 wr)) (fun s6 _ => s + 1 - (intOf s6).toNat)
        case atStart => exact ⟨0, Nat.zero_le _, rfl, HS2.out, HB.out⟩
        case round =>
          clear HS2 HB
          obtain ⟨f, hf1, rfl, HS, HB⟩ := hrel
          have HBw := Lib.hid (HB1.out.trans (HB.out.mono HB1.out.size))
          by_cases hfs : f ≤ s
          case neg =>
            have HS2 : Hid (fewOut b 5 0 = fewOut b (5 - (s + 1)) (s + 1)) := by
              show _ = _
              rw [HS.out, show f = s + 1 by omega, fewIn_end]
            have d1 : decide (f ≤ s) = false := decide_eq_false hfs
            have d1' : decide ((f : Int) ≤ (s : Int)) = false := decide_eq_false (by omega)
            clear HS
            go_wp2
            go_roundw
            case rel => exact ⟨s + 1, by omega, by go_num, HS2.out, HB.out⟩
            case measure => simp [intOf]; omega
          case pos =>
            have d1 : decide (f ≤ s) = true := decide_eq_true hfs
            have d1' : decide ((f : Int) ≤ (s : Int)) = true := decide_eq_true (by omega)
            have hfk : f + (s - f) = s := by omega
            have HD2 := Lib.hid (fun W => HDp.out f (s - f) (by omega) (by omega) ((s : Int) - (f : Int)) (by omega) W)
            have HP2 := Lib.hid (fun W hb An cn hsl => HPl.out W hb An cn f (s - f) (by omega) hsl)
            have HC2 := Lib.hid (HCan.out f (s - f) (by omega))
            rw [hfk] at HD2 HP2
            have hwr : IntKind.i64.wrap ((s : Int) - (f : Int)) = (s : Int) - (f : Int) := IntWalk.i64_in _ (by omega)
            have HYes : Hid (canB b f (s - f) = true → fewOut b 5 0 = some (f, s - f)) := fun h => by rw [HS.out, fewIn_yes hfs h]
            have HNn : Hid (canB b f (s - f) = false → fewOut b 5 0 = orE (fewIn b s (s + 1 - (f + 1)) (f + 1)) (fewOut b (5 - (s + 1)) (s + 1))) := fun h => by rw [HS.out, fewIn_no hfs h]
            have hsub : (s : Int) - (f : Int) = ((s - f : Nat) : Int) := by omega
            have HSub := Lib.hid hsub
            obtain ⟨x, hx⟩ : ∃ x, x = (planE b (depthsL f (s - f))).2 := ⟨_, rfl⟩
            rw [← hx] at HP2 HC2
            clear HS hfk hx hsub
            go_upto_region 9 with fail
            clear d1 d1'
            have HSb : Hid (∀ W', Below wr.heap.size wr W' → W'.cell? ⟨w.heap.size, 0, none⟩ = some (.slice A b.to_.length c) ∧ W'.cell? ⟨w.heap.size, 1, none⟩ = some (.slice F b.fronts.length fc) ∧ Below wr.heap.size wr W') := fun W' hb => by
              have h := HG.out W' (HB.out.trans (hb.mono HB.out.size))
              exact ⟨h.1, h.2, hb⟩
            have HBx : Hid (∀ W', Below wr.heap.size wr W' → Below w.heap.size w W') := fun W' hb => HBw.out.trans (hb.mono HBw.out.size)
            have hbD : Below wr.heap.size wr wr.drew := Below.drew (Below.refl _ _)
            go_cut [8] (fun s8 wc => s8 = .int .i64 x ∧ Hid (Below wr.heap.size wr wc))
            case first =>
              go_region_held3 (fun W' => W'.cell? ⟨w.heap.size, 0, none⟩ = some (.slice A b.to_.length c) ∧ W'.cell? ⟨w.heap.size, 1, none⟩ = some (.slice F b.fronts.length fc) ∧ Below wr.heap.size wr W')
                (first | (with_reducible exact HSb.out _ (by assumption)) | fail)
                (first | (go_at_call 48; have hp := limbF (by assumption); refine (HD2.out _).mono ?_; rintro e wd ⟨Ad, cd, rfl, hsd, hbd⟩; have hbw := hp.trans (hbd.mono hp.size); clear hp) | (go_at_call 22; have hp := limbF (by assumption); refine (HP2.out _ (HBx.out _ hp) _ _ hsd).mono ?_; rintro e we ⟨v, rfl, hbe⟩; have hbw2 := hp.trans (hbe.mono hp.size); clear hp) | fail)
              all_goals
                go_wp2_with fail
                go_meet
                exact ⟨rfl, by assumption⟩
            case rest =>
              obtain ⟨rfl, HB2⟩ := hcut
              have HB3 := Lib.hid (HB.out.trans (HB2.out.mono HB.out.size))
              have HBw3 := Lib.hid (HBx.out _ HB2.out)
              clear HSb HBx hbD HB HB2 HD2 HP2
              by_cases hx0 : x = 0
              · have HO := Lib.hid (fun w' => HSo.out w' f (s - f) (HYes.out (HC2.out.1 hx0)))
                rw [← HSub.out] at HO
                have d2 : (x == 0) = true := beq_iff_eq.2 hx0
                clear hx0 HYes HNn HC2 HSub
                go_wp2
                go_ret3
                exact HO.out _ HBw3.out
              · have hcn : canB b f (s - f) = false := by
                  cases e : canB b f (s - f) with
                  | false => rfl
                  | true => exact absurd (HC2.out.2 e) hx0
                have HS2 := Lib.hid (HNn.out hcn)
                have d2 : (x == 0) = false := beq_eq_false_iff_ne.2 hx0
                clear hx0 HYes HNn HC2 hcn HSub
                go_wp2
                go_roundw
                case rel => exact ⟨f + 1, by omega, by go_num, HS2.out, HB3.out⟩
                case measure => simp [intOf]; omega
end Go.Proofs.Ytodjkifcbgmckaa
