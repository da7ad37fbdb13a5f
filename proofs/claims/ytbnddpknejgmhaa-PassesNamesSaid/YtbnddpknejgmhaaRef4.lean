/- Layer 31, the reference: pass over instructions of a carrier. -/
import Derived.Test.YtbnddpknejgmhaaRef3
import Derived.Deep.RegionHeld3
import Derived.Deep.QuietTactic
import Derived.BigQuiet
namespace Go.Proofs.Ytbnddpknejgmhaa
open Go.RowKit
set_option maxRecDepth 100000

theorem SlX.lit {w : World} {B : Nat} {b off : Nat} {l : List Ins} (h : SlX w B (some ⟨b, off, none⟩) l) {k : Nat} (hk : k < l.length) :
    ∃ i, b < B ∧ l[k]? = some i ∧ InsAt w b (off + k * 7) i := by
  obtain ⟨b', off', i, e, hB, hi, hc⟩ := h.at_ hk
  simp only [Option.some.injEq, Addr.mk.injEq, and_true] at e
  obtain ⟨rfl, rfl⟩ := e
  exact ⟨i, hB, hi, hc⟩
set_option maxHeartbeats 2000000 in
theorem rpass_yarn (rack : Int) (hr : -8 ≤ rack ∧ rack ≤ 8) (b off : Nat) (c : Nat) (l : List Ins) (a : Ins) (ha : l[0]? = some a) (hg : groupI a = 1) (hf : ∀ i ∈ l, i.fit) (hn : l.length ≤ 4611686018427387904) (w : World) (hs : SlX w w.heap.size (some ⟨b, off, none⟩) l) :
    Calls Try.prog 29 #[.int .i64 rack, .slice (some ⟨b, off, none⟩) l.length c] w fun e w' => RetB (passR rack l) w e w' := by
  have hl0 : 0 < l.length := (List.getElem?_eq_some_iff.1 ha).1
  obtain ⟨a', hB, ha', hca⟩ := hs.lit hl0
  rw [ha] at ha'; cases ha'
  have ga := getD_of ha
  rw [Nat.zero_mul, Nat.add_zero] at hca
  have HA := Lib.hid (fun w2 (hb : Below w.heap.size w w2) => hca.below hb hB)
  have HGa := Lib.hid (fun w => group_any a w)
  rw [hg] at HGa
  obtain ⟨c0, c1, c2, c3, c4, c5, c6⟩ := hca
  have hgb : (groupI a == 0) = false := by rw [hg]; rfl
  have hlb : ((l.length : Int) == 0) = false := beq_eq_false_iff_ne.2 (by omega)
  have HT : Hid ((∀ k, 1 ≤ k → k < l.length → stepR rack l k = true) → passR rack l = true) := fun h => passR_true hl0 (by rw [ga, hg]; omega) h
  go_enter Try.func29, Try.ntmps29
  go_wp2_with (go_at_call 47; refine (HGa.out _).mono ?_; rintro e w1 ⟨rfl, hb1⟩)
  clear c0 c1 c2 c3 c4 c5 c6 hgb hlb
  go_loopw [5] (fun s5 wr => ∃ k : Nat, 1 ≤ k ∧ k ≤ l.length ∧ s5 = .int .i64 k ∧ Hid (∀ j, 1 ≤ j → j < k → stepR rack l j = true) ∧ Below w.heap.size w wr) (fun s5 _ => l.length - (intOf s5).toNat)
  case atStart => exact ⟨1, Nat.le_refl _, by omega, rfl, (fun j h1 h2 => by omega), hb1⟩
  case round =>
    obtain ⟨k, hk1, hk, rfl, H, hbw⟩ := hrel
    clear hb1
    by_cases hlt : k < l.length
    case neg =>
      have HF : Hid (passR rack l = true) := HT.out fun j h1 h2 => H.out j h1 (by omega)
      clear hs hf H HT
      go_wp2
      go_ret
      exact RetB.mk' HF.out hbw
    case pos =>
      obtain ⟨x, -, hx, hcx⟩ := hs.lit hlt
      obtain ⟨p, -, hp, hcp⟩ := hs.lit (k := k - 1) (by omega)
      have gx := getD_of hx
      have gp := getD_of hp
      have HX := Lib.hid (fun w2 (hb : Below w.heap.size w w2) => hcx.below hb hB)
      have HP := Lib.hid (fun w2 (hb : Below w.heap.size w w2) => hcp.below hb hB)
      have HS0 := Lib.hid (two_at (HX.out _ hbw) (HA.out _ hbw))
      have HGx := Lib.hid (fun w => group_any x w)
      have HCx := Lib.hid (fun w => rcolumn_any rack hr x (hf _ (List.mem_of_getElem? hx)) w)
      have HCp := Lib.hid (fun w => rcolumn_any rack hr p (hf _ (List.mem_of_getElem? hp)) w)
      have HNo : Hid (stepR rack l k = false → passR rack l = false) := fun h => passR_false hlt hk1 h
      have hw1 : IntKind.i64.wrap ((k : Int) - 1) = ((k - 1 : Nat) : Int) := by rw [IntWalk.i64_in _ (by omega)]; omega
      have hkm0 : (0 : Int) ≤ ((k - 1 : Nat) : Int) := by omega
      have hkm1 : ((k - 1 : Nat) : Int) < (l.length : Int) := by omega
      have HST : Hid (stepR rack l k = (decide (groupI x = 1) && wayR rack a p x)) := by unfold Hid stepR; rw [gx, gp, ga, if_pos hg, hg]
      clear hs hf hcx hcp hx hp ha gx gp ga HT hg
      by_cases hgx : groupI x = 1
      case neg =>
        have HF : Hid (passR rack l = false) := HNo.out (by rw [HST.out, decide_eq_false hgx, Bool.false_and])
        have hgxb : (groupI x == 1) = false := beq_eq_false_iff_ne.2 hgx
        clear hgx HST
        go_wp2
        go_region_held3 (fun WW => WW.cell? ⟨b, off + k * 7, none⟩ = some (.int .u8 x.op) ∧ WW.cell? ⟨b, off + k * 7 + 1, none⟩ = some (.bool x.right) ∧ WW.cell? ⟨b, off + k * 7 + 2, none⟩ = some (.int .u8 x.bed) ∧ WW.cell? ⟨b, off + k * 7 + 3, none⟩ = some (.int .i64 x.at_) ∧ WW.cell? ⟨b, off + k * 7 + 4, none⟩ = some (.int .i64 x.to_) ∧ WW.cell? ⟨b, off + k * 7 + 5, none⟩ = some (.int .i64 x.car) ∧ WW.cell? ⟨b, off + k * 7 + 6, none⟩ = some (.int .i64 x.rack) ∧ WW.cell? ⟨b, off, none⟩ = some (.int .u8 a.op) ∧ WW.cell? ⟨b, off + 1, none⟩ = some (.bool a.right) ∧ WW.cell? ⟨b, off + 2, none⟩ = some (.int .u8 a.bed) ∧ WW.cell? ⟨b, off + 3, none⟩ = some (.int .i64 a.at_) ∧ WW.cell? ⟨b, off + 4, none⟩ = some (.int .i64 a.to_) ∧ WW.cell? ⟨b, off + 5, none⟩ = some (.int .i64 a.car) ∧ WW.cell? ⟨b, off + 6, none⟩ = some (.int .i64 a.rack) ∧ Below wr.heap.size wr WW)
          (first | exact keep_two HS0.out (Below.drew (Below.refl _ _)) | exact keep_two (by assumption) (by assumption))
          (first
            | (go_at_call_of 47 (Value.agg #[.int .u8 x.op, .bool x.right, .int .u8 x.bed, .int .i64 x.at_, .int .i64 x.to_, .int .i64 x.car, .int .i64 x.rack]); refine (HGx.out _).mono ?_; rintro e w' ⟨rfl, hb1⟩)
            | (go_at_call_of 47 (Value.agg #[.int .u8 a.op, .bool a.right, .int .u8 a.bed, .int .i64 a.at_, .int .i64 a.to_, .int .i64 a.car, .int .i64 a.rack]); refine (HGa.out _).mono ?_; rintro e w' ⟨rfl, hb1⟩))
        rename_i hS1
        have hB1 := Lib.hid (hbw.trans (hS1.2.2.2.2.2.2.2.2.2.2.2.2.2.2.mono hbw.size))
        clear hS1
        go_wp2
        go_ret
        exact RetB.mk' HF.out hB1.out
      case pos =>
        rw [hgx] at HGx
        rw [decide_eq_true hgx, Bool.true_and] at HST
        clear hgx
        go_wp2
        go_region_held3 (fun WW => WW.cell? ⟨b, off + k * 7, none⟩ = some (.int .u8 x.op) ∧ WW.cell? ⟨b, off + k * 7 + 1, none⟩ = some (.bool x.right) ∧ WW.cell? ⟨b, off + k * 7 + 2, none⟩ = some (.int .u8 x.bed) ∧ WW.cell? ⟨b, off + k * 7 + 3, none⟩ = some (.int .i64 x.at_) ∧ WW.cell? ⟨b, off + k * 7 + 4, none⟩ = some (.int .i64 x.to_) ∧ WW.cell? ⟨b, off + k * 7 + 5, none⟩ = some (.int .i64 x.car) ∧ WW.cell? ⟨b, off + k * 7 + 6, none⟩ = some (.int .i64 x.rack) ∧ WW.cell? ⟨b, off, none⟩ = some (.int .u8 a.op) ∧ WW.cell? ⟨b, off + 1, none⟩ = some (.bool a.right) ∧ WW.cell? ⟨b, off + 2, none⟩ = some (.int .u8 a.bed) ∧ WW.cell? ⟨b, off + 3, none⟩ = some (.int .i64 a.at_) ∧ WW.cell? ⟨b, off + 4, none⟩ = some (.int .i64 a.to_) ∧ WW.cell? ⟨b, off + 5, none⟩ = some (.int .i64 a.car) ∧ WW.cell? ⟨b, off + 6, none⟩ = some (.int .i64 a.rack) ∧ Below wr.heap.size wr WW)
          (first | exact keep_two HS0.out (Below.drew (Below.refl _ _)) | exact keep_two (by assumption) (by assumption))
          (first
            | (go_at_call_of 47 (Value.agg #[.int .u8 x.op, .bool x.right, .int .u8 x.bed, .int .i64 x.at_, .int .i64 x.to_, .int .i64 x.car, .int .i64 x.rack]); refine (HGx.out _).mono ?_; rintro e w' ⟨rfl, hb1⟩)
            | (go_at_call_of 47 (Value.agg #[.int .u8 a.op, .bool a.right, .int .u8 a.bed, .int .i64 a.at_, .int .i64 a.to_, .int .i64 a.car, .int .i64 a.rack]); refine (HGa.out _).mono ?_; rintro e w' ⟨rfl, hb1⟩))
        rename_i hS1
        have hB1 := Lib.hid (hbw.trans (hS1.2.2.2.2.2.2.2.2.2.2.2.2.2.2.mono hbw.size))
        obtain ⟨a0, a1, a2, a3, a4, a5, a6⟩ := HA.out _ hB1.out
        clear hS1 HS0
        go_wp2_with (go_at_call 47; refine (HGa.out _).mono ?_; rintro e w2 ⟨rfl, hb2⟩
                     have hB2 := hB1.out.trans (hb2.mono hB1.out.size)
                     have HSx := Lib.hid (two_at (HX.out _ hB2) (HP.out _ hB2)))
        have HX2 := Lib.hid (HX.out _ hB2)
        clear a0 a1 a2 a3 a4 a5 a6
        go_region_held3 (fun WW => WW.cell? ⟨b, off + k * 7, none⟩ = some (.int .u8 x.op) ∧ WW.cell? ⟨b, off + k * 7 + 1, none⟩ = some (.bool x.right) ∧ WW.cell? ⟨b, off + k * 7 + 2, none⟩ = some (.int .u8 x.bed) ∧ WW.cell? ⟨b, off + k * 7 + 3, none⟩ = some (.int .i64 x.at_) ∧ WW.cell? ⟨b, off + k * 7 + 4, none⟩ = some (.int .i64 x.to_) ∧ WW.cell? ⟨b, off + k * 7 + 5, none⟩ = some (.int .i64 x.car) ∧ WW.cell? ⟨b, off + k * 7 + 6, none⟩ = some (.int .i64 x.rack) ∧ WW.cell? ⟨b, off + (k - 1) * 7, none⟩ = some (.int .u8 p.op) ∧ WW.cell? ⟨b, off + (k - 1) * 7 + 1, none⟩ = some (.bool p.right) ∧ WW.cell? ⟨b, off + (k - 1) * 7 + 2, none⟩ = some (.int .u8 p.bed) ∧ WW.cell? ⟨b, off + (k - 1) * 7 + 3, none⟩ = some (.int .i64 p.at_) ∧ WW.cell? ⟨b, off + (k - 1) * 7 + 4, none⟩ = some (.int .i64 p.to_) ∧ WW.cell? ⟨b, off + (k - 1) * 7 + 5, none⟩ = some (.int .i64 p.car) ∧ WW.cell? ⟨b, off + (k - 1) * 7 + 6, none⟩ = some (.int .i64 p.rack) ∧ Below w2.heap.size w2 WW)
          (first | exact keep_two HSx.out (Below.drew (Below.refl _ _)) | exact keep_two (by assumption) (by assumption))
          (first
            | (go_at_call_of 48 (Value.agg #[.int .u8 x.op, .bool x.right, .int .u8 x.bed, .int .i64 x.at_, .int .i64 x.to_, .int .i64 x.car, .int .i64 x.rack]); refine (HCx.out _).mono ?_; rintro e w' ⟨rfl, hb1⟩)
            | (go_at_call_of 48 (Value.agg #[.int .u8 p.op, .bool p.right, .int .u8 p.bed, .int .i64 p.at_, .int .i64 p.to_, .int .i64 p.car, .int .i64 p.rack]); refine (HCp.out _).mono ?_; rintro e w' ⟨rfl, hb1⟩))
        rename_i hS1
        have hB3 := hB2.trans (hS1.2.2.2.2.2.2.2.2.2.2.2.2.2.2.mono hB2.size)
        obtain ⟨a0, a1, a2, a3, a4, a5, a6⟩ := HA.out _ hB3
        obtain ⟨x0, x1, x2, x3, x4, x5, x6⟩ := HX.out _ hB3
        clear hS1 HSx HX2 HA HX HP HGa HGx HCx HCp a0 a2 a3 a4 a6 x0 x2 x3 x4 x6
        have HB3 := Lib.hid hB3
        clear hB3 hB2 hB1
        unfold wayR at HST
        generalize p.col rack = u at HST ⊢
        generalize x.col rack = v at HST ⊢
        go_wp2
        have HY : Hid (stepR rack l k = true → ∀ j, 1 ≤ j → j < k + 1 → stepR rack l j = true) := fun h j j1 j2 => by
          by_cases e : j = k
          · rw [e]; exact h
          · exact H.out j j1 (by omega)
        clear H
        by_cases e1 : x.car = a.car
        case neg =>
          have HF : Hid (passR rack l = false) := HNo.out (by rw [HST.out, decide_eq_false e1]; rfl)
          have eb1 : (x.car != a.car) = true := by simp [e1]
          clear e1 HST HY
          go_quiet (fail)
          go_wp2
          go_ret
          exact RetB.mk' HF.out (below_drewN HB3.out _)
        case pos =>
        have eb1 : (x.car != a.car) = false := by simp [e1]
        rw [decide_eq_true e1, Bool.true_and] at HST
        clear e1
        obtain ⟨xr, hxr⟩ : ∃ r, r = x.right := ⟨_, rfl⟩
        obtain ⟨ar, har⟩ : ∃ r, r = a.right := ⟨_, rfl⟩
        rw [← hxr] at x1 HST
        rw [← har] at a1 HST
        clear hxr har
        by_cases e2 : xr = ar
        case neg =>
          have HF : Hid (passR rack l = false) := HNo.out (by rw [HST.out, decide_eq_false e2]; rfl)
          clear HST HY HNo
          cases xr <;> cases ar
          all_goals first | (exact absurd rfl e2) | skip
          all_goals
            clear e2
            go_quiet (fail)
            go_wp2
            go_ret
            exact RetB.mk' HF.out (below_drewN HB3.out _)
        case pos =>
        subst e2
        rw [decide_eq_true rfl, Bool.true_and] at HST
        cases xr with
        | true =>
          rw [if_pos rfl] at HST
          by_cases e3 : u < v
          · have eb3 : decide (v ≤ u) = false := decide_eq_false (by omega)
            have HOK := Lib.hid (HY.out (by rw [HST.out, decide_eq_true e3]))
            clear e3 HST HY HNo
            go_quiet (fail)
            go_wp2
            go_roundw
            case rel => exact ⟨k + 1, by omega, by omega, by go_num, HOK, below_drewN HB3.out _⟩
            case measure => simp [intOf]; omega
          · have eb3 : decide (v ≤ u) = true := decide_eq_true (by omega)
            have HF : Hid (passR rack l = false) := HNo.out (by rw [HST.out, decide_eq_false e3])
            clear e3 HST HY HNo
            go_quiet (fail)
            go_wp2
            go_ret
            exact RetB.mk' HF.out (below_drewN HB3.out _)
        | false =>
          rw [if_neg (by simp)] at HST
          by_cases e3 : v < u
          · have eb3 : decide (u ≤ v) = false := decide_eq_false (by omega)
            have HOK := Lib.hid (HY.out (by rw [HST.out, decide_eq_true e3]))
            clear e3 HST HY HNo
            go_quiet (fail)
            go_wp2
            go_roundw
            case rel => exact ⟨k + 1, by omega, by omega, by go_num, HOK, below_drewN HB3.out _⟩
            case measure => simp [intOf]; omega
          · have eb3 : decide (u ≤ v) = true := decide_eq_true (by omega)
            have HF : Hid (passR rack l = false) := HNo.out (by rw [HST.out, decide_eq_false e3])
            clear e3 HST HY HNo
            go_quiet (fail)
            go_wp2
            go_ret
            exact RetB.mk' HF.out (below_drewN HB3.out _)
end Go.Proofs.Ytbnddpknejgmhaa
