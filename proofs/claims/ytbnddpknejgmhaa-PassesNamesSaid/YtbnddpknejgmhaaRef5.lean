/- Layer 31, the reference: pass over other instructions; pass. -/
import Derived.Test.YtbnddpknejgmhaaRef4
namespace Go.Proofs.Ytbnddpknejgmhaa
open Go.RowKit
set_option maxRecDepth 100000

set_option maxHeartbeats 2000000 in
theorem rpass_else (rack : Int) (b off : Nat) (c : Nat) (l : List Ins) (a : Ins) (ha : l[0]? = some a) (hg : groupI a ≠ 1) (hg0 : groupI a ≠ 0) (hn : l.length ≤ 4611686018427387904) (w : World) (hs : SlX w w.heap.size (some ⟨b, off, none⟩) l) :
    Calls Try.prog 29 #[.int .i64 rack, .slice (some ⟨b, off, none⟩) l.length c] w fun e w' => RetB (passR rack l) w e w' := by
  have hl0 : 0 < l.length := (List.getElem?_eq_some_iff.1 ha).1
  obtain ⟨a', hB, ha', hca⟩ := hs.lit hl0
  rw [ha] at ha'; cases ha'
  have ga := getD_of ha
  rw [Nat.zero_mul, Nat.add_zero] at hca
  have HA := Lib.hid (fun w2 (hb : Below w.heap.size w w2) => hca.below hb hB)
  have HGa := Lib.hid (fun w => group_any a w)
  obtain ⟨c0, c1, c2, c3, c4, c5, c6⟩ := hca
  have hgb : (groupI a == 0) = false := beq_eq_false_iff_ne.2 hg0
  have hg1b : (groupI a == 1) = false := beq_eq_false_iff_ne.2 hg
  have hlb : ((l.length : Int) == 0) = false := beq_eq_false_iff_ne.2 (by omega)
  have HT : Hid ((∀ k, 1 ≤ k → k < l.length → stepR rack l k = true) → passR rack l = true) := fun h => passR_true hl0 (by rw [ga]; exact fun h => hg0 h.1) h
  have HST : Hid (∀ k x, l[k]? = some x → stepR rack l k = (decide (groupI x = groupI a) && (List.range k).all fun q => !namesB (l.getD q ins0) x)) := fun k x hx => by
    unfold stepR; rw [getD_of hx, ga, if_neg hg]
  clear hg hg0
  go_enter Try.func29, Try.ntmps29
  go_wp2_with (go_at_call 47; refine (HGa.out _).mono ?_; rintro e w1 ⟨rfl, hb1⟩)
  clear c0 c1 c2 c3 c4 c5 c6 hgb hlb
  go_loopw [5] (fun s5 wr => ∃ k : Nat, 1 ≤ k ∧ k ≤ l.length ∧ s5 = .int .i64 k ∧ Hid (∀ j, 1 ≤ j → j < k → stepR rack l j = true) ∧ Below w.heap.size w wr) (fun s5 _ => l.length - (intOf s5).toNat)
  case atStart => exact ⟨1, Nat.le_refl _, by omega, rfl, (fun j h1 h2 => by omega), hb1⟩
  case round =>
    obtain ⟨k, hk1, hk, rfl, H, hbw⟩ := hrel
    clear hb1
    by_cases hlt : k < l.length
    case neg =>
      have HF : Hid (passR rack l = true) := HT.out fun j h1 h2 => H.out j h1 (by omega)
      clear hs H HT HST
      go_wp2
      go_ret
      exact RetB.mk' HF.out hbw
    case pos =>
      obtain ⟨x, -, hx, hcx⟩ := hs.lit hlt
      have HX := Lib.hid (fun w2 (hb : Below w.heap.size w w2) => hcx.below hb hB)
      have HS0 := Lib.hid (two_at (HX.out _ hbw) (HA.out _ hbw))
      have HGx := Lib.hid (fun w => group_any x w)
      have HNo : Hid (stepR rack l k = false → passR rack l = false) := fun h => passR_false hlt hk1 h
      have HSx := Lib.hid (HST.out k x hx)
      have HSL := Lib.hid hs
      clear hs hcx hx ha ga
      by_cases hgx : groupI x = groupI a
      case neg =>
        have HF : Hid (passR rack l = false) := HNo.out (by rw [HSx.out, decide_eq_false hgx, Bool.false_and])
        have hgxb : (groupI x != groupI a) = true := by simp [hgx]
        have hgxb2 : (groupI x == groupI a) = false := by simp [hgx]
        clear hgx HSx HST HT
        go_wp2
        go_region_held3 (fun WW => WW.cell? ⟨b, off + k * 7, none⟩ = some (.int .u8 x.op) ∧ WW.cell? ⟨b, off + k * 7 + 1, none⟩ = some (.bool x.right) ∧ WW.cell? ⟨b, off + k * 7 + 2, none⟩ = some (.int .u8 x.bed) ∧ WW.cell? ⟨b, off + k * 7 + 3, none⟩ = some (.int .i64 x.at_) ∧ WW.cell? ⟨b, off + k * 7 + 4, none⟩ = some (.int .i64 x.to_) ∧ WW.cell? ⟨b, off + k * 7 + 5, none⟩ = some (.int .i64 x.car) ∧ WW.cell? ⟨b, off + k * 7 + 6, none⟩ = some (.int .i64 x.rack) ∧ WW.cell? ⟨b, off, none⟩ = some (.int .u8 a.op) ∧ WW.cell? ⟨b, off + 1, none⟩ = some (.bool a.right) ∧ WW.cell? ⟨b, off + 2, none⟩ = some (.int .u8 a.bed) ∧ WW.cell? ⟨b, off + 3, none⟩ = some (.int .i64 a.at_) ∧ WW.cell? ⟨b, off + 4, none⟩ = some (.int .i64 a.to_) ∧ WW.cell? ⟨b, off + 5, none⟩ = some (.int .i64 a.car) ∧ WW.cell? ⟨b, off + 6, none⟩ = some (.int .i64 a.rack) ∧ Below wr.heap.size wr WW)
          (first | exact keep_two HS0.out (Below.drew (Below.refl _ _)) | exact keep_two (by assumption) (by assumption))
          (first
            | (go_at_call_of 47 (Value.agg #[.int .u8 x.op, .bool x.right, .int .u8 x.bed, .int .i64 x.at_, .int .i64 x.to_, .int .i64 x.car, .int .i64 x.rack]); refine (HGx.out _).mono ?_; rintro e w' ⟨rfl, hb1⟩)
            | (go_at_call_of 47 (Value.agg #[.int .u8 a.op, .bool a.right, .int .u8 a.bed, .int .i64 a.at_, .int .i64 a.to_, .int .i64 a.car, .int .i64 a.rack]); refine (HGa.out _).mono ?_; rintro e w' ⟨rfl, hb1⟩))
        rename_i hS1
        have hB1 := Lib.hid (hbw.trans (hS1.2.2.2.2.2.2.2.2.2.2.2.2.2.2.mono hbw.size))
        clear hS1
        go_wp2
        go_ret
        exact RetB.mk' HF.out hB1.out
      case pos =>
        have HSy : Hid (stepR rack l k = (List.range k).all fun q => !namesB (l.getD q ins0) x) := by unfold Hid; rw [HSx.out, decide_eq_true hgx, Bool.true_and]
        rw [hgx] at HGx
        clear hgx HSx HST
        go_wp2
        go_region_held3 (fun WW => WW.cell? ⟨b, off + k * 7, none⟩ = some (.int .u8 x.op) ∧ WW.cell? ⟨b, off + k * 7 + 1, none⟩ = some (.bool x.right) ∧ WW.cell? ⟨b, off + k * 7 + 2, none⟩ = some (.int .u8 x.bed) ∧ WW.cell? ⟨b, off + k * 7 + 3, none⟩ = some (.int .i64 x.at_) ∧ WW.cell? ⟨b, off + k * 7 + 4, none⟩ = some (.int .i64 x.to_) ∧ WW.cell? ⟨b, off + k * 7 + 5, none⟩ = some (.int .i64 x.car) ∧ WW.cell? ⟨b, off + k * 7 + 6, none⟩ = some (.int .i64 x.rack) ∧ WW.cell? ⟨b, off, none⟩ = some (.int .u8 a.op) ∧ WW.cell? ⟨b, off + 1, none⟩ = some (.bool a.right) ∧ WW.cell? ⟨b, off + 2, none⟩ = some (.int .u8 a.bed) ∧ WW.cell? ⟨b, off + 3, none⟩ = some (.int .i64 a.at_) ∧ WW.cell? ⟨b, off + 4, none⟩ = some (.int .i64 a.to_) ∧ WW.cell? ⟨b, off + 5, none⟩ = some (.int .i64 a.car) ∧ WW.cell? ⟨b, off + 6, none⟩ = some (.int .i64 a.rack) ∧ Below wr.heap.size wr WW)
          (first | exact keep_two HS0.out (Below.drew (Below.refl _ _)) | exact keep_two (by assumption) (by assumption))
          (first
            | (go_at_call_of 47 (Value.agg #[.int .u8 x.op, .bool x.right, .int .u8 x.bed, .int .i64 x.at_, .int .i64 x.to_, .int .i64 x.car, .int .i64 x.rack]); refine (HGx.out _).mono ?_; rintro e w' ⟨rfl, hb1⟩)
            | (go_at_call_of 47 (Value.agg #[.int .u8 a.op, .bool a.right, .int .u8 a.bed, .int .i64 a.at_, .int .i64 a.to_, .int .i64 a.car, .int .i64 a.rack]); refine (HGa.out _).mono ?_; rintro e w' ⟨rfl, hb1⟩))
        rename_i hS1
        have hB1 := Lib.hid (hbw.trans (hS1.2.2.2.2.2.2.2.2.2.2.2.2.2.2.mono hbw.size))
        obtain ⟨a0, a1, a2, a3, a4, a5, a6⟩ := HA.out _ hB1.out
        clear hS1 HS0
        go_wp2_with (go_at_call 47; refine (HGa.out _).mono ?_; rintro e w2 ⟨rfl, hb2⟩)
        have hB2 := hB1.out.trans (hb2.mono hB1.out.size)
        clear a0 a1 a2 a3 a4 a5 a6
        go_loopw [8] (fun s8 wr2 => ∃ q : Nat, q ≤ k ∧ s8 = .int .i64 q ∧ Hid (∀ j, j < q → namesB (l.getD j ins0) x = false) ∧ Below w.heap.size w wr2) (fun s8 _ => k - (intOf s8).toNat)
        case atStart => exact ⟨0, Nat.zero_le _, rfl, (fun j h => by omega), hB2⟩
        case round =>
          obtain ⟨q, hq, rfl, HQ, hbv⟩ := hrel
          clear hb1 hb2
          by_cases hqk : q < k
          case neg =>
            have HOK : Hid (∀ j, 1 ≤ j → j < k + 1 → stepR rack l j = true) := fun j j1 j2 => by
              by_cases e : j = k
              · rw [e, HSy.out, List.all_eq_true]
                intro r hr
                rw [HQ.out r (by have := List.mem_range.1 hr; omega)]; rfl
              · exact H.out j j1 (by omega)
            clear HQ HSy H
            go_wp2
            go_roundw
            case rel => exact ⟨k + 1, by omega, by omega, by go_num, HOK, hbv⟩
            case measure => simp [intOf]; omega
          case pos =>
            obtain ⟨y, -, hy, hcy⟩ := HSL.out.lit (k := q) (by omega)
            have HS1 := Lib.hid (two_at (HX.out _ hbv) (hcy.below hbv hB))
            have HN := Lib.hid (fun w => names_any y x w)
            have gy := getD_of hy
            have hql : (q : Int) < (l.length : Int) := by omega
            clear hcy hy
            cases hnb : namesB y x with
            | true =>
              have HF : Hid (passR rack l = false) := HNo.out (by
                rw [HSy.out, List.all_eq_false]
                exact ⟨q, List.mem_range.2 hqk, by rw [gy, hnb]; simp⟩)
              rw [hnb] at HN
              clear gy hnb HQ HSy H HT
              go_wp2
              go_region_held3 (fun WW => WW.cell? ⟨b, off + k * 7, none⟩ = some (.int .u8 x.op) ∧ WW.cell? ⟨b, off + k * 7 + 1, none⟩ = some (.bool x.right) ∧ WW.cell? ⟨b, off + k * 7 + 2, none⟩ = some (.int .u8 x.bed) ∧ WW.cell? ⟨b, off + k * 7 + 3, none⟩ = some (.int .i64 x.at_) ∧ WW.cell? ⟨b, off + k * 7 + 4, none⟩ = some (.int .i64 x.to_) ∧ WW.cell? ⟨b, off + k * 7 + 5, none⟩ = some (.int .i64 x.car) ∧ WW.cell? ⟨b, off + k * 7 + 6, none⟩ = some (.int .i64 x.rack) ∧ WW.cell? ⟨b, off + q * 7, none⟩ = some (.int .u8 y.op) ∧ WW.cell? ⟨b, off + q * 7 + 1, none⟩ = some (.bool y.right) ∧ WW.cell? ⟨b, off + q * 7 + 2, none⟩ = some (.int .u8 y.bed) ∧ WW.cell? ⟨b, off + q * 7 + 3, none⟩ = some (.int .i64 y.at_) ∧ WW.cell? ⟨b, off + q * 7 + 4, none⟩ = some (.int .i64 y.to_) ∧ WW.cell? ⟨b, off + q * 7 + 5, none⟩ = some (.int .i64 y.car) ∧ WW.cell? ⟨b, off + q * 7 + 6, none⟩ = some (.int .i64 y.rack) ∧ Below wr.heap.size wr WW)
                (first | exact keep_two HS1.out (Below.drew (Below.refl _ _)) | exact keep_two (by assumption) (by assumption))
                (first | (go_at_call 49; refine (HN.out _).mono ?_; rintro e w' ⟨rfl, hb1⟩))
              rename_i hS1
              have hB3 := Lib.hid (hbv.trans (hS1.2.2.2.2.2.2.2.2.2.2.2.2.2.2.mono hbv.size))
              clear hS1 HS1
              go_wp2
              go_ret
              exact RetB.mk' HF.out hB3.out
            | false =>
              have HQ2 : Hid (∀ j, j < q + 1 → namesB (l.getD j ins0) x = false) := fun j hj => by
                by_cases e : j = q
                · rw [e, gy]; exact hnb
                · exact HQ.out j (by omega)
              rw [hnb] at HN
              clear gy hnb HQ
              go_wp2
              go_region_held3 (fun WW => WW.cell? ⟨b, off + k * 7, none⟩ = some (.int .u8 x.op) ∧ WW.cell? ⟨b, off + k * 7 + 1, none⟩ = some (.bool x.right) ∧ WW.cell? ⟨b, off + k * 7 + 2, none⟩ = some (.int .u8 x.bed) ∧ WW.cell? ⟨b, off + k * 7 + 3, none⟩ = some (.int .i64 x.at_) ∧ WW.cell? ⟨b, off + k * 7 + 4, none⟩ = some (.int .i64 x.to_) ∧ WW.cell? ⟨b, off + k * 7 + 5, none⟩ = some (.int .i64 x.car) ∧ WW.cell? ⟨b, off + k * 7 + 6, none⟩ = some (.int .i64 x.rack) ∧ WW.cell? ⟨b, off + q * 7, none⟩ = some (.int .u8 y.op) ∧ WW.cell? ⟨b, off + q * 7 + 1, none⟩ = some (.bool y.right) ∧ WW.cell? ⟨b, off + q * 7 + 2, none⟩ = some (.int .u8 y.bed) ∧ WW.cell? ⟨b, off + q * 7 + 3, none⟩ = some (.int .i64 y.at_) ∧ WW.cell? ⟨b, off + q * 7 + 4, none⟩ = some (.int .i64 y.to_) ∧ WW.cell? ⟨b, off + q * 7 + 5, none⟩ = some (.int .i64 y.car) ∧ WW.cell? ⟨b, off + q * 7 + 6, none⟩ = some (.int .i64 y.rack) ∧ Below wr.heap.size wr WW)
                (first | exact keep_two HS1.out (Below.drew (Below.refl _ _)) | exact keep_two (by assumption) (by assumption))
                (first | (go_at_call 49; refine (HN.out _).mono ?_; rintro e w' ⟨rfl, hb1⟩))
              rename_i hS1
              have hB3 := Lib.hid (hbv.trans (hS1.2.2.2.2.2.2.2.2.2.2.2.2.2.2.mono hbv.size))
              clear hS1 HS1
              go_wp2
              go_roundw
              case rel => exact ⟨q + 1, by omega, by go_num, HQ2, hB3.out⟩
              case measure => simp [intOf]; omega

set_option maxHeartbeats 1000000 in
theorem rpass_any (rack : Int) (hr : -8 ≤ rack ∧ rack ≤ 8) (A : Option Addr) (c : Nat) (l : List Ins) (hf : ∀ i ∈ l, i.fit) (hn : l.length ≤ 4611686018427387904) (w : World) (hs : SlX w w.heap.size A l) :
    Calls Try.prog 29 #[.int .i64 rack, .slice A l.length c] w fun e w' => RetB (passR rack l) w e w' := by
  by_cases h0 : l.length = 0
  · have HF : Hid (passR rack l = false) := by unfold Hid passR; rw [decide_eq_false (by omega), Bool.false_and, Bool.false_and]
    rw [h0]
    clear hs hf hr h0 hn
    go_enter Try.func29, Try.ntmps29
    go_wp2
    go_ret
    exact RetB.mk' HF.out (Below.refl _ _)
  obtain ⟨b, off, a, rfl, hB, ha, hca⟩ := hs.at_ (k := 0) (by omega)
  by_cases h1 : groupI a = 1
  · exact rpass_yarn rack hr b off c l a ha h1 hf hn w hs
  by_cases hg0 : groupI a = 0
  case neg => exact rpass_else rack b off c l a ha h1 hg0 hn w hs
  have ga := getD_of ha
  have HGa := Lib.hid (fun w => group_any a w)
  rw [hg0] at HGa
  rw [Nat.zero_mul, Nat.add_zero] at hca
  obtain ⟨c0, c1, c2, c3, c4, c5, c6⟩ := hca
  by_cases h2 : 1 < l.length
  · have HF : Hid (passR rack l = false) := by unfold Hid passR; rw [ga, decide_eq_true hg0, decide_eq_true h2]; simp
    have hlb : ((l.length : Int) == 0) = false := beq_eq_false_iff_ne.2 (by omega)
    clear hs hf hr ha ga h1 hg0 h0
    go_enter Try.func29, Try.ntmps29
    go_wp2_with (go_at_call 47; refine (HGa.out _).mono ?_; rintro e w1 ⟨rfl, hb1⟩)
    go_ret
    exact RetB.mk' HF.out hb1
  · have HF : Hid (passR rack l = true) := passR_true (by omega) (fun h => h2 h.2) (fun k a b => by omega)
    have e : l.length = 1 := by omega
    rw [e]
    clear hs hf hr ha ga h1 hg0 h0 h2 e hn
    go_enter Try.func29, Try.ntmps29
    go_wp2_with (go_at_call 47; refine (HGa.out _).mono ?_; rintro e w1 ⟨rfl, hb1⟩)
    go_loopw [5] (fun s5 wr => s5 = .int .i64 1 ∧ Below w.heap.size w wr) (fun _ _ => 0)
    case atStart => exact ⟨rfl, hb1⟩
    case round =>
      obtain ⟨rfl, hbw⟩ := hrel
      go_wp2
      go_ret
      exact RetB.mk' HF.out hbw
end Go.Proofs.Ytbnddpknejgmhaa
