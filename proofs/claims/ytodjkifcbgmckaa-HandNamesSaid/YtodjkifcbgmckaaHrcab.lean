/- Layer 29: the reference's Cables. -/
import Derived.Test.YtodjkifcbgmckaaHcab
import Derived.BigQuiet
namespace Go.Proofs.Ytodjkifcbgmckaa
open Go.RowKit Go.Shelf Go.Sort
set_option maxRecDepth 100000

theorem below_drewN29 {B : Nat} {w W : World} (h : Below B w W) (n : Nat) : Below B w (W.drewN n) := by
  obtain ⟨a, b, c, d, e⟩ := h
  exact ⟨a, b, c, d, e⟩

set_option maxHeartbeats 4000000 in
theorem rcables_any (A : Option Addr) (c : Nat) (l : List Int) (hl : l.length ≤ 1000000) (w : World) (hs : SlI w w.heap.size A l) :
    Calls Try.prog 30 #[.slice A l.length c] w fun e w' => e = .returned (.bool (cabB l)) ∧ Below w.heap.size w w' := by
  by_cases h4 : 4 < l.length
  · have HF : Hid (cabB l = false) := cab_long h4
    have e4 : decide (4 < l.length) = true := decide_eq_true h4
    have e4' : decide ((4 : Int) < (l.length : Int)) = true := decide_eq_true (by omega)
    clear hs h4
    go_enter Try.func30, Try.ntmps30
    go_wp2
    go_ret
    exact ⟨ret_bool HF.out.symm, Below.refl _ _⟩
  · have e4 : decide (4 < l.length) = false := decide_eq_false h4
    have e4' : decide ((4 : Int) < (l.length : Int)) = false := decide_eq_false (by omega)
    have h4' : l.length ≤ 4 := by omega
    have HS := Lib.hid hs
    clear hs h4
    go_enter Try.func30, Try.ntmps30
    go_wp2
    go_loopw [3] (fun s3 wr => ∃ i : Nat, i ≤ l.length ∧ s3 = .int .i64 (i : Int) ∧ Hid (cabTo l i) ∧ Hid (Below w.heap.size w wr)) (fun s3 _ => l.length - (intOf s3).toNat)
    case atStart => exact ⟨0, Nat.zero_le _, rfl, fun j x hj => absurd hj (Nat.not_lt_zero j), Below.refl _ _⟩
    case round =>
      obtain ⟨i, hi, rfl, HC, HB⟩ := hrel
      by_cases hlt : i < l.length
      case neg =>
        have HF : Hid (cabB l = true) := cabTo_all (by rw [show l.length = i by omega]; exact HC.out) h4'
        clear HC
        go_wp2
        go_ret
        exact ⟨ret_bool HF.out.symm, HB.out⟩
      case pos =>
        obtain ⟨b, off, hA, hbl, hc⟩ := HS.out (fun e => by subst e; simp at hlt)
        have HCell : Hid (∀ j (hj : j < l.length), wr.cell? ⟨b, off + j, none⟩ = some (.int .i64 l[j])) := fun j hj => (bcell HB.out hbl _).trans (hc j _ (List.getElem?_eq_getElem hj))
        have c0 := HCell.out i hlt
        have HI : Hid (l[i]? = some l[i]) := List.getElem?_eq_getElem hlt
        obtain ⟨x, hx⟩ : ∃ x, x = l[i] := ⟨_, rfl⟩
        rw [← hx] at c0 HI
        subst hA
        clear hc hx
        by_cases hbad : x ≠ 0 ∧ -4 ≤ x ∧ x ≤ 4
        case neg =>
          have HF : Hid (cabB l = false) := cab_bad HI.out hbad
          by_cases x0 : x = 0
          · have t0 : (x == 0) = true := by simp [x0]
            clear hbad x0 HC
            go_wp2
            go_ret
            exact ⟨ret_bool HF.out.symm, HB.out⟩
          · have t0 : (x == 0) = false := by simp [x0]
            by_cases x1 : x < -4
            · have t1 : decide (x < -4) = true := decide_eq_true x1
              clear hbad x0 x1 HC
              go_wp2
              go_ret
              exact ⟨ret_bool HF.out.symm, HB.out⟩
            · have t1 : decide (x < -4) = false := decide_eq_false x1
              have t2 : decide (4 < x) = true := decide_eq_true (by omega)
              clear hbad x0 x1 HC
              go_wp2
              go_ret
              exact ⟨ret_bool HF.out.symm, HB.out⟩
        case pos =>
          have t0 : (x == 0) = false := by simp [hbad.1]
          have t1 : decide (x < -4) = false := decide_eq_false (by omega)
          have t2 : decide (4 < x) = false := decide_eq_false (by omega)
          have HG := Lib.hid hbad
          clear hbad
          go_wp2
          go_loopw [4] (fun s4 wq => ∃ k : Nat, k ≤ i ∧ s4 = .int .i64 (k : Int) ∧ Hid (∀ (j : Nat) (y : Int), j < k → l[j]? = some y → y ≠ x) ∧ Hid (Below w.heap.size w wq)) (fun s4 _ => i - (intOf s4).toNat)
          case atStart => exact ⟨0, Nat.zero_le _, rfl, fun j y hj => absurd hj (Nat.not_lt_zero j), HB.out⟩
          case round =>
            obtain ⟨k, hk, rfl, HD, HB2⟩ := hrel
            clear c0 HCell
            have HCell : Hid (∀ j (hj : j < l.length), wr.cell? ⟨b, off + j, none⟩ = some (.int .i64 l[j])) := fun j hj => (bcell HB2.out hbl _).trans (by obtain ⟨b', off', e, -, hc'⟩ := HS.out (fun e => by subst e; simp at hlt); cases e; exact hc' j _ (List.getElem?_eq_getElem hj))
            by_cases hki : k < i
            case neg =>
              have hke : k = i := by omega
              subst hke
              have HC2 : Hid (cabTo l (k + 1)) := fun j y hj hy => by
                by_cases e : j = k
                · subst e
                  have e2 : y = x := by rw [HI.out] at hy; exact (Option.some.inj hy).symm
                  subst e2
                  exact ⟨HG.out, fun q z hq hz => HD.out q z hq hz⟩
                · exact HC.out j y (by omega) hy
              clear HC HD HCell
              go_wp2
              go_roundw
              case rel => exact ⟨k + 1, by omega, by go_num, HC2.out, HB2.out⟩
              case measure => simp [intOf]; omega
            case pos =>
              have hkl : k < l.length := by omega
              have c1 := HCell.out i hlt
              have c2 := HCell.out k hkl
              have HI2 : Hid (l[k]? = some l[k]) := List.getElem?_eq_getElem hkl
              have hxe : l[i] = x := by have := HI.out; rw [List.getElem?_eq_getElem hlt] at this; exact Option.some.inj this
              rw [hxe] at c1
              obtain ⟨y, hy⟩ : ∃ y, y = l[k] := ⟨_, rfl⟩
              rw [← hy] at c2 HI2
              clear hxe hy HCell
              by_cases hyx : y = x
              · have HF : Hid (cabB l = false) := cab_dup HI.out (hyx ▸ HI2.out) hki
                have t3 : (y == x) = true := by simp [hyx]
                clear hyx HC HD
                go_upto_region 11 with fail
                go_quiet (fail)
                go_wp2
                go_ret
                first | exact ⟨ret_bool HF.out.symm, HB2.out⟩ | exact ⟨ret_bool HF.out.symm, HB2.out.drew⟩ | exact ⟨ret_bool HF.out.symm, below_drewN29 HB2.out _⟩
              · have t3 : (y == x) = false := by simp [hyx]
                have HD2 : Hid (∀ (j : Nat) (z : Int), j < k + 1 → l[j]? = some z → z ≠ x) := fun j z hj hz => by
                  by_cases e : j = k
                  · subst e
                    have e2 : z = y := by rw [HI2.out] at hz; exact (Option.some.inj hz).symm
                    rw [e2]; exact hyx
                  · exact HD.out j z (by omega) hz
                clear hyx HC HD
                go_upto_region 11 with fail
                go_quiet (fail)
                go_wp2
                go_roundw
                case rel => exact ⟨k + 1, by omega, by go_num, HD2.out, by first | exact HB2.out | exact HB2.out.drew | exact below_drewN29 HB2.out _⟩
                case measure => simp [intOf]; omega
end Go.Proofs.Ytodjkifcbgmckaa
