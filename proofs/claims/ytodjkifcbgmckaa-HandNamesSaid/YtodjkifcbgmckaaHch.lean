/- Layer 29: changes, the program's and the reference's. -/
import Derived.Test.YtodjkifcbgmckaaHrcab
import Derived.Test.YtodjkifcbgmckaaHrM
import Derived.BigQuiet
namespace Go.Proofs.Ytodjkifcbgmckaa
open Go.RowKit Go.Shelf Go.Sort
set_option maxRecDepth 100000

theorem cell_drewN (w : World) (n : Nat) (a : Addr) : (w.drewN n).cell? a = w.cell? a := rfl
set_option maxHeartbeats 4000000 in
theorem hchg_any (A F : Option Addr) (c fn fc : Nat) (l : List Int) (hl : l.length ≤ 1000000) (x y : Nat) (hy : y < l.length) (w : World) (hs : SlI w w.heap.size A l) :
    Calls Try.prog 34 #[.agg #[.slice A l.length c, .slice F fn fc], .int .i64 (x : Int), .int .i64 (y : Int)] w fun e w' => e = .returned (.bool (chg l x y)) ∧ Below w.heap.size w w' := by
  have HA := Lib.hid ((Below.refl w.heap.size w).alloc (Nat.le_refl _) (.cells #[.slice A l.length c, .slice F fn fc] 26))
  by_cases hxy : x < y
  · obtain ⟨b, off, hA, hb, hc⟩ := hs (fun e => by subst e; simp at hy)
    subst hA
    have hx : x < l.length := by omega
    have c0 := cell_al (hc x _ (List.getElem?_eq_getElem hx)) (.cells #[.slice (some ⟨b, off, none⟩) l.length c, .slice F fn fc] 26)
    have c1 := cell_al (hc y _ (List.getElem?_eq_getElem hy)) (.cells #[.slice (some ⟨b, off, none⟩) l.length c, .slice F fn fc] 26)
    have HC : Hid (chg l x y = decide (l[y] < l[x])) := by
      unfold Hid chg
      rw [List.getD_eq_getElem?_getD, List.getElem?_eq_getElem hy, List.getD_eq_getElem?_getD, List.getElem?_eq_getElem hx]
      simp [hxy]
    have e1 : decide ((x : Int) < (y : Int)) = true := decide_eq_true (by omega)
    have e2 : decide (x < y) = true := decide_eq_true hxy
    generalize l[x] = u at c0 HC
    generalize l[y] = v at c1 HC
    clear hs hc hxy
    go_enter Try.func34, Try.ntmps34
    go_upto_region 1 with fail
    go_quiet (fail)
    go_wp2
    go_ret
    exact ⟨ret_bool (by rw [HC.out]), by first | exact HA.out.drew | exact below_drewN29 HA.out _⟩
  · have e1 : decide ((x : Int) < (y : Int)) = false := decide_eq_false (by omega)
    have e2 : decide (x < y) = false := decide_eq_false hxy
    have HC : Hid (chg l x y = false) := by unfold Hid chg; exact decide_eq_false (fun h => hxy h.1)
    clear hs hxy
    go_enter Try.func34, Try.ntmps34
    go_upto_region 1 with fail
    go_quiet (fail)
    go_wp2
    go_ret
    exact ⟨ret_bool HC.out.symm, by first | exact HA.out.drew | exact below_drewN29 HA.out _⟩
set_option maxHeartbeats 4000000 in
theorem rchg_any (A : Option Addr) (c : Nat) (l : List Int) (hl : l.length ≤ 1000000) (x y : Nat) (hy : y < l.length) (w : World) (hs : SlI w w.heap.size A l) :
    Calls Try.prog 35 #[.slice A l.length c, .int .i64 (x : Int), .int .i64 (y : Int)] w fun e w' => e = .returned (.bool (chg l x y)) ∧ ∃ m, w' = w.drewN m := by
  by_cases hxy : x < y
  · obtain ⟨b, off, hA, hb, hc⟩ := hs (fun e => by subst e; simp at hy)
    subst hA
    have hx : x < l.length := by omega
    have c0 := hc x _ (List.getElem?_eq_getElem hx)
    have c1 := hc y _ (List.getElem?_eq_getElem hy)
    have HC : Hid (chg l x y = decide (l[y] < l[x])) := by
      unfold Hid chg
      rw [List.getD_eq_getElem?_getD, List.getElem?_eq_getElem hy, List.getD_eq_getElem?_getD, List.getElem?_eq_getElem hx]
      simp [hxy]
    have e1 : decide ((x : Int) < (y : Int)) = true := decide_eq_true (by omega)
    have e2 : decide (x < y) = true := decide_eq_true hxy
    generalize l[x] = u at c0 HC
    generalize l[y] = v at c1 HC
    clear hs hc hxy
    go_enter Try.func35, Try.ntmps35
    go_upto_region 1 with fail
    go_quiet (fail)
    go_wp2
    go_ret
    exact ⟨ret_bool (by rw [HC.out]), by first | exact ⟨_, rfl⟩ | exact ⟨1, rfl⟩⟩
  · have e1 : decide ((x : Int) < (y : Int)) = false := decide_eq_false (by omega)
    have e2 : decide (x < y) = false := decide_eq_false hxy
    have HC : Hid (chg l x y = false) := by unfold Hid chg; exact decide_eq_false (fun h => hxy h.1)
    clear hs hxy
    go_enter Try.func35, Try.ntmps35
    go_upto_region 1 with fail
    go_quiet (fail)
    go_wp2
    go_ret
    exact ⟨ret_bool HC.out.symm, by first | exact ⟨_, rfl⟩ | exact ⟨1, rfl⟩⟩
end Go.Proofs.Ytodjkifcbgmckaa
