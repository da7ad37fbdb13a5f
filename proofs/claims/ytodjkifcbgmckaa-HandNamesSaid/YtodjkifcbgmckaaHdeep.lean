/- Layer 29: deep, changes: the depth of a needle; the loops that change. -/
import Derived.Test.YtodjkifcbgmckaaHw
import Derived.Test.YtodjkifcbgmckaaIv
import Derived.Test.YtodjkifcbgmckaaMvOpen
namespace Go.Proofs.Ytodjkifcbgmckaa
open Go.RowKit Go.Shelf Go.Sort
set_option maxRecDepth 100000

theorem deep_any (A : Option Addr) (c : Nat) (ns : List Int) (a : Int) (h : a < (ns.length : Int)) (hn : ns.length ≤ 1000000) (w : World) (hs : SlI w w.heap.size A ns) :
    Calls Try.prog 33 #[.slice A ns.length c, .int .i64 a] w fun e w' => e = .returned (.int .i64 (deepI ns a)) ∧ w = w' := by
  by_cases h0 : a < 0
  · have e1 : decide (a < 0) = true := decide_eq_true h0
    have HE : Hid (deepI ns a = 0) := by unfold Hid deepI; rw [if_pos h0]
    clear h h0 hs
    go_enter Try.func33, Try.ntmps33
    go_wp2
    go_ret
    exact ⟨ret_int HE.out.symm, rfl⟩
  · have e1 : decide (a < 0) = false := decide_eq_false h0
    obtain ⟨k, rfl⟩ : ∃ k : Nat, a = (k : Int) := ⟨a.toNat, by omega⟩
    have hk : k < ns.length := by omega
    obtain ⟨b, off, hA, hb, hc⟩ := hs (fun e => by subst e; simp at hk)
    have c0 := hc k _ (List.getElem?_eq_getElem hk)
    have HE : Hid (deepI ns (k : Int) = ns[k]) := by
      unfold Hid deepI
      rw [if_neg h0, Int.toNat_natCast, List.getD_eq_getElem?_getD, List.getElem?_eq_getElem hk]
      rfl
    have hk0 : (0 : Int) ≤ (k : Int) := by omega
    generalize ns[k] = x at c0 HE
    subst hA
    clear hs hc h0
    go_enter Try.func33, Try.ntmps33
    go_wp2
    go_ret
    exact ⟨ret_int HE.out.symm, rfl⟩
end Go.Proofs.Ytodjkifcbgmckaa
