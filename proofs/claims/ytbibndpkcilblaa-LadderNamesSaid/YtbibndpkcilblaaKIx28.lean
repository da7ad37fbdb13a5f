/- slices.IndexFunc and Contains at a row of ints. -/
import Derived.Test.YtbibndpkcilblaaKHk
import Derived.Test.YtbibndpkcilblaaKG1
import Derived.Test.YtbibndpkcilblaaShelf
namespace Go.Proofs.Ytbibndpkcilblaa
open Go.RowKit Go.Shelf Go.Sort
set_option maxRecDepth 100000

set_option maxHeartbeats 1000000 in
theorem idxJ_any (g : Nat) (lb : Array Value) (eg : ∀ args w, (callFunc g args).run Try.prog w = .ok (.enter g args) w) (pr : Int → Bool) (A : Option Addr) (c : Nat) (zs : List Int) (w : World)
    (hs : SlI w w.heap.size A zs) (hn : zs.length ≤ 4611686018427387904) (hp : ∀ x, x ∈ zs → ∀ w', Below w.heap.size w w' → Calls Try.prog g (#[.int .i64 x] ++ lb) w' fun e w2 => e = .returned (.bool (pr x)) ∧ Below w'.heap.size w' w2) :
    Calls Try.prog 60 #[.slice A zs.length c, .func (.func g) #[] lb] w fun e w' => e = .returned (.int .i64 (idxE pr zs)) ∧ Below w.heap.size w w' := by
  go_enter Try.func60, Try.ntmps60
  go_wp2
  go_loopw [8] (fun i wr => ∃ k : Nat, k ≤ zs.length ∧ i = .int .i64 k ∧ Hid (∀ j y, j < k → zs[j]? = some y → pr y = false) ∧ Below w.heap.size w wr) (fun i _ => zs.length - (intOf i).toNat)
  case atStart => exact ⟨0, Nat.zero_le _, rfl, fun j _ hj => absurd hj (Nat.not_lt_zero j), Below.refl _ _⟩
  case round =>
    obtain ⟨k, hk, rfl, H, hbw⟩ := hrel
    by_cases hlt : k < zs.length
    · obtain ⟨b, off, z, rfl, hB, hr, q0⟩ := hs.at_ hlt
      have c0 := (bcell hbw hB _).trans q0
      have hcall := hp z (List.mem_of_getElem? hr) wr hbw
      have HR : Hid (zs[k]? = some z) := hr
      clear hr hs hp q0
      cases hq : pr z with
      | true =>
        rw [hq] at hcall
        have HQ : Hid (pr z = true) := hq
        clear hq
        go_wp2_with (go_at_fn g; refine hcall.mono ?_; rintro e w' ⟨rfl, hb1⟩)
        go_ret
        exact ⟨ret_int (idxE_hit HR.out HQ.out H.out).symm, hbw.trans (hb1.mono hbw.size)⟩
      | false =>
        rw [hq] at hcall
        have HQ : Hid (pr z = false) := hq
        clear hq
        go_wp2_with (go_at_fn g; refine hcall.mono ?_; rintro e w' ⟨rfl, hb1⟩)
        go_roundw
        case rel =>
          refine ⟨k + 1, by omega, by go_num, fun j y hj hy => ?_, hbw.trans (hb1.mono hbw.size)⟩
          by_cases e : j = k
          · subst e; rw [HR.out] at hy; injection hy with hy; subst hy; exact HQ.out
          · exact H.out j y (by omega) hy
        case measure => simp [intOf]; omega
    · have HE : Hid (idxE pr zs = -1) := idxE_none (fun j y hj => H.out j y (by omega))
      clear H hs hp
      go_wp2
      go_ret
      exact ⟨ret_int HE.out.symm, hbw⟩
theorem find_at {α : Type} {f : α → Bool} : ∀ {l : List α} {x : α}, l.find? f = some x → ∃ k : Nat, l[k]? = some x ∧ f x = true ∧ ∀ (j : Nat) (y : α), j < k → l[j]? = some y → f y = false := fun {l x} h => by
  obtain ⟨h1, k, hk, e, h2⟩ := List.find?_eq_some_iff_getElem.1 h
  refine ⟨k, by rw [List.getElem?_eq_getElem hk, e], h1, fun j y hj hy => ?_⟩
  obtain ⟨hj2, e2⟩ := List.getElem?_eq_some_iff.1 hy
  have := h2 j hj
  rw [e2] at this
  simpa using this
theorem pcontains_any (A : Option Addr) (c : Nat) (zs : List Int) (x : Int) (w : World) (hs : SlI w w.heap.size A zs) (hl : zs.length ≤ 1000000) :
    Calls Try.prog 48 #[.slice A zs.length c, .int .i64 x] w fun e w' => e = .returned (.bool (zs.contains x)) ∧ w' = w := by
  cases zs with
  | nil => exact Try.slices_Contains_int_empty A c x w
  | cons a r =>
    obtain ⟨b, off, rfl, hB, hc⟩ := hs (by simp)
    have h := Try.slices_Contains_int b off (a :: r).length c (a :: r) x w (Nat.le_refl _) (by omega) (fun j hj => by
      rw [hc j (a :: r)[j] (List.getElem?_eq_getElem hj), List.getD_eq_getElem?_getD, List.getElem?_eq_getElem hj]; rfl)
    rw [List.take_length] at h
    exact h
end Go.Proofs.Ytbibndpkcilblaa
