/- Layer 34, contracts: slices.IndexFunc and ContainsFunc over numbers, at whatever function value that only computes; Check. -/
import Derived.Test.YthedmiilkeclaaaI1
namespace Go.Proofs.Ythedmiilkeclaaa
open Go.RowKit
set_option maxRecDepth 100000

def idxBy (pr : Int → Bool) (zs : List Int) : Int := match zs.findIdx? pr with
  | some k => (k : Int)
  | none => -1
theorem idxBy_hit {pr : Int → Bool} {zs : List Int} {k : Nat} {z : Int} (hz : zs[k]? = some z) (h : pr z = true) (hb : ∀ j y, j < k → zs[j]? = some y → pr y = false) : idxBy pr zs = (k : Int) := by
  have : zs.findIdx? pr = some k := by
    rw [List.findIdx?_eq_some_iff_getElem]
    obtain ⟨hk, e⟩ := List.getElem?_eq_some_iff.1 hz
    exact ⟨hk, by rw [e]; exact h, fun j hj => by rw [hb j _ hj (List.getElem?_eq_getElem (by omega))]; simp⟩
  rw [idxBy, this]
theorem idxBy_none {pr : Int → Bool} {zs : List Int} (hb : ∀ j y, j < zs.length → zs[j]? = some y → pr y = false) : idxBy pr zs = -1 := by
  have : zs.findIdx? pr = none := by
    rw [List.findIdx?_eq_none_iff]
    intro x hx
    obtain ⟨j, hj⟩ := List.mem_iff_getElem?.1 hx
    exact hb j x (List.getElem?_eq_some_iff.1 hj).1 hj
  rw [idxBy, this]
theorem idxBy_any (pr : Int → Bool) (zs : List Int) : decide (0 ≤ idxBy pr zs) = zs.any pr := by
  unfold idxBy
  cases h : zs.findIdx? pr with
  | none =>
    rw [List.findIdx?_eq_none_iff] at h
    have : zs.any pr = false := by rw [List.any_eq_false]; intro x hx; rw [h x hx]; simp
    rw [this]; rfl
  | some k =>
    rw [List.findIdx?_eq_some_iff_getElem] at h
    obtain ⟨hk, h1, _⟩ := h
    have : zs.any pr = true := by rw [List.any_eq_true]; exact ⟨_, List.getElem_mem hk, h1⟩
    rw [this]; simp

set_option maxHeartbeats 1000000 in
theorem idxf_any (g : Nat) (lb : Array Value) (eg : ∀ args w, (callFunc g args).run Try.prog w = .ok (.enter g args) w) (pr : Int → Bool) (A : Option Addr) (c : Nat) (zs : List Int) (w : World)
    (hs : SlI w w.heap.size A zs) (hn : zs.length ≤ 4611686018427387904) (hp : ∀ x, x ∈ zs → Calls Try.prog g (#[.int .i64 x] ++ lb) w fun e w' => e = .returned (.bool (pr x)) ∧ w = w') :
    Calls Try.prog 37 #[.slice A zs.length c, .func (.func g) #[] lb] w fun e w' => e = .returned (.int .i64 (idxBy pr zs)) ∧ w = w' := by
  go_enter Try.func37, Try.ntmps37
  go_wp2
  go_loop [8] (fun i => ∃ k : Nat, k ≤ zs.length ∧ i = .int .i64 k ∧ Hid (∀ j y, j < k → zs[j]? = some y → pr y = false)) (fun i => zs.length - (intOf i).toNat)
  case atStart => exact ⟨0, Nat.zero_le _, rfl, fun j _ hj => absurd hj (Nat.not_lt_zero j)⟩
  case round =>
    obtain ⟨k, hk, rfl, H⟩ := hrel
    by_cases hlt : k < zs.length
    · obtain ⟨b, off, z, rfl, hB, hr, hc⟩ := hs.at_ hlt
      have hcall := hp z (List.mem_of_getElem? hr)
      have HR : Hid (zs[k]? = some z) := hr
      clear hr hs hp
      cases hq : pr z with
      | true =>
        rw [hq] at hcall
        have HQ : Hid (pr z = true) := hq
        clear hq
        go_wp2_with (go_at_fn g; refine hcall.mono ?_; rintro e w' ⟨rfl, rfl⟩)
        go_ret
        exact ⟨ret_int (idxBy_hit HR.out HQ.out H.out).symm, rfl⟩
      | false =>
        rw [hq] at hcall
        have HQ : Hid (pr z = false) := hq
        clear hq
        go_wp2_with (go_at_fn g; refine hcall.mono ?_; rintro e w' ⟨rfl, rfl⟩)
        go_round
        case rel =>
          refine ⟨k + 1, by omega, by go_num, fun j y hj hy => ?_⟩
          by_cases e : j = k
          · subst e; rw [HR.out] at hy; injection hy with hy; subst hy; exact HQ.out
          · exact H.out j y (by omega) hy
        case measure => simp [intOf]; omega
    · have HE : Hid (idxBy pr zs = -1) := idxBy_none (fun j y hj => H.out j y (by omega))
      clear H hs hp
      go_wp2
      go_ret
      exact ⟨ret_int HE.out.symm, rfl⟩
theorem contf_any (g : Nat) (lb : Array Value) (eg : ∀ args w, (callFunc g args).run Try.prog w = .ok (.enter g args) w) (pr : Int → Bool) (A : Option Addr) (c : Nat) (zs : List Int) (w : World)
    (hs : SlI w w.heap.size A zs) (hn : zs.length ≤ 4611686018427387904) (hp : ∀ x, x ∈ zs → Calls Try.prog g (#[.int .i64 x] ++ lb) w fun e w' => e = .returned (.bool (pr x)) ∧ w = w') :
    Calls Try.prog 25 #[.slice A zs.length c, .func (.func g) #[] lb] w fun e w' => e = .returned (.bool (zs.any pr)) ∧ w = w' := by
  have HA : Hid (decide (0 ≤ idxBy pr zs) = zs.any pr) := idxBy_any pr zs
  have hcall := Lib.hid (idxf_any g lb eg pr A c zs w hs hn hp)
  clear hs hp eg
  go_enter Try.func25, Try.ntmps25
  go_wp2_with (go_at_call 37; refine hcall.out.mono ?_; rintro e w' ⟨rfl, rfl⟩)
  go_ret
  exact ⟨ret_bool (by first | exact HA.out | (rw [← HA.out]; simp)), rfl⟩

def badC (c : Int) : Bool := decide (c < 1) || decide (6 < c)
theorem chk1_any (x : Int) (w : World) : Calls Try.prog 26 #[.int .i64 x] w fun e w' => e = .returned (.bool (badC x)) ∧ w = w' := by
  go_enter Try.func26, Try.ntmps26
  go_wp2
  all_goals go_ret
  all_goals refine ⟨ret_bool ?_, rfl⟩
  all_goals (rw [Bool.eq_iff_iff]; first | (simp [badC]; done) | (simp [badC]; omega))
end Go.Proofs.Ythedmiilkeclaaa
