/- Layer 31: the law PassesBest walked. -/
import Derived.Test.YtbnddpknejgmhaaAlive
import Derived.Test.YtbnddpknejgmhaaBest
namespace Go.Proofs.Ytbnddpknejgmhaa
open Go.RowKit Go.Shelf
set_option maxRecDepth 100000

set_option maxHeartbeats 4000000 in
theorem best_walk (rack : Int) (A : Option Addr) (c : Nat) (l : List Ins) (hw : ∀ i ∈ l, i.wf) (hlc : l.length ≤ c) (Ap : Option Addr) (cp : Nat) (ps : List Int) (w : World) (hs : SlX w w.heap.size A l) (hp : SlI w w.heap.size Ap ps) :
    Calls Try.prog 7 #[.int .i64 rack, .slice A l.length c, .slice Ap ps.length cp] w fun e w' => e = .returned (.bool true) ∧ Below w.heap.size w w' := by
  have HAl := Lib.hid (alive_any w)
  by_cases h300 : 300 < l.length
  · clear hs hp hw
    go_enter Try.func7, Try.ntmps7
    go_wp2_with (go_at_call 21; refine HAl.out.mono ?_; rintro e w1 ⟨rfl, hb1⟩)
    go_ret
    exact ⟨rfl, hb1⟩
  by_cases h400 : 400 < ps.length
  · clear hs hp hw
    go_enter Try.func7, Try.ntmps7
    go_wp2_with (go_at_call 21; refine HAl.out.mono ?_; rintro e w1 ⟨rfl, hb1⟩)
    go_ret
    exact ⟨rfl, hb1⟩
  have hn : l.length ≤ 4611686018427387904 := by omega
  have hps : ps.length ≤ 4611686018427387904 := by omega
  have HS := Lib.hid hs
  have HP := Lib.hid hp
  have HW := Lib.hid hw
  have HLn := Lib.hid (fewE_len rack l)
  clear hs hp hw
  have HQ : Hid (lookE rack l = 0 → mayE rack l (ints (fewE rack l)) = true ∧ (mayE rack l ps = true → (fewE rack l).length ≤ ps.length)) := fun he => by
    have hf := look_fit HW.out he
    have e1 : fewE rack l = few rack l := by unfold fewE; rw [if_pos he]
    have e2 : ∀ q, mayE rack l q = mayB rack l q := fun q => by unfold mayE; rw [decide_eq_true he, Bool.true_and]
    rw [e2, e2, e1]
    exact ⟨few_may l.length rack l (Nat.le_refl _) hf, fun h => few_least hf h⟩
  go_enter Try.func7, Try.ntmps7
  go_upto_region 4 with (go_at_call 21; refine HAl.out.mono ?_; rintro e w1 ⟨rfl, hb1⟩)
  have HB1 := Lib.hid hb1
  clear hb1
  go_wp2_with fail
  refine (fewest_any rack A c l HW.out hn hlc w1 ((HS.out.below HB1.out).more HB1.out.size)).mono ?_
  rintro e w2 ⟨v1, rfl, hown, hb2⟩
  have hb02 := HB1.out.trans (hb2.mono HB1.out.size)
  obtain ⟨a1, c1, rfl⟩ := own_form hown
  have hm1 := may_any rack A c l HW.out hn hlc a1 c1 (ints (fewE rack l)) (by rw [ints_len]; have := HLn.out; omega) w2 ((HS.out.below hb02).more hb02.size) (SlI.of_own hown)
  rw [ints_len] at hm1
  have HM1 := Lib.hid hm1
  have HB2 := Lib.hid hb02
  clear hm1 hb02 hb2 hown
  go_wp2_with fail
  refine HM1.out.mono ?_
  rintro e w3 ⟨rfl, hb3⟩
  have HB3 := Lib.hid (HB2.out.trans (hb3.mono HB2.out.size))
  clear hb3
  go_wp2_with fail
  refine (may_any rack A c l HW.out hn hlc Ap cp ps hps w3 ((HS.out.below HB3.out).more HB3.out.size) ((HP.out.below HB3.out).more HB3.out.size)).mono ?_
  rintro e w4 ⟨rfl, hb4⟩
  have HB4 := Lib.hid (HB3.out.trans (hb4.mono HB3.out.size))
  clear hb4 HM1
  by_cases he : lookE rack l = 0
  case neg =>
    have e1 : (lookE rack l == 0) = false := by simp [he]
    have e2 : (lookE rack l != 0) = true := by simp [he]
    have e3 : (lookE rack l == lookE rack l) = true := beq_self_eq_true _
    clear he
    generalize lookE rack l = x at e1 e2 e3 ⊢
    go_wp2
    go_ret
    exact ⟨ret_bool (by simp [*]), HB4.out⟩
  case pos =>
    obtain ⟨hm, hle⟩ := HQ.out he
    rw [he, hm]
    cases hq : mayE rack l ps with
    | false =>
      clear hm hle he hq
      go_wp2
      go_ret
      exact ⟨ret_bool (by simp [*]), HB4.out⟩
    | true =>
      have hle2 := hle hq
      have hle3 : (((fewE rack l).length : Nat) : Int) ≤ ((ps.length : Nat) : Int) := by omega
      clear hm hle he hq
      generalize (fewE rack l).length = fl at hle2 hle3 ⊢
      go_wp2
      go_ret
      exact ⟨ret_bool (by simp [*]), HB4.out⟩
end Go.Proofs.Ytbnddpknejgmhaa
