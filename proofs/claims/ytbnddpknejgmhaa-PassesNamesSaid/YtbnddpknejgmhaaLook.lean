/- Layer 31: look, the program's and the reference's; Long. -/
import Derived.Test.YtbnddpknejgmhaaIns3
import Derived.Test.YtbnddpknejgmhaaSlE
namespace Go.Proofs.Ytbnddpknejgmhaa
open Go.RowKit
set_option maxRecDepth 100000

set_option maxHeartbeats 1000000 in
theorem idxI_any (g : Nat) (lb : Array Value) (eg : ∀ args w, (callFunc g args).run Try.prog w = .ok (.enter g args) w) (pr : Ins → Bool) (A : Option Addr) (c : Nat) (zs : List Ins) (w : World)
    (hs : SlX w w.heap.size A zs) (hn : zs.length ≤ 4611686018427387904) (hp : ∀ x, x ∈ zs → ∀ w', Below w.heap.size w w' → Calls Try.prog g (#[x.val] ++ lb) w' fun e w2 => e = .returned (.bool (pr x)) ∧ Below w'.heap.size w' w2) :
    Calls Try.prog 58 #[.slice A zs.length c, .func (.func g) #[] lb] w fun e w' => e = .returned (.int .i64 (idxE pr zs)) ∧ Below w.heap.size w w' := by
  go_enter Try.func58, Try.ntmps58
  go_wp2
  go_loopw [8] (fun i wr => ∃ k : Nat, k ≤ zs.length ∧ i = .int .i64 k ∧ Hid (∀ j y, j < k → zs[j]? = some y → pr y = false) ∧ Below w.heap.size w wr) (fun i _ => zs.length - (intOf i).toNat)
  case atStart => exact ⟨0, Nat.zero_le _, rfl, fun j _ hj => absurd hj (Nat.not_lt_zero j), Below.refl _ _⟩
  case round =>
    obtain ⟨k, hk, rfl, H, hbw⟩ := hrel
    by_cases hlt : k < zs.length
    · obtain ⟨b, off, z, rfl, hB, hr, hc⟩ := hs.at_ hlt
      obtain ⟨c0, c1, c2, c3, c4, c5, c6⟩ := hc.below hbw hB
      have hcall := hp z (List.mem_of_getElem? hr) wr hbw
      have HR : Hid (zs[k]? = some z) := hr
      clear hr hs hp hc
      cases hq : pr z with
      | true =>
        rw [hq] at hcall
        have HQ : Hid (pr z = true) := hq
        clear hq
        go_wp2_with (go_at_fn g; refine hcall.mono ?_; rintro e w' ⟨rfl, hb1⟩)
        go_ret
        exact ⟨ret_int (idxE_hit HR.out HQ.out H.out).symm, hbw.trans (hb1.mono hbw.size)⟩
      | false =>
        rw [hq] at hcall
        have HQ : Hid (pr z = false) := hq
        clear hq
        go_wp2_with (go_at_fn g; refine hcall.mono ?_; rintro e w' ⟨rfl, hb1⟩)
        go_roundw
        case rel =>
          refine ⟨k + 1, by omega, by go_num, fun j y hj hy => ?_, hbw.trans (hb1.mono hbw.size)⟩
          by_cases e : j = k
          · subst e; rw [HR.out] at hy; injection hy with hy; subst hy; exact HQ.out
          · exact H.out j y (by omega) hy
        case measure => simp [intOf]; omega
    · have HE : Hid (idxE pr zs = -1) := idxE_none (fun j y hj => H.out j y (by omega))
      clear H hs hp
      go_wp2
      go_ret
      exact ⟨ret_int HE.out.symm, hbw⟩
theorem contI_any (g : Nat) (lb : Array Value) (eg : ∀ args w, (callFunc g args).run Try.prog w = .ok (.enter g args) w) (pr : Ins → Bool) (A : Option Addr) (c : Nat) (zs : List Ins) (w : World)
    (hs : SlX w w.heap.size A zs) (hn : zs.length ≤ 4611686018427387904) (hp : ∀ x, x ∈ zs → ∀ w', Below w.heap.size w w' → Calls Try.prog g (#[x.val] ++ lb) w' fun e w2 => e = .returned (.bool (pr x)) ∧ Below w'.heap.size w' w2) :
    Calls Try.prog 41 #[.slice A zs.length c, .func (.func g) #[] lb] w fun e w' => e = .returned (.bool (zs.any pr)) ∧ Below w.heap.size w w' := by
  have HA : Hid (decide (0 ≤ idxE pr zs) = zs.any pr) := idxE_any pr zs
  have hcall := Lib.hid (idxI_any g lb eg pr A c zs w hs hn hp)
  clear hs hp eg
  go_enter Try.func41, Try.ntmps41
  go_wp2_with (go_at_call 58; refine hcall.out.mono ?_; rintro e w' ⟨rfl, hb1⟩)
  go_ret
  exact ⟨ret_bool (by first | exact HA.out | (rw [← HA.out]; simp)), hb1⟩

def lookB (l : List Ins) : Bool := l.any fun i => decide (i.err ≠ 0)
def lookE (rack : Int) (l : List Ins) : Int := if rack < -8 ∨ 8 < rack then 2 else if 2000 < l.length then 4 else if lookB l then 8 else 0

theorem look1_any (i : Ins) (w : World) : Calls Try.prog 42 #[i.val] w fun e w' => e = .returned (.bool (decide (i.err ≠ 0))) ∧ Below w.heap.size w w' := by
  go_enter Try.func42, Try.ntmps42
  go_wp2_with (go_at_call 43; refine (instr_any i _).mono ?_; rintro e w' ⟨rfl, hb1⟩)
  go_ret
  refine ⟨ret_bool ?_, ((Below.refl _ _).alloc (Nat.le_refl _) _).trans (hb1.mono (by simp))⟩
  by_cases h : i.err = 0
  · rw [h]; rfl
  · simp [h]

set_option maxHeartbeats 1000000 in
theorem look_any (rack : Int) (A : Option Addr) (c : Nat) (l : List Ins) (w : World) (hs : SlX w w.heap.size A l) (hn : l.length ≤ 4611686018427387904) :
    Calls Try.prog 26 #[.int .i64 rack, .slice A l.length c] w fun e w' => e = .returned (.int .i64 (lookE rack l)) ∧ Below w.heap.size w w' := by
  have hcall := Lib.hid (contI_any 42 #[] (enters_of Try.func42 (by kernel_rfl) rfl) (fun i => decide (i.err ≠ 0)) A c l w hs hn (fun x _ w' _ => look1_any x w'))
  have HC : Hid (∀ b, l.any (fun i => decide (i.err ≠ 0)) = b → lookB l = b) := fun b h => h
  clear hs
  by_cases h1 : rack < -8 ∨ 8 < rack
  · have HE : Hid (lookE rack l = 2) := by unfold Hid lookE; rw [if_pos h1]
    clear HC
    rcases h1 with h1 | h1
    all_goals
      go_enter Try.func26, Try.ntmps26
      go_wp2
      go_ret
      exact ⟨ret_int HE.out.symm, Below.refl _ _⟩
  · have h2 : -8 ≤ rack ∧ rack ≤ 8 := by omega
    by_cases h3 : 2000 < l.length
    · have HE : Hid (lookE rack l = 4) := by unfold Hid lookE; rw [if_neg h1, if_pos h3]
      clear HC h1
      go_enter Try.func26, Try.ntmps26
      go_wp2
      go_ret
      exact ⟨ret_int HE.out.symm, Below.refl _ _⟩
    · have HE : Hid (∀ b, lookB l = b → lookE rack l = if b then 8 else 0) := by
        intro b hb
        unfold lookE; rw [if_neg h1, if_neg h3, hb]
      clear h1
      generalize l.any (fun i => decide (i.err ≠ 0)) = b at hcall HC
      have HL := HE.out b (HC.out b rfl)
      cases b with
      | false =>
        have HE2 := Lib.hid HL
        clear HL HC HE
        go_enter Try.func26, Try.ntmps26
        go_wp2_with (go_at_call 41; refine hcall.out.mono ?_; rintro e w' ⟨rfl, hb1⟩)
        go_ret
        exact ⟨ret_int HE2.out.symm, hb1⟩
      | true =>
        have HE2 := Lib.hid HL
        clear HL HC HE
        go_enter Try.func26, Try.ntmps26
        go_wp2_with (go_at_call 41; refine hcall.out.mono ?_; rintro e w' ⟨rfl, hb1⟩)
        go_ret
        exact ⟨ret_int HE2.out.symm, hb1⟩

theorem lookB_hit {l : List Ins} {k : Nat} {i : Ins} (hz : l[k]? = some i) (h : i.err ≠ 0) : lookB l = true := by
  unfold lookB; rw [List.any_eq_true]; exact ⟨i, List.mem_of_getElem? hz, by simpa using h⟩
theorem lookB_none {l : List Ins} (h : ∀ j y, j < l.length → l[j]? = some y → y.err = 0) : lookB l = false := by
  unfold lookB; rw [List.any_eq_false]
  intro x hx
  obtain ⟨j, hj⟩ := List.mem_iff_getElem?.1 hx
  simp [h j x (List.getElem?_eq_some_iff.1 hj).1 hj]

set_option maxHeartbeats 1000000 in
theorem rlook_any (rack : Int) (A : Option Addr) (c : Nat) (l : List Ins) (w : World) (hs : SlX w w.heap.size A l) :
    Calls Try.prog 28 #[.int .i64 rack, .slice A l.length c] w fun e w' => e = .returned (.int .i64 (lookE rack l)) ∧ Below w.heap.size w w' := by
  by_cases h1 : rack < -8 ∨ 8 < rack
  · have HE : Hid (lookE rack l = 2) := by unfold Hid lookE; rw [if_pos h1]
    clear hs
    rcases h1 with h1 | h1
    all_goals
      go_enter Try.func28, Try.ntmps28
      go_wp2
      go_ret
      exact ⟨ret_int HE.out.symm, Below.refl _ _⟩
  · have h2 : -8 ≤ rack ∧ rack ≤ 8 := by omega
    by_cases h3 : 2000 < l.length
    · have HE : Hid (lookE rack l = 4) := by unfold Hid lookE; rw [if_neg h1, if_pos h3]
      clear hs h1
      go_enter Try.func28, Try.ntmps28
      go_wp2
      go_ret
      exact ⟨ret_int HE.out.symm, Below.refl _ _⟩
    · have HE : Hid (∀ b, lookB l = b → lookE rack l = if b then 8 else 0) := by
        intro b hb
        unfold lookE; rw [if_neg h1, if_neg h3, hb]
      clear h1
      go_enter Try.func28, Try.ntmps28
      go_wp2
      go_loopw [5] (fun i wr => ∃ k : Nat, k ≤ l.length ∧ i = .int .i64 k ∧ Hid (∀ j y, j < k → l[j]? = some y → y.err = 0) ∧ Below w.heap.size w wr) (fun i _ => l.length - (intOf i).toNat)
      case atStart => exact ⟨0, Nat.zero_le _, rfl, fun j _ hj => absurd hj (Nat.not_lt_zero j), Below.refl _ _⟩
      case round =>
        obtain ⟨k, hk, rfl, H, hbw⟩ := hrel
        by_cases hlt : k < l.length
        · obtain ⟨b, off, z, rfl, hB, hr, hc⟩ := hs.at_ hlt
          obtain ⟨c0, c1, c2, c3, c4, c5, c6⟩ := hc.below hbw hB
          have hcall := Lib.hid (rinstr_any z wr)
          have HR : Hid (l[k]? = some z) := hr
          clear hr hs hc
          by_cases he : z.err = 0
          · rw [he] at hcall
            have HQ := Lib.hid he
            clear he
            go_wp2_with (go_at_call 46; refine hcall.out.mono ?_; rintro e w' ⟨rfl, hb1⟩)
            go_roundw
            case rel =>
              refine ⟨k + 1, by omega, by go_num, fun j y hj hy => ?_, hbw.trans (hb1.mono hbw.size)⟩
              by_cases e : j = k
              · subst e; rw [HR.out] at hy; injection hy with hy; subst hy; exact HQ.out
              · exact H.out j y (by omega) hy
            case measure => simp [intOf]; omega
          · have hq : (z.err == 0) = false := beq_eq_false_iff_ne.2 he
            have HL := Lib.hid (HE.out true (lookB_hit HR.out he))
            clear he
            go_wp2_with (go_at_call 46; refine hcall.out.mono ?_; rintro e w' ⟨rfl, hb1⟩)
            go_ret
            exact ⟨ret_int HL.out.symm, hbw.trans (hb1.mono hbw.size)⟩
        · have HL := Lib.hid (HE.out false (lookB_none (fun j y hj => H.out j y (by omega))))
          clear H hs HE
          go_wp2
          go_ret
          exact ⟨ret_int HL.out.symm, hbw⟩

def longB (n : Nat) : Bool := (decide (300 < n) && decide (n ≤ 2000)) || decide (2100 < n)
theorem long_any (A : Option Addr) (c n : Nat) (w : World) :
    Calls Try.prog 9 #[.slice A n c] w fun e w' => e = .returned (.bool (longB n)) ∧ w = w' := by
  go_enter Try.func9, Try.ntmps9
  go_wp2
  all_goals go_ret
  all_goals refine ⟨ret_bool ?_, rfl⟩
  all_goals (rw [Bool.eq_iff_iff]; first | (simp [longB]; done) | (simp [longB]; omega))
end Go.Proofs.Ytbnddpknejgmhaa
