/- Layer 31: SameInts of two slices that hold the same; the law PassesSplit walked. -/
import Derived.Test.YtbnddpknejgmhaaRef6
namespace Go.Proofs.Ytbnddpknejgmhaa
open Go.RowKit
set_option maxRecDepth 100000

set_option maxHeartbeats 1000000 in
theorem sameInts_any (A A' : Option Addr) (c c' : Nat) (l : List Int) (w : World) (h : SlI w w.heap.size A l) (h' : SlI w w.heap.size A' l) (hn : l.length ≤ 4611686018427387904) :
    Calls Try.prog 16 #[.slice A l.length c, .slice A' l.length c'] w fun e w' => e = .returned (.bool true) ∧ Below w.heap.size w w' := by
  have hne : (((l.length : Nat) : Int) == ((l.length : Nat) : Int)) = true := by simp
  go_enter Try.func16, Try.ntmps16
  go_wp2
  go_loopw [5] (fun i wr => ∃ k : Nat, k ≤ l.length ∧ i = .int .i64 k ∧ Below w.heap.size w wr) (fun i _ => l.length - (intOf i).toNat)
  case atStart => exact ⟨0, Nat.zero_le _, rfl, Below.refl _ _⟩
  case round =>
    obtain ⟨k, hk, rfl, hbw⟩ := hrel
    by_cases hlt : k < l.length
    · obtain ⟨b, off, z, rfl, hB, hz, hc⟩ := h.at_ hlt
      obtain ⟨b', off', z', rfl, hB', hz', hc'⟩ := h'.at_ hlt
      rw [hz] at hz'
      obtain rfl : z = z' := by simpa using hz'
      have h1 := (bcell hbw hB _).trans hc
      have h2 := (bcell hbw hB' _).trans hc'
      clear hc hc' h h' hz hz'
      go_wp2
      go_quiet (fail)
      go_wp2
      go_roundw
      case rel => exact ⟨k + 1, by omega, by go_num, below_drewN hbw _⟩
      case measure => simp [intOf]; omega
    · clear h h'
      go_wp2
      go_ret
      exact ⟨rfl, hbw⟩

theorem own_form {w : World} {B : Nat} {e : TypeId} {size n : Nat} {v : Value} {xs : List Value} (h : w.ownsRow B e size v n xs) : ∃ a c, v = .slice a n c := by
  rcases h.2 with ⟨rfl, rfl⟩ | ⟨g, cap, cur, rfl, _⟩
  · exact ⟨none, 0, rfl⟩
  · exact ⟨_, _, rfl⟩
theorem own_pos {w : World} {B : Nat} {e : TypeId} {size n c : Nat} {a : Option Addr} {xs : List Value} (h : w.ownsRow B e size (.slice a n c) n xs) (hn : 0 < n) : ∃ g, a = some ⟨g, 0, none⟩ ∧ B ≤ g ∧ g < w.heap.size ∧ ∀ j, j < n * size → w.cell? ⟨g, j, none⟩ = xs[j]? := by
  rcases h.2 with ⟨hv, rfl⟩ | ⟨g, cap, cur, hv, hg, hh, r⟩
  · omega
  · cases hv
    exact ⟨g, rfl, hg, (Array.getElem?_eq_some_iff.1 hh).1, fun j hj => h.cellAt j hj⟩
theorem natV_at {l : List Nat} {j : Nat} {n : Nat} (h : l[j]? = some n) : (natV l)[j]? = some (.int .i64 (n : Int)) := by
  unfold natV; rw [List.getElem?_map, h]; rfl
def ints (l : List Nat) : List Int := l.map fun n : Nat => (n : Int)
theorem ints_len (l : List Nat) : (ints l).length = l.length := by unfold ints; exact List.length_map ..
theorem SlI.of_own {w : World} {B : Nat} {e : TypeId} {a : Option Addr} {c : Nat} {l : List Nat} (h : w.ownsRow B e 1 (.slice a l.length c) l.length (natV l)) : SlI w w.heap.size a (ints l) := fun hn => by
  have hp : 0 < l.length := by
    rcases Nat.eq_zero_or_pos l.length with e | e
    · exact absurd (List.length_eq_zero_iff.1 (by rw [ints_len]; exact e)) hn
    · exact e
  obtain ⟨g, rfl, _, hg, hc⟩ := own_pos h hp
  refine ⟨g, 0, rfl, hg, fun j z hz => ?_⟩
  unfold ints at hz
  rw [List.getElem?_map] at hz
  cases hl : l[j]? with
  | none => rw [hl] at hz; cases hz
  | some n =>
    rw [hl] at hz
    simp only [Option.map_some, Option.some.injEq] at hz
    subst hz
    have hj := (List.getElem?_eq_some_iff.1 hl).1
    rw [Nat.zero_add]
    exact (hc j (by omega)).trans (natV_at hl)
theorem fewM_len : ∀ (f : Nat) (rack : Int) (l : List Ins), (fewM f rack l).length ≤ f
  | 0, _, _ => Nat.le_refl _
  | f + 1, rack, l => by
    simp only [fewM]
    split
    · simp
    · have := fewM_len f (rackedI rack (l.getD (lonF rack l - 1) ins0)) (l.drop (lonF rack l))
      simp only [List.length_cons]; omega
theorem fewE_len (rack : Int) (l : List Ins) : (fewE rack l).length ≤ 2000 := by
  unfold fewE
  split
  · next h => have := (look_zero h).2.1; have := fewM_len l.length rack l; unfold few; omega
  · simp

theorem longB_small {n : Nat} (h : longB n = false) : n ≤ 2100 := by
  unfold longB at h
  rw [Bool.or_eq_false_iff] at h
  have := of_decide_eq_false h.2
  omega
set_option maxHeartbeats 2000000 in
theorem split_walk (rack : Int) (A : Option Addr) (c : Nat) (l : List Ins) (hw : ∀ i ∈ l, i.wf) (hlc : l.length ≤ c) (Ap : Option Addr) (cp : Nat) (ps : List Int) (w : World) (hs : SlX w w.heap.size A l) (hp : SlI w w.heap.size Ap ps) :
    Calls Try.prog 3 #[.int .i64 rack, .slice A l.length c, .slice Ap ps.length cp] w fun e w' => e = .returned (.bool true) ∧ Below w.heap.size w w' := by
  have hlong := long_any A c l.length w
  cases hL : longB l.length with
  | true =>
    rw [hL] at hlong
    clear hs hp hw hL
    go_enter Try.func3, Try.ntmps3
    go_wp2_with (go_at_call 9; refine hlong.mono ?_; rintro e w' ⟨rfl, rfl⟩)
    go_ret
    exact ⟨rfl, Below.refl _ _⟩
  | false =>
    rw [hL] at hlong
    by_cases hpl : 400 < ps.length
    · clear hs hp hw hL
      go_enter Try.func3, Try.ntmps3
      go_wp2_with (go_at_call 9; refine hlong.mono ?_; rintro e w' ⟨rfl, rfl⟩)
      go_ret
      exact ⟨rfl, Below.refl _ _⟩
    have hn : l.length ≤ 4611686018427387904 := by have := longB_small hL; omega
    have hps : ps.length ≤ 4611686018427387904 := by omega
    have HS := Lib.hid hs
    have HP := Lib.hid hp
    have HW := Lib.hid hw
    have HG := Lib.hid hlong
    have hlen := Lib.hid (fewE_len rack l)
    clear hs hp hw hlong hL
    go_enter Try.func3, Try.ntmps3
    go_wp2_with fail
    refine HG.out.mono ?_
    rintro e w' ⟨rfl, rfl⟩
    clear HG
    go_wp2_with fail
    refine (is_any rack A c l HW.out hn w HS.out).mono ?_
    rintro e w1 ⟨rfl, hb1⟩
    go_wp2_with fail
    refine (ris_any rack A c l HW.out hn w1 ((HS.out.below hb1).more hb1.size)).mono ?_
    rintro e w2 ⟨rfl, hb2⟩
    have hb02 := hb1.trans (hb2.mono hb1.size)
    go_wp2_with fail
    refine (may_any rack A c l HW.out hn hlc Ap cp ps hps w2 ((HS.out.below hb02).more hb02.size) ((HP.out.below hb02).more hb02.size)).mono ?_
    rintro e w3 ⟨rfl, hb3⟩
    have hb03 := hb02.trans (hb3.mono hb02.size)
    go_wp2_with fail
    refine (rmay_any rack A c l HW.out hn hlc Ap cp ps hps w3 ((HS.out.below hb03).more hb03.size) ((HP.out.below hb03).more hb03.size)).mono ?_
    rintro e w4 ⟨rfl, hb4⟩
    have hb04 := hb03.trans (hb4.mono hb03.size)
    go_wp2_with fail
    refine (fewest_any rack A c l HW.out hn hlc w4 ((HS.out.below hb04).more hb04.size)).mono ?_
    rintro e w5 ⟨v1, rfl, hown1, hb5⟩
    have hb05 := hb04.trans (hb5.mono hb04.size)
    go_wp2_with fail
    refine (rfewest_any rack A c l HW.out hn hlc w5 ((HS.out.below hb05).more hb05.size)).mono ?_
    rintro e w6 ⟨v2, rfl, hown2, hb6⟩
    have hb06 := hb05.trans (hb6.mono hb05.size)
    have ho1 := own_below hown1 hb6 (Nat.le_refl _)
    clear hown1
    obtain ⟨a1, c1, rfl⟩ := own_form ho1
    obtain ⟨a2, c2, rfl⟩ := own_form hown2
    have HC := Lib.hid (sameInts_any a1 a2 c1 c2 (ints (fewE rack l)) w6 (SlI.of_own ho1) (SlI.of_own hown2) (by rw [ints_len]; have := hlen.out; omega))
    rw [ints_len] at HC
    clear ho1 hown2
    have e1 : (isB rack l == isB rack l) = true := beq_self_eq_true _
    have e2 : (mayE rack l ps == mayE rack l ps) = true := beq_self_eq_true _
    have e3 : (lookE rack l == lookE rack l) = true := beq_self_eq_true _
    go_wp2_with fail
    refine HC.out.mono ?_
    rintro e w8 ⟨rfl, hb8⟩
    go_wp2
    go_ret
    exact ⟨ret_bool (by simp), hb06.trans (hb8.mono hb06.size)⟩
end Go.Proofs.Ytbnddpknejgmhaa
