/- Layer 34: the law IntarsiaAsks, walked. -/
import Derived.Test.YthedmiilkeclaaaKRc
namespace Go.Proofs.Ythedmiilkeclaaa
open Go.RowKit
open Go.Proofs.Ythedmiilkeclaaa.I34
set_option maxRecDepth 100000

theorem greatPic_small {p : List (List Int)} (h : greatPic p = false) : p.length ≤ 150 ∧ ∀ row ∈ p, row.length ≤ 150 := by
  unfold greatPic at h
  rw [Bool.or_eq_false_iff] at h
  obtain ⟨h1, h2⟩ := h
  have hl : p.length ≤ 150 := by
    rw [Bool.or_eq_false_iff] at h2
    have := of_decide_eq_false h2.2; omega
  refine ⟨hl, fun row hr => ?_⟩
  rw [List.take_of_length_le hl, List.any_eq_false] at h1
  have := h1 row hr
  unfold rowG at this
  simp at this
  omega

theorem flR_len {p : List (List Int)} (h : ∀ row ∈ p, row.length ≤ 150) (row colour : Int) : (flR p row colour).1.length ≤ 150 := by
  unfold flR
  split
  · simp
  · split
    · simp
    · have h1 := floTo_len (p.getD row.toNat []) colour (p.getD row.toNat []).length
      have h2 : (p.getD row.toNat []).length ≤ 150 := by
        rw [List.getD]
        cases hr : p[row.toNat]? with
        | none => simp
        | some r => exact h r (List.mem_of_getElem? hr)
      show (flo (p.getD row.toNat []) colour).length ≤ 150
      unfold flo; omega

set_option maxHeartbeats 4000000 in
theorem asks_walk (A : Option Addr) (c : Nat) (p : List (List Int)) (row colour limit : Int) (w : World) (h : SlRows w w.heap.size A p) :
    Calls Try.prog 3 #[.slice A p.length c, .int .i64 row, .int .i64 colour, .int .i64 limit] w fun e w' => e = .returned (.bool true) ∧ Below w.heap.size w w' := by
  have hgreat := great_any A c p w h
  cases hg : greatPic p with
  | true =>
    rw [hg] at hgreat
    clear h hg
    go_enter Try.func3, Try.ntmps3
    go_wp2_with (go_at_call 7; refine hgreat.mono ?_; rintro e w' ⟨rfl, rfl⟩)
    go_ret
    exact ⟨rfl, Below.refl _ _⟩
  | false =>
    rw [hg] at hgreat
    obtain ⟨hs1, hs2⟩ := greatPic_small hg
    have hrl : ∀ row ∈ p, row.length ≤ 4611686018427387904 := fun row hr => by have := hs2 row hr; omega
    have hl : (flR p row colour).1.length ≤ 4611686018427387904 := by have := flR_len hs2 row colour; omega
    have HR := Lib.hid hrl
    have HH := Lib.hid h
    have HG := Lib.hid hgreat
    clear hg h hrl hs2 hgreat
    go_enter Try.func3, Try.ntmps3
    go_wp2_with fail
    refine HG.out.mono ?_
    rintro e w' ⟨rfl, rfl⟩
    clear HG
    go_wp2_with fail
    refine (Floats_any A c p row colour w HH.out HR.out).mono ?_
    rintro e w1 ⟨v1, rfl, hown1, hb1⟩
    go_wp2_with fail
    refine (rFloats_any A c p row colour w1 ((HH.out.below hb1).more hb1.size) HR.out).mono ?_
    rintro e w2 ⟨v2, rfl, hown2, hb2⟩
    have hb02 := hb1.trans (hb2.mono hb1.size)
    have ho1 := own_below hown1 hb2 (Nat.le_refl _)
    clear hown1
    go_wp2_with fail
    refine (Longest_any A c p w2 ((HH.out.below hb02).more hb02.size) HR.out).mono ?_
    rintro e w3 ⟨rfl, hb3⟩
    have hb03 := hb02.trans (hb3.mono hb02.size)
    have ho1' := own_below ho1 hb3 (Nat.le_refl _)
    have ho2' := own_below hown2 hb3 (Nat.le_refl _)
    clear ho1 hown2
    go_wp2_with fail
    refine (rLongest_any A c p w3 ((HH.out.below hb03).more hb03.size) HR.out).mono ?_
    rintro e w4 ⟨rfl, hb4⟩
    have hb04 := hb03.trans (hb4.mono hb03.size)
    have ho1 := own_below ho1' hb4 (Nat.le_refl _)
    have ho2 := own_below ho2' hb4 (Nat.le_refl _)
    clear ho1' ho2'
    go_wp2_with fail
    refine (Bindings_any A c p limit w4 ((HH.out.below hb04).more hb04.size) HR.out).mono ?_
    rintro e w5 ⟨rfl, hb5⟩
    have hb05 := hb04.trans (hb5.mono hb04.size)
    have ho1' := own_below ho1 hb5 (Nat.le_refl _)
    have ho2' := own_below ho2 hb5 (Nat.le_refl _)
    clear ho1 ho2
    go_wp2_with fail
    refine (rBindings_any A c p limit w5 ((HH.out.below hb05).more hb05.size) HR.out).mono ?_
    rintro e w6 ⟨rfl, hb6⟩
    have hb06 := hb05.trans (hb6.mono hb05.size)
    have ho1 := own_below ho1' hb6 (Nat.le_refl _)
    have ho2 := own_below ho2' hb6 (Nat.le_refl _)
    clear ho1' ho2'
    go_wp2_with fail
    refine (check_any A c p w6 ((HH.out.below hb06).more hb06.size) HR.out).mono ?_
    rintro e w' ⟨rfl, rfl⟩
    go_wp2_with fail
    refine (rcheck_any A c p w6 ((HH.out.below hb06).more hb06.size) HR.out).mono ?_
    rintro e w7 ⟨rfl, hb7⟩
    have hb07 := hb06.trans (hb7.mono hb06.size)
    have ho1' := own_below ho1 hb7 (Nat.le_refl _)
    have ho2' := own_below ho2 hb7 (Nat.le_refl _)
    clear ho1 ho2
    obtain ⟨a1, c1, rfl⟩ := own_form ho1'
    obtain ⟨a2, c2, rfl⟩ := own_form ho2'
    have hc1 : ((chk p : Int) == chk p) = true := by simp
    have hsp := samePairs_any a1 a2 c1 c2 (flR p row colour).1 w7 (SlP.of_own ho1') (SlP.of_own ho2') hl
    have HS := Lib.hid hsp
    clear hsp ho1' ho2'
    go_wp2_with fail
    refine HS.out.mono ?_
    rintro e w8 ⟨rfl, hb8⟩
    go_wp2
    go_ret
    exact ⟨ret_bool (by simp), hb07.trans (hb8.mono hb07.size)⟩
end Go.Proofs.Ythedmiilkeclaaa
