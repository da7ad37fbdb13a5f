/- Layer 31: grow in one word; longest. -/
import Derived.Test.YtbnddpknejgmhaaGrow2
import Derived.Test.YtbnddpknejgmhaaLook
namespace Go.Proofs.Ytbnddpknejgmhaa
open Go.RowKit
set_option maxRecDepth 100000

theorem hooks_nil {i : Ins} (h : yarnB i = true) : hooks i = [] := by
  unfold yarnB at h
  have := of_decide_eq_true h
  unfold hooks
  rw [if_neg (by omega), if_neg (by omega)]
theorem grow_any (i a l : Ins) (hi : i.fit) (hl : l.fit) (rack : Int) (hr : -8 ≤ rack ∧ rack ≤ 8) (pb mb n B : Nat) (U : List Hook) (w : World) (hP : PassAt w pb mb n a l rack U) (hB : B ≤ pb) (hB2 : B ≤ mb) (hn : n ≤ 100000)
    (q : Bool) (hq : growB rack a l U i = q) :
    Calls Try.prog 45 #[.pointer (some ⟨pb, 0, none⟩), i.val] w fun e w' =>
      e = .returned (.bool q) ∧ Below B w w' ∧ (q = true → ∃ n', n' ≤ n + 2 ∧ PassAt w' pb mb n' a i rack (growU a U i)) := by
  have hpl := cell_lt hP.rack
  have hBW : B ≤ w.heap.size := by omega
  cases hy : yarnB a && yarnB i with
  | true =>
    have h1 := (Bool.and_eq_true_iff.1 hy).1
    have h2 := (Bool.and_eq_true_iff.1 hy).2
    refine (grow_yarn i a l hi hl rack hr pb mb n U w hP h1 h2).mono ?_
    rintro e w' ⟨b, rfl, hb, hg, hp⟩
    have hbq : b = q := by rw [hb, ← hq]; unfold growB condY; rw [if_pos hy]
    subst hbq
    refine ⟨rfl, (Below.refl B w).grown hg hBW (fun k e => by cases e; exact hB), fun h => ⟨n, by omega, ?_⟩⟩
    unfold growU
    rw [if_pos hy]
    exact hp h
  | false =>
    have hcq : condO a i U = q := by
      rw [← hq]; unfold growB condO; rw [hy, if_neg (by simp)]
      by_cases h : a.op = i.op ∧ (a.op = 7 ∨ a.op = 9)
      · rw [if_pos h, decide_eq_true h, Bool.true_and]
      · rw [if_neg h, decide_eq_false h, Bool.false_and]
    have hpost : ∀ B' e w', B ≤ B' → GrowPostO rack a i pb mb n U B' w e w' → e = .returned (.bool q) ∧ Below B w w' ∧ (q = true → ∃ n', n' ≤ n + 2 ∧ PassAt w' pb mb n' a i rack (growU a U i)) := by
      rintro B' e w' hBB ⟨b, rfl, hb, hbl, hp⟩
      rw [hcq] at hb
      subst hb
      refine ⟨rfl, hbl.mono hBB, fun h => ⟨n + (hooks i).length, by have := hooks_len i; omega, ?_⟩⟩
      unfold growU
      rw [hy, if_neg (by simp)]
      exact hp h
    by_cases h79 : a.op = i.op ∧ (a.op = 7 ∨ a.op = 9)
    · exact (grow_same i a l hi rack pb mb n B U w hP hB hB2 hn h79.1 (by omega)).mono fun e w' h => hpost B e w' (Nat.le_refl _) h
    · exact (grow_none i a l rack pb mb n U w hP hy h79).mono fun e w' h => hpost _ e w' hBW h

/-- How many more a pass takes. -/
def growRun (rack : Int) (a : Ins) : Ins → List Hook → List Ins → Nat
  | _, _, [] => 0
  | l, U, i :: t => if growB rack a l U i then growRun rack a i (growU a U i) t + 1 else 0
def lonF (rack : Int) : List Ins → Nat
  | [] => 0
  | i :: t => growRun rack i i (hooks i).reverse t + 1
theorem drop_at {α : Type} {zs : List α} {k : Nat} {z : α} (h : zs[k]? = some z) : zs.drop k = z :: zs.drop (k + 1) := by
  obtain ⟨hk, e⟩ := List.getElem?_eq_some_iff.1 h
  rw [List.drop_eq_getElem_cons hk, e]

set_option maxHeartbeats 1000000 in
theorem longest_any (rack : Int) (hr : -8 ≤ rack ∧ rack ≤ 8) (A : Option Addr) (c : Nat) (zs : List Ins) (hf : ∀ i ∈ zs, i.fit) (hn : zs.length ≤ 2000) (w : World) (hs : SlX w w.heap.size A zs) :
    Calls Try.prog 27 #[.int .i64 rack, .slice A zs.length c] w fun e w' => e = .returned (.int .i64 (lonF rack zs)) ∧ Below w.heap.size w w' := by
  cases zs with
  | nil =>
    clear hf hs hn hr
    go_enter Try.func27, Try.ntmps27
    go_wp2
    go_ret
    exact ⟨rfl, Below.refl _ _⟩
  | cons a t =>
    obtain ⟨b, off, i0, rfl, hB, hr0, hc⟩ := hs.at_ (k := 0) (by simp)
    obtain rfl : a = i0 := by simpa using hr0
    obtain ⟨c0, c1, c2, c3, c4, c5, c6⟩ := hc
    simp only [Nat.zero_mul, Nat.add_zero] at c0 c1 c2 c3 c4 c5 c6
    have HB := Lib.hid (begin_any rack a (hf a List.mem_cons_self) w)
    have hpos : 0 < (a :: t).length := by simp
    have HL : Hid (lonF rack (a :: t) = 1 + growRun rack a a (hooks a).reverse ((a :: t).drop 1)) := by unfold Hid; simp only [lonF, List.drop_one, List.tail_cons]; omega
    have hfa := Lib.hid (hf a List.mem_cons_self)
    generalize a :: t = zs at hs hf hn hpos HL ⊢
    clear hr0
    go_enter Try.func27, Try.ntmps27
    go_wp2_with (go_at_call 44; refine HB.out.mono ?_; rintro e w1 ⟨pb, mb, rfl, hpb, hmb, hne, hP, hb1⟩)
    clear c0 c1 c2 c3 c4 c5 c6
    go_loopw [6] (fun s6 wr => ∃ k : Nat, 1 ≤ k ∧ k ≤ zs.length ∧ s6 = .int .i64 k ∧ (∃ l U n', PassAt wr pb mb n' a l rack U ∧ n' ≤ 2 * k ∧ l.fit ∧ Hid (lonF rack zs = k + growRun rack a l U (zs.drop k))) ∧ Below w.heap.size w wr) (fun s6 _ => zs.length - (intOf s6).toNat)
    case atStart => exact ⟨1, Nat.le_refl _, hpos, rfl, ⟨a, _, _, hP, by have := hooks_len a; omega, hfa.out, HL.out⟩, hb1⟩
    case round =>
      obtain ⟨k, hk1, hk, rfl, ⟨l, U, n', hPk, hn', hlf, HK⟩, hbw⟩ := hrel
      by_cases hlt : k < zs.length
      · obtain ⟨b', off', z, he, hB', hz, hcz⟩ := hs.at_ hlt
        cases he
        obtain ⟨d0, d1, d2, d3, d4, d5, d6⟩ := hcz.below hbw hB
        have hfz := hf z (List.mem_of_getElem? hz)
        have HZ := Lib.hid hz
        cases hq : growB rack a l U z with
        | true =>
          have hcall := Lib.hid (grow_any z a l hfz hlf rack hr pb mb n' w.heap.size U wr hPk hpb hmb (by omega) true hq)
          have HS : Hid (growRun rack a l U (zs.drop k) = growRun rack a z (growU a U z) (zs.drop (k + 1)) + 1) := by unfold Hid; rw [drop_at hz]; simp only [growRun]; rw [if_pos hq]
          have hfz2 := Lib.hid hfz
          clear hz hcz hs hf hfz hlf hPk hP hq
          go_wp2_with (go_at_call 45; refine hcall.out.mono ?_; rintro e w2 ⟨rfl, hb2, hp2⟩)
          obtain ⟨n2, hn2, hP2⟩ := hp2 (by simp)
          clear hp2
          go_roundw
          case rel => exact ⟨k + 1, by omega, by omega, by go_num, ⟨z, _, n2, hP2, by omega, hfz2.out, by unfold Hid; rw [HK.out, HS.out]; omega⟩, hbw.trans hb2⟩
          case measure => simp [intOf]; omega
        | false =>
          have hcall := Lib.hid (grow_any z a l hfz hlf rack hr pb mb n' w.heap.size U wr hPk hpb hmb (by omega) false hq)
          have HS : Hid (lonF rack zs = k) := by unfold Hid; rw [HK.out, drop_at hz]; simp only [growRun]; rw [hq]; rfl
          clear hz hcz hs hf hfz hlf hPk hP hq HK HL
          go_wp2_with (go_at_call 45; refine hcall.out.mono ?_; rintro e w2 ⟨rfl, hb2, _⟩)
          go_ret
          exact ⟨ret_int (by rw [HS.out]), hbw.trans hb2⟩
      · have HS : Hid (lonF rack zs = k) := by unfold Hid; rw [HK.out, List.drop_of_length_le (by omega)]; simp [growRun]
        obtain rfl : k = zs.length := by omega
        clear hs hf hlf hPk hP HK HL hlt
        go_wp2
        go_ret
        exact ⟨ret_int (by rw [HS.out]), hbw⟩
end Go.Proofs.Ytbnddpknejgmhaa
