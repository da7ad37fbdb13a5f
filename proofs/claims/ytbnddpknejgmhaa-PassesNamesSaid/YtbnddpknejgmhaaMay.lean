/- Layer 31: May and Fewest. -/
import Derived.Test.YtbnddpknejgmhaaIs
namespace Go.Proofs.Ytbnddpknejgmhaa
open Go.RowKit
set_option maxRecDepth 100000

def mayB : Int → List Ins → List Int → Bool
  | _, l, [] => decide (l.length = 0)
  | rack, l, n :: ps => if n < 1 ∨ (l.length : Int) < n ∨ ((lonF rack (l.take n.toNat) : Nat) : Int) < n then false else mayB (rackedI rack (l.getD (n.toNat - 1) ⟨0, false, 0, 0, 0, 0, 0⟩)) (l.drop n.toNat) ps
def mayE (rack : Int) (l : List Ins) (ps : List Int) : Bool := decide (lookE rack l = 0) && mayB rack l ps
theorem racked_rng {rack : Int} {i : Ins} (hi : i.fit) (hr : -8 ≤ rack ∧ rack ≤ 8) : -8 ≤ rackedI rack i ∧ rackedI rack i ≤ 8 := by
  obtain ⟨_, _, _, _, _, _, _, h1, h2⟩ := hi
  unfold rackedI
  split <;> omega

theorem addr_lit (b off j : Nat) : (⟨b, off, none⟩ : Addr).add j = ⟨b, off + j, none⟩ := by unfold Addr.add; split <;> simp_all
set_option maxHeartbeats 1000000 in
theorem may_any (rack : Int) (A : Option Addr) (c : Nat) (l : List Ins) (hw : ∀ i ∈ l, i.wf) (hn : l.length ≤ 4611686018427387904) (hlc : l.length ≤ c) (Ap : Option Addr) (cp : Nat) (ps : List Int) (hps : ps.length ≤ 4611686018427387904) (w : World) (hs : SlX w w.heap.size A l) (hp : SlI w w.heap.size Ap ps) :
    Calls Try.prog 12 #[.int .i64 rack, .slice A l.length c, .slice Ap ps.length cp] w fun e w' => e = .returned (.tuple #[.bool (mayE rack l ps), .int .i64 (lookE rack l)]) ∧ Below w.heap.size w w' := by
  have HK := Lib.hid (look_any rack A c l w hs hn)
  by_cases he : lookE rack l = 0
  case neg =>
    have HI : Hid (mayE rack l ps = false) := by unfold Hid mayE; rw [decide_eq_false he, Bool.false_and]
    have hb : (lookE rack l == 0) = false := beq_eq_false_iff_ne.2 he
    generalize lookE rack l = x at HK hb ⊢
    clear he hs hw
    go_enter Try.func12, Try.ntmps12
    go_wp2_with (go_at_call 26; refine HK.out.mono ?_; rintro e w1 ⟨rfl, hb1⟩)
    go_ret2
    exact ⟨by rw [HI.out]; rfl, hb1⟩
  case pos =>
    have hz := look_zero he
    have hf := look_fit hw he
    have HI : Hid (mayE rack l ps = mayB rack l ps) := by unfold Hid mayE; rw [decide_eq_true he, Bool.true_and]
    rw [he] at HK ⊢
    clear he hw
    go_enter Try.func12, Try.ntmps12
    go_wp2_with (go_at_call 26; refine HK.out.mono ?_; rintro e w1 ⟨rfl, hb1⟩)
    go_loopw [0, 1, 19] (fun s0 s1 s19 wr => ∃ k : Nat, k ≤ ps.length ∧ s19 = .int .i64 k ∧ (∃ r' A' c' l', s0 = .int .i64 r' ∧ s1 = .slice A' l'.length c' ∧ l'.length ≤ c' ∧ (-8 ≤ r' ∧ r' ≤ 8) ∧ l'.length ≤ 2000 ∧ (∀ i ∈ l', i.fit) ∧ SlX w w.heap.size A' l' ∧ Hid (mayE rack l ps = mayB r' l' (ps.drop k))) ∧ Below w.heap.size w wr) (fun _ _ s19 _ => ps.length - (intOf s19).toNat)
    case atStart => exact ⟨0, Nat.zero_le _, rfl, ⟨rack, A, c, l, rfl, rfl, hlc, hz.1, hz.2.1, hf, hs, HI⟩, hb1⟩
    case round =>
      obtain ⟨k, hk, rfl, ⟨r', A', c', l', rfl, rfl, hlc', hr', hl', hf', hs', HM⟩, hbw⟩ := hrel
      by_cases hlt : k < ps.length
      · obtain ⟨b, off, z, rfl, hB, hz', hcz⟩ := hp.at_ hlt
        have hcn := (bcell hbw hB _).trans hcz
        have HMz : Hid (mayE rack l ps = mayB r' l' (z :: ps.drop (k + 1))) := by unfold Hid; rw [HM.out, drop_at hz']
        clear hcz HM hs hf hz' hp
        by_cases hz1 : z < 1
        · have HF : Hid (mayE rack l ps = false) := by unfold Hid; rw [HMz.out]; simp only [mayB]; rw [if_pos (Or.inl hz1)]
          clear hs' hf' HMz
          go_wp2
          go_ret2
          exact ⟨by rw [HF.out]; rfl, hbw⟩
        by_cases hz2 : (l'.length : Int) < z
        · have HF : Hid (mayE rack l ps = false) := by unfold Hid; rw [HMz.out]; simp only [mayB]; rw [if_pos (Or.inr (Or.inl hz2))]
          clear hs' hf' HMz
          go_wp2
          go_ret2
          exact ⟨by rw [HF.out]; rfl, hbw⟩
        obtain ⟨n, rfl⟩ := Int.eq_ofNat_of_zero_le (show 0 ≤ z by omega)
        have hn1 : 1 ≤ n := by omega
        have hn2 : n ≤ l'.length := by omega
        have hsl := run_take A' l'.length c' n (by omega)
        have hsd := run_drop A' l'.length c' n hn2
        have htl : (l'.take n).length = n := by rw [List.length_take]; omega
        have HLn := Lib.hid (longest_any r' hr' A' c' (l'.take n) (fun i hi => hf' i (List.mem_of_mem_take hi)) (by omega) wr (((SlX.take hs' n).below hbw).more hbw.size))
        rw [htl] at HLn
        generalize hy : lonF r' (l'.take n) = y at HLn
        by_cases hyn : y < n
        · have HF : Hid (mayE rack l ps = false) := by unfold Hid; rw [HMz.out]; simp only [mayB, Int.toNat_natCast]; rw [hy, if_pos (Or.inr (Or.inr (by omega)))]
          clear hs' hf' HMz hy
          go_wp2_with (go_at_call 27; refine HLn.out.mono ?_; rintro e w2 ⟨rfl, hb2⟩)
          go_ret2
          exact ⟨by rw [HF.out]; rfl, hbw.trans (hb2.mono hbw.size)⟩
        · obtain ⟨b', off', i, rfl, hB', hi, hci⟩ := hs'.at_ (k := n - 1) (by omega)
          have HF : Hid (mayE rack l ps = mayB (rackedI r' i) (l'.drop n) (ps.drop (k + 1))) := by
            unfold Hid; rw [HMz.out]; simp only [mayB, Int.toNat_natCast]
            rw [hy, if_neg (by omega), List.getD, hi]; rfl
          have hfi := hf' i (List.mem_of_getElem? hi)
          have hfd : ∀ j ∈ l'.drop n, j.fit := fun j hj => hf' j (List.mem_of_mem_drop hj)
          have hsd2 := hs'.tail (n := n) hlc'
          simp only [Option.map_some, addr_lit] at hsd hsd2
          have hci2 := Lib.hid (fun w2 (hb : Below w.heap.size w w2) => hci.below hb hB')
          have hw1 : IntKind.i64.wrap ((n : Int) - 1) = ((n - 1 : Nat) : Int) := by rw [IntWalk.i64_in _ (by omega)]; omega
          have HR := Lib.hid (racked_any r' i)
          have hdl : (l'.drop n).length = l'.length - n := List.length_drop
          have HH := Lib.hid (show _ ∧ _ ∧ _ ∧ _ from ⟨hfi, hfd, hsd2, hdl⟩)
          clear hs' hf' HMz hy hci hfi hfd hsd2 hdl
          go_wp2_with (first
            | (go_at_call 27; refine HLn.out.mono ?_; rintro e w2 ⟨rfl, hb2⟩
               obtain ⟨c0, c1, c2, c3, c4, c5, c6⟩ := hci2.out w2 (hbw.trans (hb2.mono hbw.size)))
            | (go_at_call 30; refine (HR.out _).mono ?_; rintro e w3 ⟨rfl, hb3⟩))
          go_roundw
          case rel => exact ⟨k + 1, by omega, by go_num, ⟨_, _, c' - n, l'.drop n, rfl, by rw [HH.out.2.2.2], by rw [HH.out.2.2.2]; omega, racked_rng HH.out.1 hr', by rw [HH.out.2.2.2]; omega, HH.out.2.1, HH.out.2.2.1, HF⟩, (hbw.trans (hb2.mono hbw.size)).trans (hb3.mono (Nat.le_trans hbw.size hb2.size))⟩
          case measure => simp [intOf]; omega
      · obtain rfl : k = ps.length := by omega
        have HF : Hid (mayE rack l ps = decide (l'.length = 0)) := by unfold Hid; rw [HM.out, List.drop_length]; rfl
        clear hs hf hs' hf' HM hlt
        go_wp2
        go_ret2
        refine ⟨?_, hbw⟩
        rw [HF.out]
        cases l' with
        | nil => rfl
        | cons a t => simp; omega
end Go.Proofs.Ytbnddpknejgmhaa
