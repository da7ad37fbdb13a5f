/- Layer 31: Fewest. -/
import Derived.Test.YtbnddpknejgmhaaMay
import Derived.Deep.AppendLies
import Derived.Deep.RegionLaw
namespace Go.Proofs.Ytbnddpknejgmhaa
open Go.RowKit
set_option maxRecDepth 100000

theorem growRun_le (rack : Int) (a : Ins) : ∀ (t : List Ins) (l : Ins) (U : List Hook), growRun rack a l U t ≤ t.length
  | [], _, _ => Nat.le_refl _
  | i :: t, l, U => by
    simp only [growRun]
    split
    · have := growRun_le rack a t i (growU a U i); simp; omega
    · simp
theorem lonF_le (rack : Int) (l : List Ins) : lonF rack l ≤ l.length := by
  cases l with
  | nil => exact Nat.le_refl _
  | cons i t => have := growRun_le rack i t i (hooks i).reverse; simp only [lonF, List.length_cons]; omega
theorem lonF_pos (rack : Int) {l : List Ins} (h : 0 < l.length) : 1 ≤ lonF rack l := by
  cases l with
  | nil => simp at h
  | cons i t => simp only [lonF]; omega
def ins0 : Ins := ⟨0, false, 0, 0, 0, 0, 0⟩
/-- The passes that are taken greedily. -/
def fewM : Nat → Int → List Ins → List Nat
  | 0, _, _ => []
  | f + 1, rack, l => if l.length = 0 then [] else lonF rack l :: fewM f (rackedI rack (l.getD (lonF rack l - 1) ins0)) (l.drop (lonF rack l))
theorem fewM_more : ∀ (f g : Nat) (rack : Int) (l : List Ins), l.length ≤ f → f ≤ g → fewM g rack l = fewM f rack l
  | 0, 0, _, _, _, _ => rfl
  | 0, g + 1, rack, l, h, _ => by simp only [fewM]; rw [if_pos (by omega)]
  | f + 1, 0, _, _, _, h => by omega
  | f + 1, g + 1, rack, l, h, hg => by
    simp only [fewM]
    split
    · rfl
    · next hn =>
      have := lonF_pos rack (l := l) (by omega)
      rw [fewM_more f g _ _ (by rw [List.length_drop]; omega) (by omega)]
def few (rack : Int) (l : List Ins) : List Nat := fewM l.length rack l
theorem few_nil {rack : Int} {l : List Ins} (h : l.length = 0) : few rack l = [] := by unfold few; rw [h]; rfl
theorem few_step {rack : Int} {l : List Ins} (h : 0 < l.length) : few rack l = lonF rack l :: few (rackedI rack (l.getD (lonF rack l - 1) ins0)) (l.drop (lonF rack l)) := by
  unfold few
  obtain ⟨n, hn⟩ : ∃ n, l.length = n + 1 := ⟨l.length - 1, by omega⟩
  have hp := lonF_pos rack h
  rw [hn]
  simp only [fewM]
  rw [if_neg (by omega), fewM_more _ n _ _ (Nat.le_refl _) (by rw [List.length_drop]; omega)]
def fewE (rack : Int) (l : List Ins) : List Nat := if lookE rack l = 0 then few rack l else []
def slen : Value → Nat | .slice _ n _ => n | _ => 0
def natV (l : List Nat) : List Value := l.map fun (n : Nat) => Value.int .i64 (n : Int)
theorem info_int : (Try.prog.info? 3).map (fun i => (i.zero, i.size, i.bytes)) = some (some (.int .i64 0), 1, 8) := by kernel_rfl

theorem drop_ex {w : World} {B : Nat} {A : Option Addr} {l : List Ins} (h : SlX w B A l) {n c : Nat} (hc : l.length ≤ c) (hn : n ≤ l.length) :
    ∃ A2, (∀ W : World, (Instr.slice 22 (.slice A l.length c) (some (.int .i64 (n : Int))) none none).run Try.prog W = .ok (.slice A2 (l.length - n) (c - n)) W) ∧ SlX w B A2 (l.drop n) :=
  ⟨_, run_drop A l.length c n hn, h.tail hc⟩
set_option maxHeartbeats 1000000 in
theorem fewest_any (rack : Int) (A : Option Addr) (c : Nat) (l : List Ins) (hw : ∀ i ∈ l, i.wf) (hn : l.length ≤ 4611686018427387904) (hlc : l.length ≤ c) (w : World) (hs : SlX w w.heap.size A l) :
    Calls Try.prog 14 #[.int .i64 rack, .slice A l.length c] w fun e w' =>
      ∃ v, e = .returned (.tuple #[v, .int .i64 (lookE rack l)]) ∧ w'.ownsRow w.heap.size 3 1 v (fewE rack l).length (natV (fewE rack l)) ∧ Below w.heap.size w w' := by
  have HK := Lib.hid (look_any rack A c l w hs hn)
  obtain ⟨i0, hi, hz0, hz1, hz2⟩ := info_parts info_int
  by_cases he : lookE rack l = 0
  case neg =>
    have HI : Hid (fewE rack l = []) := by unfold Hid fewE; rw [if_neg he]
    have hb : (lookE rack l == 0) = false := beq_eq_false_iff_ne.2 he
    generalize lookE rack l = x at HK hb ⊢
    clear he hs hw
    go_enter Try.func14, Try.ntmps14
    go_wp2_with (go_at_call 26; refine HK.out.mono ?_; rintro e w1 ⟨rfl, hb1⟩)
    go_ret2
    exact ⟨_, rfl, by rw [HI.out]; exact World.ownsRow_nil _ _ _ _, hb1⟩
  case pos =>
    have hz := look_zero he
    have hf := look_fit hw he
    have HI : Hid (fewE rack l = few rack l) := by unfold Hid fewE; rw [if_pos he]
    rw [he] at HK ⊢
    clear he hw
    go_enter Try.func14, Try.ntmps14
    go_wp2_with (go_at_call 26; refine HK.out.mono ?_; rintro e w1 ⟨rfl, hb1⟩)
    go_loopw [0, 1, 7] (fun s0 s1 s7 wr => ∃ r' A' c' l' acc, s0 = .int .i64 r' ∧ s1 = .slice A' l'.length c' ∧ wr.ownsRow w.heap.size 3 1 s7 acc.length (natV acc) ∧ acc.length + l'.length ≤ 2000 ∧ l'.length ≤ c' ∧ (-8 ≤ r' ∧ r' ≤ 8) ∧ (∀ i ∈ l', i.fit) ∧ SlX w w.heap.size A' l' ∧ Hid (fewE rack l = acc ++ few r' l') ∧ Below w.heap.size w wr) (fun _ s1 _ _ => slen s1)
    case atStart => exact ⟨rack, A, c, l, [], rfl, rfl, World.ownsRow_nil _ _ _ _, by simpa using hz.2.1, hlc, hz.1, hf, hs, HI, hb1⟩
    case round =>
      obtain ⟨r', A', c', l', acc, rfl, rfl, hown, hl', hlc', hr', hf', hs', HM, hbw⟩ := hrel
      by_cases hpos : 0 < l'.length
      · have HLn := Lib.hid (longest_any r' hr' A' c' l' hf' (by omega) wr ((hs'.below hbw).more hbw.size))
        have h1 := lonF_pos r' hpos
        have h2 := lonF_le r' l'
        have HS := Lib.hid (few_step (rack := r') hpos)
        generalize lonF r' l' = n at HLn h1 h2 HS
        obtain ⟨b', off', i, rfl, hB', hi', hci⟩ := hs'.at_ (k := n - 1) (by omega)
        obtain ⟨A2, hsd, hsd2⟩ := drop_ex hs' hlc' h2
        have HF : Hid (fewE rack l = (acc ++ [n]) ++ few (rackedI r' i) (l'.drop n)) := by
          unfold Hid; rw [HM.out, HS.out, List.getD, hi', List.append_assoc]; rfl
        have hfi := hf' i (List.mem_of_getElem? hi')
        have hfd : ∀ j ∈ l'.drop n, j.fit := fun j hj => hf' j (List.mem_of_mem_drop hj)
        have hci2 := Lib.hid (fun w2 (hb : Below w.heap.size w w2) => hci.below hb hB')
        have hw1 : IntKind.i64.wrap ((n : Int) - 1) = ((n - 1 : Nat) : Int) := by rw [IntWalk.i64_in _ (by omega)]; omega
        have HR := Lib.hid (racked_any r' i)
        have hdl : (l'.drop n).length = l'.length - n := List.length_drop
        have HH := Lib.hid (show _ ∧ _ ∧ _ ∧ _ from ⟨hfi, hfd, hsd2, hdl⟩)
        clear hs' hf' HM hci hfi hfd hsd2 hdl HS hs hf
        go_wp2_with (first
          | (go_at_call 27; refine HLn.out.mono ?_; rintro e w2 ⟨rfl, hb2⟩
             obtain ⟨c0, c1, c2, c3, c4, c5, c6⟩ := hci2.out w2 (hbw.trans (hb2.mono hbw.size)))
          | (go_at_call 30; refine (HR.out _).mono ?_; rintro e w3 ⟨rfl, hb3⟩
             have hbw3 := Lib.hid ((hbw.trans (hb2.mono hbw.size)).trans (hb3.mono (Nat.le_trans hbw.size hb2.size)))
             have hown3 := Lib.hid (own_below (own_below hown hb2 (Nat.le_refl _)) hb3 (Nat.le_refl _))))
        go_region_law ((refine step_append_lies _ (by rfl) _ _ _ (by rfl) w.heap.size 3 i0 (.int .i64 0) 1 8 Try.underlying23 hi hz0 hz1 hz2 rfl (by decide) _ _ _ (by rfl) (World.ownsRow.alloc hown3.out (.cells #[.int .i64 (n : Int)] 3)) ⟨w3.heap.size, 0, none⟩ 1 1 [.int .i64 (n : Int)] (by rfl) rfl (cell_one_new w3 _ _) (by simp [Value.oneCell']) (by decide) (by unfold maxLen; omega) (by omega) (by have := hbw3.out.size; simp; omega) (w3.heap.size + 1) (by simp) ?_; intro g cap w4 hown4 hgrow _ _; have hO4 := Lib.hid hown4; have hG4 := Lib.hid hgrow; clear hown4 hgrow))
        go_simp
        go_wp2
        go_roundw
        case rel =>
          refine ⟨_, A2, c' - n, l'.drop n, acc ++ [n], rfl, by rw [HH.out.2.2.2], ?_, by rw [HH.out.2.2.2, List.length_append]; simp; omega, by rw [HH.out.2.2.2]; omega, racked_rng HH.out.1 hr', HH.out.2.1, HH.out.2.2.1, HF, ?_⟩
          · rw [List.length_append, show natV (acc ++ [n]) = natV acc ++ [.int .i64 (n : Int)] by simp [natV]]; exact hO4.out
          · exact own_step (o := .cells #[.int .i64 (n : Int)] 3) hbw3.out hown3.out hbw3.out.size ⟨hG4.out.os, hG4.out.tape, hG4.out.output, hG4.out.size, hG4.out.block⟩
        case measure => simp [slen]; omega
      · have HF : Hid (fewE rack l = acc) := by unfold Hid; rw [HM.out, few_nil (by omega), List.append_nil]
        have h0 : l'.length = 0 := by omega
        clear hs' hf' HM hs hf
        go_wp2
        go_ret2
        exact ⟨_, rfl, by rw [HF.out]; exact hown, hbw⟩
end Go.Proofs.Ytbnddpknejgmhaa
