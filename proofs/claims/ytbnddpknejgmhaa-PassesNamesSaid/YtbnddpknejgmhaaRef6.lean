/- Layer 31, the reference: Is, May, Fewest. -/
import Derived.Test.YtbnddpknejgmhaaRef5
import Derived.Test.YtbnddpknejgmhaaPlain
import Derived.Deep.AppendLies
import Derived.Deep.RegionLaw
namespace Go.Proofs.Ytbnddpknejgmhaa
open Go.RowKit
set_option maxRecDepth 100000

set_option maxHeartbeats 1000000 in
theorem ris_any (rack : Int) (A : Option Addr) (c : Nat) (l : List Ins) (hw : ∀ i ∈ l, i.wf) (hn : l.length ≤ 4611686018427387904) (w : World) (hs : SlX w w.heap.size A l) :
    Calls Try.prog 11 #[.int .i64 rack, .slice A l.length c] w fun e w' => e = .returned (.tuple #[.bool (isB rack l), .int .i64 (lookE rack l)]) ∧ Below w.heap.size w w' := by
  have HK := Lib.hid (rlook_any rack A c l w hs)
  have HK2 := Lib.hid (fun w1 (hb1 : Below w.heap.size w w1) => rlook_any rack A c l w1 ((hs.below hb1).more hb1.size))
  by_cases he : lookE rack l = 0
  case neg =>
    have HI : Hid (isB rack l = false) := by unfold Hid isB; rw [decide_eq_false he, Bool.false_and]
    have hb : (lookE rack l == 0) = false := beq_eq_false_iff_ne.2 he
    generalize lookE rack l = x at HK HK2 hb ⊢
    clear he hs hw
    go_enter Try.func11, Try.ntmps11
    go_wp2_with (go_at_call 28; first
      | (refine (HK2.out _ (by assumption)).mono ?_; rintro e w2 ⟨rfl, hb2⟩)
      | (refine HK.out.mono ?_; rintro e w1 ⟨rfl, hb1⟩))
    go_ret2
    exact ⟨by rw [HI.out]; rfl, hb1.trans (hb2.mono hb1.size)⟩
  case pos =>
    have hz := look_zero he
    have HP := Lib.hid (fun w1 (hb1 : Below w.heap.size w w1) => rpass_any rack hz.1 A c l (look_fit hw he) hn w1 ((hs.below hb1).more hb1.size))
    have HI : Hid (isB rack l = passR rack l) := by unfold Hid isB; rw [decide_eq_true he, Bool.true_and, pass_lon (look_fit hw he)]
    rw [he] at HK ⊢
    clear he hz hs hw HK2
    generalize passR rack l = q at HP HI
    go_enter Try.func11, Try.ntmps11
    go_wp2_with (first
      | (go_at_call 28; refine HK.out.mono ?_; rintro e w1 ⟨rfl, hb1⟩)
      | (go_at_call 29; refine (HP.out w1 hb1).mono ?_; rintro e w2 ⟨rfl, hb2⟩))
    go_ret2
    exact ⟨by rw [HI.out]; rfl, hb1.trans (hb2.mono hb1.size)⟩

theorem mid_ex {w : World} {B : Nat} {A : Option Addr} {l : List Ins} (h : SlX w B A l) {n k c : Nat} (hc : l.length ≤ c) (hm : n + k ≤ l.length) :
    ∃ A2, (∀ (W : World) (z : Int), z = ((n + k : Nat) : Int) → (Instr.slice 22 (.slice A l.length c) (some (.int .i64 (n : Int))) (some (.int .i64 z)) none).run Try.prog W = .ok (.slice A2 k (c - n)) W) ∧ SlX w B A2 ((l.drop n).take k) ∧ ((l.drop n).take k).length = k :=
  ⟨_, fun W z hz => by subst hz; have := run_mid A l.length c n (n + k) (by omega) (by omega) W; rwa [show n + k - n = k by omega] at this, (h.tail hc).take _, by rw [List.length_take, List.length_drop]; omega⟩

set_option maxHeartbeats 1000000 in
theorem rmay_any (rack : Int) (A : Option Addr) (c : Nat) (l : List Ins) (hw : ∀ i ∈ l, i.wf) (hn : l.length ≤ 4611686018427387904) (hlc : l.length ≤ c) (Ap : Option Addr) (cp : Nat) (ps : List Int) (hps : ps.length ≤ 4611686018427387904) (w : World) (hs : SlX w w.heap.size A l) (hp : SlI w w.heap.size Ap ps) :
    Calls Try.prog 13 #[.int .i64 rack, .slice A l.length c, .slice Ap ps.length cp] w fun e w' => e = .returned (.tuple #[.bool (mayE rack l ps), .int .i64 (lookE rack l)]) ∧ Below w.heap.size w w' := by
  have HK := Lib.hid (rlook_any rack A c l w hs)
  have HK2 := Lib.hid (fun w1 (hb1 : Below w.heap.size w w1) => rlook_any rack A c l w1 ((hs.below hb1).more hb1.size))
  by_cases he : lookE rack l = 0
  case neg =>
    have HI : Hid (mayE rack l ps = false) := by unfold Hid mayE; rw [decide_eq_false he, Bool.false_and]
    have hb : (lookE rack l == 0) = false := beq_eq_false_iff_ne.2 he
    generalize lookE rack l = x at HK HK2 hb ⊢
    clear he hs hw
    go_enter Try.func13, Try.ntmps13
    go_wp2_with (go_at_call 28; first
      | (refine (HK2.out _ (by assumption)).mono ?_; rintro e w2 ⟨rfl, hb2⟩)
      | (refine HK.out.mono ?_; rintro e w1 ⟨rfl, hb1⟩))
    go_ret2
    exact ⟨by rw [HI.out]; rfl, hb1.trans (hb2.mono hb1.size)⟩
  case pos =>
    have hz := look_zero he
    have hf := look_fit hw he
    have HI : Hid (mayE rack l ps = mayB rack l ps) := by unfold Hid mayE; rw [decide_eq_true he, Bool.true_and]
    rw [he] at HK ⊢
    clear he hw HK2
    go_enter Try.func13, Try.ntmps13
    go_wp2_with (go_at_call 28; refine HK.out.mono ?_; rintro e w1 ⟨rfl, hb1⟩)
    go_loopw [0, 8, 9] (fun s0 s8 s9 wr => ∃ (k at_ : Nat) (r' : Int), k ≤ ps.length ∧ s9 = .int .i64 k ∧ s8 = .int .i64 at_ ∧ s0 = .int .i64 r' ∧ at_ ≤ l.length ∧ (-8 ≤ r' ∧ r' ≤ 8) ∧ Hid (mayE rack l ps = mayB r' (l.drop at_) (ps.drop k)) ∧ Below w.heap.size w wr) (fun _ _ s9 _ => ps.length - (intOf s9).toNat)
    case atStart => exact ⟨0, 0, rack, Nat.zero_le _, rfl, rfl, rfl, Nat.zero_le _, hz.1, HI, hb1⟩
    case round =>
      obtain ⟨k, at_, r', hk, rfl, rfl, rfl, hat, hr', HM, hbw⟩ := hrel
      have hl2 := hz.2.1
      have hdl : (l.drop at_).length = l.length - at_ := List.length_drop
      by_cases hlt : k < ps.length
      · obtain ⟨b, off, z, rfl, hB, hz', hcz⟩ := hp.at_ hlt
        have hcn := (bcell hbw hB _).trans hcz
        have HCN := Lib.hid (fun w2 (hb : Below w.heap.size w w2) => (bcell hb hB _).trans hcz)
        have HMz : Hid (mayE rack l ps = mayB r' (l.drop at_) (z :: ps.drop (k + 1))) := by unfold Hid; rw [HM.out, drop_at hz']
        have hwsub : IntKind.i64.wrap ((l.length : Int) - at_) = ((l.length - at_ : Nat) : Int) := by rw [IntWalk.i64_in _ (by omega)]; omega
        clear hcz HM hz' hp
        by_cases hz1 : z < 1
        · have HF : Hid (mayE rack l ps = false) := by unfold Hid; rw [HMz.out]; simp only [mayB]; rw [if_pos (Or.inl hz1)]
          clear hs hf HMz hdl
          go_wp2
          go_ret2
          exact ⟨by rw [HF.out]; rfl, hbw⟩
        by_cases hz2 : ((l.length - at_ : Nat) : Int) < z
        · have HF : Hid (mayE rack l ps = false) := by unfold Hid; rw [HMz.out]; simp only [mayB]; rw [if_pos (Or.inr (Or.inl (by rw [hdl]; exact hz2)))]
          clear hs hf HMz hdl
          go_wp2
          go_ret2
          exact ⟨by rw [HF.out]; rfl, hbw⟩
        obtain ⟨n, rfl⟩ := Int.eq_ofNat_of_zero_le (show 0 ≤ z by omega)
        have hn1 : 1 ≤ n := by omega
        have hn2 : n ≤ l.length - at_ := by omega
        obtain ⟨A2, hrun', hsl, hlen⟩ := mid_ex hs (n := at_) (k := n) hlc (by omega)
        have hrun := fun W => hrun' W ((at_ : Int) + (n : Int)) (by omega)
        clear hrun'
        have hfd : ∀ j ∈ l.drop at_, j.fit := fun j hj => hf j (List.mem_of_mem_drop hj)
        have hft : ∀ j ∈ (l.drop at_).take n, j.fit := fun j hj => hfd j (List.mem_of_mem_take hj)
        have HP := Lib.hid (fun w1 (hb1 : Below w.heap.size w w1) => rpass_any r' hr' A2 (c - at_) ((l.drop at_).take n) hft (by omega) w1 ((hsl.below hb1).more hb1.size))
        have HAf := Lib.hid (fun w1 (hb1 : Below w.heap.size w w1) => after_any r' A2 (c - at_) ((l.drop at_).take n) (by omega) w1 ((hsl.below hb1).more hb1.size))
        rw [hlen] at HP HAf
        have HPT : Hid (passR r' ((l.drop at_).take n) = decide (n ≤ lonF r' ((l.drop at_).take n))) := by
          have := pass_take (rack := r') hft (m := n) hn1 (by omega)
          rw [List.take_of_length_le (by omega)] at this
          exact this
        have HPD := Lib.hid (pass_take (rack := r') hfd (m := n) hn1 (by omega))
        by_cases hyn : lonF r' ((l.drop at_).take n) < n
        · have HF : Hid (mayE rack l ps = false) := by unfold Hid; rw [HMz.out]; simp only [mayB, Int.toNat_natCast]; rw [if_pos (Or.inr (Or.inr (by omega)))]
          have hpf : passR r' ((l.drop at_).take n) = false := by rw [HPT.out, decide_eq_false (by omega)]
          rw [hpf] at HP
          clear hs hf HMz hyn hpf HPT HPD hsl hlen hfd hft HAf hdl hwsub
          have hwsub : IntKind.i64.wrap ((l.length : Int) - at_) = ((l.length - at_ : Nat) : Int) := by rw [IntWalk.i64_in _ (by omega)]; omega
          go_wp2_with (go_at_call 29; refine (HP.out _ hbw).mono ?_; rintro e w2 ⟨rfl, hb2⟩)
          go_ret2
          exact ⟨by rw [HF.out]; rfl, hbw.trans (hb2.mono hbw.size)⟩
        · have hpt : passR r' ((l.drop at_).take n) = true := by rw [HPT.out, decide_eq_true (by omega)]
          have hlon : n ≤ lonF r' (l.drop at_) := by have := HPD.out; rw [hpt] at this; exact of_decide_eq_true this.symm
          have haf := after_pass (rack := r') hfd hn1 hlon
          have hfi : ((l.drop at_).getD (n - 1) ins0).fit := by rw [getD_elem _ (by omega)]; exact hfd _ (List.getElem_mem _)
          have HR := Lib.hid (racked_rng hfi hr')
          rw [hpt] at HP
          rw [haf] at HAf
          have HF : Hid (mayE rack l ps = mayB (rackedI r' ((l.drop at_).getD (n - 1) ins0)) (l.drop (at_ + n)) (ps.drop (k + 1))) := by
            unfold Hid; rw [HMz.out]; simp only [mayB, Int.toNat_natCast]
            rw [if_neg (by omega), List.drop_drop]; rfl
          generalize rackedI r' ((l.drop at_).getD (n - 1) ins0) = r2 at HR HAf HF
          clear hs hf HMz hyn hpt hlon haf hfi HPT HPD hsl hlen hfd hft hdl
          go_wp2_with (first
            | (go_at_call 29; refine (HP.out _ hbw).mono ?_; rintro e w2 ⟨rfl, hb2⟩
               have hb3 := hbw.trans (hb2.mono hbw.size)
               have hcn2 := HCN.out _ hb3)
            | (go_at_call 31; refine (HAf.out _ hb3).mono ?_; rintro e w3 ⟨rfl, rfl⟩))
          go_roundw
          case rel => exact ⟨k + 1, at_ + n, r2, by omega, by go_num, by go_num, rfl, by omega, HR.out, HF, hb3⟩
          case measure => simp [intOf]; omega
      · obtain rfl : k = ps.length := by omega
        have HF : Hid (mayE rack l ps = decide (l.length - at_ = 0)) := by unfold Hid; rw [HM.out, List.drop_length, ← hdl]; rfl
        clear hs hf HM hlt hdl
        by_cases e : at_ = l.length
        · subst e
          have HF2 : Hid (mayE rack l ps = true) := by unfold Hid; rw [HF.out]; simp
          go_wp2
          go_ret2
          exact ⟨by rw [HF2.out]; rfl, hbw⟩
        · have HF2 : Hid (mayE rack l ps = false) := by unfold Hid; rw [HF.out]; simp; omega
          have eb : ((at_ : Int) == (l.length : Int)) = false := beq_eq_false_iff_ne.2 (by omega)
          go_wp2
          go_ret2
          exact ⟨by rw [HF2.out]; rfl, hbw⟩

set_option maxHeartbeats 1000000 in
theorem rfewest_any (rack : Int) (A : Option Addr) (c : Nat) (l : List Ins) (hw : ∀ i ∈ l, i.wf) (hn : l.length ≤ 4611686018427387904) (hlc : l.length ≤ c) (w : World) (hs : SlX w w.heap.size A l) :
    Calls Try.prog 15 #[.int .i64 rack, .slice A l.length c] w fun e w' =>
      ∃ v, e = .returned (.tuple #[v, .int .i64 (lookE rack l)]) ∧ w'.ownsRow w.heap.size 3 1 v (fewE rack l).length (natV (fewE rack l)) ∧ Below w.heap.size w w' := by
  have HK := Lib.hid (rlook_any rack A c l w hs)
  have HK2 := Lib.hid (fun w1 (hb1 : Below w.heap.size w w1) => rlook_any rack A c l w1 ((hs.below hb1).more hb1.size))
  obtain ⟨i0, hi, hz0, hz1, hz2⟩ := info_parts info_int
  by_cases he : lookE rack l = 0
  case neg =>
    have HI : Hid (fewE rack l = []) := by unfold Hid fewE; rw [if_neg he]
    have hb : (lookE rack l == 0) = false := beq_eq_false_iff_ne.2 he
    generalize lookE rack l = x at HK HK2 hb ⊢
    clear he hs hw
    go_enter Try.func15, Try.ntmps15
    go_wp2_with (go_at_call 28; first
      | (refine (HK2.out _ (by assumption)).mono ?_; rintro e w2 ⟨rfl, hb2⟩)
      | (refine HK.out.mono ?_; rintro e w1 ⟨rfl, hb1⟩))
    go_ret2
    exact ⟨_, rfl, by rw [HI.out]; exact World.ownsRow_nil _ _ _ _, hb1.trans (hb2.mono hb1.size)⟩
  case pos =>
    have hz := look_zero he
    have hf := look_fit hw he
    have HI : Hid (fewE rack l = few rack l) := by unfold Hid fewE; rw [if_pos he]
    rw [he] at HK ⊢
    clear he hw HK2
    go_enter Try.func15, Try.ntmps15
    go_wp2_with (go_at_call 28; refine HK.out.mono ?_; rintro e w1 ⟨rfl, hb1⟩)
    have hl2 := hz.2.1
    go_loopw [0, 6, 7] (fun s0 s6 s7 wr => ∃ (r' : Int) (at_ : Nat) (acc : List Nat), s0 = .int .i64 r' ∧ s7 = .int .i64 at_ ∧ wr.ownsRow w.heap.size 3 1 s6 acc.length (natV acc) ∧ acc.length ≤ at_ ∧ at_ ≤ l.length ∧ (-8 ≤ r' ∧ r' ≤ 8) ∧ Hid (fewE rack l = acc ++ few r' (l.drop at_)) ∧ Below w.heap.size w wr) (fun _ _ s7 _ => l.length - (intOf s7).toNat)
    case atStart => exact ⟨rack, 0, [], rfl, rfl, World.ownsRow_nil _ _ _ _, Nat.zero_le _, Nat.zero_le _, hz.1, HI, hb1⟩
    case round =>
      obtain ⟨r', at_, acc, rfl, rfl, hown, hacc, hat, hr', HM, hbw⟩ := hrel
      clear hb1
      have hdl : (l.drop at_).length = l.length - at_ := List.length_drop
      by_cases hpos : at_ < l.length
      · have h1 := lonF_pos r' (l := l.drop at_) (by omega)
        have h2 := lonF_le r' (l.drop at_)
        rw [hdl] at h2
        have HS := few_step (rack := r') (l := l.drop at_) (by omega)
        have hfd : ∀ j ∈ l.drop at_, j.fit := fun j hj => hf j (List.mem_of_mem_drop hj)
        have haf := after_pass (rack := r') hfd h1 (Nat.le_refl _)
        have hfi : ((l.drop at_).getD (lonF r' (l.drop at_) - 1) ins0).fit := by rw [getD_elem _ (by omega)]; exact hfd _ (List.getElem_mem _)
        have HR := Lib.hid (racked_rng hfi hr')
        have HPT := Lib.hid (fun m (h1 : 1 ≤ m) (hm : m ≤ l.length - at_) => pass_take (rack := r') hfd h1 (m := m) (by omega))
        generalize lonF r' (l.drop at_) = N at h1 h2 HS haf HPT HR hfi
        generalize rackedI r' ((l.drop at_).getD (N - 1) ins0) = r2 at HS haf HR
        have HF : Hid (fewE rack l = (acc ++ [N]) ++ few r2 (l.drop (at_ + N))) := by
          unfold Hid; rw [HM.out, HS, List.drop_drop, List.append_assoc]; rfl
        have HPm : Hid (∀ m, 1 ≤ m → m ≤ l.length - at_ → ∃ A2, (∀ (W : World) (z : Int), z = ((at_ + m : Nat) : Int) → (Instr.slice 22 (.slice A l.length c) (some (.int .i64 (at_ : Int))) (some (.int .i64 z)) none).run Try.prog W = .ok (.slice A2 m (c - at_)) W) ∧
            (∀ w1, Below w.heap.size w w1 → Calls Try.prog 29 #[.int .i64 r', .slice A2 m (c - at_)] w1 fun e w' => RetB (decide (m ≤ N)) w1 e w') ∧
            (∀ w1, Below w.heap.size w w1 → Calls Try.prog 31 #[.int .i64 r', .slice A2 m (c - at_)] w1 fun e w' => e = .returned (.int .i64 (afterI r' ((l.drop at_).take m))) ∧ w1 = w')) := by
          intro m hm1 hm2
          obtain ⟨A2, hrun, hsl, hlen⟩ := mid_ex hs (n := at_) (k := m) hlc (by omega)
          refine ⟨A2, hrun, fun w1 hb1 => ?_, fun w1 hb1 => ?_⟩
          · have := rpass_any r' hr' A2 (c - at_) ((l.drop at_).take m) (fun j hj => hfd j (List.mem_of_mem_take hj)) (by omega) w1 ((hsl.below hb1).more hb1.size)
            rw [hlen, HPT.out m hm1 hm2] at this
            exact this
          · have := after_any r' A2 (c - at_) ((l.drop at_).take m) (by omega) w1 ((hsl.below hb1).more hb1.size)
            rw [hlen] at this
            exact this
        have HOwn := Lib.hid hown
        clear hs hf HM HS HPT hfd hfi hdl hown
        go_wp2
        go_loopw [8] (fun s8 wr2 => ∃ n : Nat, s8 = .int .i64 n ∧ 1 ≤ n ∧ n ≤ N ∧ Below wr.heap.size wr wr2) (fun s8 _ => l.length - (intOf s8).toNat)
        case atStart => exact ⟨1, rfl, Nat.le_refl _, h1, Below.refl _ _⟩
        case round =>
          obtain ⟨n, rfl, hn1, hn2, hbi⟩ := hrel
          have hbw2 := hbw.trans (hbi.mono hbw.size)
          by_cases hmore : at_ + n < l.length
          · obtain ⟨A2, hrun', hcp, -⟩ := HPm.out (n + 1) (by omega) (by omega)
            have hrun := fun W => hrun' W ((at_ : Int) + (n : Int) + 1) (by omega)
            clear hrun'
            have HCP := Lib.hid hcp
            clear hcp
            by_cases hN : n + 1 ≤ N
            · rw [decide_eq_true hN] at HCP
              go_wp2_with (go_at_call 29; refine (HCP.out _ hbw2).mono ?_; rintro e w2 ⟨rfl, hb2⟩)
              go_roundw
              case rel => exact ⟨n + 1, by go_num, by omega, hN, hbi.trans (hb2.mono hbi.size)⟩
              case measure => simp [intOf]; omega
            · obtain rfl : n = N := by omega
              obtain ⟨A3, hrun3', -, haft⟩ := HPm.out n hn1 h2
              have hrun3 := fun W => hrun3' W ((at_ : Int) + (n : Int)) (by omega)
              clear hrun3'
              have HAF := Lib.hid haft
              rw [haf] at HAF
              clear haft
              rw [decide_eq_false hN] at HCP
              clear HPm
              go_wp2_with (first
                | (go_at_call 29; refine (HCP.out _ hbw2).mono ?_; rintro e w2 ⟨rfl, hb2⟩; have hbi3 := hbi.trans (hb2.mono hbi.size); have hbw3 := hbw.trans (hbi3.mono hbw.size); have hown3 := own_below HOwn.out hbi3 (Nat.le_refl _))
                | (go_at_call 31; refine (HAF.out _ hbw3).mono ?_; rintro e w3 ⟨rfl, rfl⟩)
                | (at_builtin; refine wpList_append_own _ rfl _ _ 23 rfl w.heap.size 3 i0 (.int .i64 0) 1 8 Try.underlying23 hi hz0 hz1 hz2 rfl (by decide) _ _ _ rfl (hown3.alloc _) ⟨_, 0, none⟩ 1 1 [.int .i64 (n : Int)] rfl rfl (cell_one_new _ _ _) (by simp [Value.oneCell']) (by unfold maxLen; omega) (by omega) (by have := hbw3.size; simp; omega) ?_; intro v' w4 hown4 hgrow _; have hbw5 := own_step hbw3 hown3 hbw3.size hgrow; clear hgrow hown3))
              go_roundw
              case rel => exact ⟨r2, at_ + n, acc ++ [n], rfl, by go_num, by rw [List.length_append, show natV (acc ++ [n]) = natV acc ++ [.int .i64 (n : Int)] by simp [natV]]; exact hown4, by rw [List.length_append]; simp; omega, by omega, HR.out, HF, hbw5⟩
              case measure => simp [intOf]; omega
          · obtain rfl : n = N := by omega
            obtain ⟨A3, hrun3', -, haft⟩ := HPm.out n hn1 h2
            have hrun3 := fun W => hrun3' W ((at_ : Int) + (n : Int)) (by omega)
            clear hrun3'
            have HAF := Lib.hid haft
            rw [haf] at HAF
            clear haft
            have hbi3 := hbi
            have hbw3 := hbw.trans (hbi3.mono hbw.size)
            have hown3 := own_below HOwn.out hbi3 (Nat.le_refl _)
            clear HPm
            go_wp2_with (first
              | (go_at_call 31; refine (HAF.out _ hbw3).mono ?_; rintro e w3 ⟨rfl, rfl⟩)
              | (at_builtin; refine wpList_append_own _ rfl _ _ 23 rfl w.heap.size 3 i0 (.int .i64 0) 1 8 Try.underlying23 hi hz0 hz1 hz2 rfl (by decide) _ _ _ rfl (hown3.alloc _) ⟨_, 0, none⟩ 1 1 [.int .i64 (n : Int)] rfl rfl (cell_one_new _ _ _) (by simp [Value.oneCell']) (by unfold maxLen; omega) (by omega) (by have := hbw3.size; simp; omega) ?_; intro v' w4 hown4 hgrow _; have hbw5 := own_step hbw3 hown3 hbw3.size hgrow; clear hgrow hown3))
            go_roundw
            case rel => exact ⟨r2, at_ + n, acc ++ [n], rfl, by go_num, by rw [List.length_append, show natV (acc ++ [n]) = natV acc ++ [.int .i64 (n : Int)] by simp [natV]]; exact hown4, by rw [List.length_append]; simp; omega, by omega, HR.out, HF, hbw5⟩
            case measure => simp [intOf]; omega
      · have HF : Hid (fewE rack l = acc) := by unfold Hid; rw [HM.out, few_nil (by omega), List.append_nil]
        clear hs hf HM
        go_wp2
        go_ret2
        exact ⟨_, rfl, by rw [HF.out]; exact hown, hbw⟩
end Go.Proofs.Ytbnddpknejgmhaa
