/- Layer 31: the law PassesParts walked. -/
import Derived.Test.YtbnddpknejgmhaaBestW
namespace Go.Proofs.Ytbnddpknejgmhaa
open Go.RowKit Go.Shelf
set_option maxRecDepth 100000

theorem look_zero_mk {rack : Int} {l : List Ins} (hr : -8 ≤ rack ∧ rack ≤ 8) (hl : l.length ≤ 2000) (hg : ∀ i ∈ l, i.good) : lookE rack l = 0 := by
  unfold lookE
  rw [if_neg (by omega), if_neg (by omega), lookB_none (fun j y _ hy => by
    unfold Ins.err; rw [if_pos (hg y (List.mem_of_getElem? hy))])]
  rfl
theorem look_mid {rack r : Int} {l : List Ins} (h : lookE rack l = 0) (hr : -8 ≤ r ∧ r ≤ 8) (a b : Nat) : lookE r ((l.drop a).take b) = 0 := by
  have hz := look_zero h
  refine look_zero_mk hr (by rw [List.length_take, List.length_drop]; omega) fun i hi => hz.2.2 i (List.mem_of_mem_drop (List.mem_of_mem_take hi))
theorem is_mid {rack : Int} {l : List Ins} (h : lookE rack l = 0) (hf : ∀ i ∈ l, i.fit) {a b : Nat} (hb : 1 ≤ b) (hab : a + b ≤ l.length) (hi : isB rack l = true) : isB rack ((l.drop a).take b) = true := by
  unfold isB at hi ⊢
  rw [Bool.and_eq_true, Bool.and_eq_true] at hi
  have hlon := of_decide_eq_true hi.2.2
  have hl : ((l.drop a).take b).length = b := by rw [List.length_take, List.length_drop]; omega
  rw [decide_eq_true (look_mid h (look_zero h).1 a b), hl, decide_eq_true (show 0 < b by omega), Bool.true_and, Bool.true_and]
  have hfd := fit_drop hf a
  have hd : b ≤ lonF rack (l.drop a) := by
    rcases Nat.eq_zero_or_pos a with e | e
    · rw [e, List.drop_zero, hlon]; omega
    · have := sub_pass (rack := rack) hf (n := l.length) (d := a) (Nat.le_of_eq hlon.symm) e (by omega)
      omega
  have hlt := lon_take (rack := rack) hfd (n := b) hb (by rw [List.length_drop]; omega)
  have h2 := lonF_le rack ((l.drop a).take b)
  rw [hl] at h2
  rw [decide_eq_true_iff]
  rcases Nat.lt_or_ge (lonF rack ((l.drop a).take b)) b with h | h
  · have := hlt.1 h; omega
  · omega
/-- A greedy pass is one; with one more it is none. -/
theorem is_greedy {rack r : Int} {l : List Ins} (h : lookE rack l = 0) (hf : ∀ i ∈ l, i.fit) (hr : -8 ≤ r ∧ r ≤ 8) {a b : Nat} (hb : 1 ≤ b) (hab : a + b ≤ l.length) : isB r ((l.drop a).take b) = decide (b ≤ lonF r (l.drop a)) := by
  unfold isB
  have hl : ((l.drop a).take b).length = b := by rw [List.length_take, List.length_drop]; omega
  rw [decide_eq_true (look_mid h hr a b), hl, decide_eq_true (show 0 < b by omega), Bool.true_and, Bool.true_and, decide_eq_decide]
  have := lon_take (rack := r) (fit_drop hf a) (n := b) hb (by rw [List.length_drop]; omega)
  have h2 := lonF_le r ((l.drop a).take b)
  omega

set_option maxHeartbeats 4000000 in
theorem parts_walk (rack : Int) (A : Option Addr) (c : Nat) (l : List Ins) (hw : ∀ i ∈ l, i.wf) (hlc : l.length ≤ c) (from_ to_ : Int) (w : World) (hs : SlX w w.heap.size A l) :
    Calls Try.prog 6 #[.int .i64 rack, .slice A l.length c, .int .i64 from_, .int .i64 to_] w fun e w' => e = .returned (.bool true) ∧ Below w.heap.size w w' := by
  have HAl := Lib.hid (alive_any w)
  by_cases h300 : 300 < l.length
  · clear hs hw
    go_enter Try.func6, Try.ntmps6
    go_wp2_with (go_at_call 21; refine HAl.out.mono ?_; rintro e w1 ⟨rfl, hb1⟩)
    go_ret
    exact ⟨rfl, hb1⟩
  by_cases h1 : from_ < 0
  · clear hs hw
    go_enter Try.func6, Try.ntmps6
    go_wp2_with (go_at_call 21; refine HAl.out.mono ?_; rintro e w1 ⟨rfl, hb1⟩)
    go_ret
    exact ⟨rfl, hb1⟩
  by_cases h2 : to_ ≤ from_
  · clear hs hw
    go_enter Try.func6, Try.ntmps6
    go_wp2_with (go_at_call 21; refine HAl.out.mono ?_; rintro e w1 ⟨rfl, hb1⟩)
    go_ret
    exact ⟨rfl, hb1⟩
  by_cases h3 : (l.length : Int) < to_
  · clear hs hw
    go_enter Try.func6, Try.ntmps6
    go_wp2_with (go_at_call 21; refine HAl.out.mono ?_; rintro e w1 ⟨rfl, hb1⟩)
    go_ret
    exact ⟨rfl, hb1⟩
  obtain ⟨a, rfl⟩ := Int.eq_ofNat_of_zero_le (show 0 ≤ from_ by omega)
  obtain ⟨b, rfl⟩ : ∃ b : Nat, to_ = (a : Int) + (b : Int) := ⟨(to_ - (a : Int)).toNat, by omega⟩
  have hbp : 1 ≤ b := by omega
  have hab : a + b ≤ l.length := by omega
  have hn : l.length ≤ 4611686018427387904 := by omega
  have HS := Lib.hid hs
  have HW := Lib.hid hw
  have HLn := Lib.hid (fewE_len rack l)
  obtain ⟨A2, hrun', hsl, hlen⟩ := mid_ex hs (n := a) (k := b) hlc hab
  have hrun := fun W => hrun' W ((a : Int) + (b : Int)) (by omega)
  have HP2 := Lib.hid (fun (w1 : World) (hb : Below w.heap.size w w1) => is_any rack A2 (c - a) ((l.drop a).take b) (fun i hi => hw i (List.mem_of_mem_drop (List.mem_of_mem_take hi))) (by rw [hlen]; omega) w1 ((hsl.below hb).more hb.size))
  rw [hlen] at HP2
  clear hrun' hsl hlen hs hw
  by_cases he : lookE rack l = 0
  case neg =>
    have e1 : (lookE rack l == 0) = false := by simp [he]
    have e2 : (lookE rack l != 0) = true := by simp [he]
    have HI := Lib.hid (fun w1 hb => is_any rack A c l HW.out hn w1 ((HS.out.below hb).more (Below.size hb)))
    clear he
    generalize lookE rack l = x at e1 e2 HI
    go_enter Try.func6, Try.ntmps6
    go_wp2_with (first
      | (go_at_call 21; refine HAl.out.mono ?_; rintro e w1 ⟨rfl, hb1⟩)
      | (go_at_call_of 10 (Value.slice A l.length c); refine (HI.out _ hb1).mono ?_; rintro e w2 ⟨rfl, hb2⟩; have hb02 := hb1.trans (hb2.mono hb1.size))
      | (go_at_call_of 10 (Value.slice A2 b (c - a)); refine (HP2.out _ hb02).mono ?_; rintro e w3 ⟨rfl, hb3⟩))
    go_ret
    exact ⟨rfl, hb02.trans (hb3.mono hb02.size)⟩
  case pos =>
    have hf := look_fit HW.out he
    have HI := Lib.hid (fun w1 hb => is_any rack A c l HW.out hn w1 ((HS.out.below hb).more (Below.size hb)))
    have hmid := look_mid he (look_zero he).1 a b
    have HMd := Lib.hid (is_mid he hf hbp hab)
    have e1 : fewE rack l = few rack l := by unfold fewE; rw [if_pos he]
    have HFw := Lib.hid (fun w1 hb => fewest_any rack A c l HW.out hn hlc w1 ((HS.out.below hb).more (Below.size hb)))
    rw [e1] at HFw HLn
    have HE := Lib.hid he
    have HF := Lib.hid hf
    have hrk := (look_zero he).1
    rw [he] at HI HFw
    rw [hmid] at HP2
    clear he hf hmid e1
    have hqq : isB rack l = true → isB rack ((l.drop a).take b) = true := HMd.out
    generalize isB rack l = q at HI hqq
    generalize isB rack ((l.drop a).take b) = q2 at HP2 hqq
    have hcase : (q = true ∧ q2 = true) ∨ q = false := by
      cases q with
      | true => exact Or.inl ⟨rfl, hqq rfl⟩
      | false => exact Or.inr rfl
    clear hqq HMd
    rcases hcase with ⟨rfl, rfl⟩ | rfl
    all_goals
      go_enter Try.func6, Try.ntmps6
      go_upto_region 10 with (first
        | (go_at_call 21; refine HAl.out.mono ?_; rintro e w1 ⟨rfl, hb1⟩)
        | (go_at_call_of 10 (Value.slice A l.length c); refine (HI.out _ hb1).mono ?_; rintro e w2 ⟨rfl, hb2⟩; have hb02 := hb1.trans (hb2.mono hb1.size))
        | (go_at_call_of 10 (Value.slice A2 b (c - a)); refine (HP2.out _ hb02).mono ?_; rintro e w3 ⟨rfl, hb3⟩))
      have hb03 := hb02.trans (hb3.mono hb02.size)
      clear hb1 hb2 hb3 hb02 HI HP2
      go_wp2_with fail
      refine (HFw.out _ hb03).mono ?_
      rintro e w4 ⟨v1, rfl, hown, hb4⟩
      have hb04 := hb03.trans (hb4.mono hb03.size)
      obtain ⟨a1, c1, rfl⟩ := own_form hown
      have hsi := SlI.of_own hown
      have HNs : Hid (∀ W, Below w4.heap.size w4 W → SlI W w4.heap.size a1 (ints (few rack l))) := fun W hb => hsi.below hb
      have hfl : (ints (few rack l)).length = (few rack l).length := ints_len _
      obtain ⟨ns, hns⟩ : ∃ ns, ns = few rack l := ⟨_, rfl⟩
      rw [← hns] at HNs hfl ⊢
      have HNS := Lib.hid hns
      have HFL := Lib.hid hfl
      have hns2 : ns.length ≤ 2000 := by rw [hns]; exact HLn.out
      clear hown hsi hb4 hb03 hns hfl
      go_wp2
      go_loopw [16, 17, 18] (fun s16 s17 s18 wr => ∃ (k at_ : Nat) (r : Int), k ≤ ns.length ∧ s18 = .int .i64 k ∧ s16 = .int .i64 at_ ∧ s17 = .int .i64 r ∧ at_ ≤ l.length ∧ (-8 ≤ r ∧ r ≤ 8) ∧ Hid (ns.drop k = few r (l.drop at_)) ∧ Below w4.heap.size w4 wr) (fun _ _ s18 _ => ns.length - (intOf s18).toNat)
      case atStart => exact ⟨0, 0, rack, Nat.zero_le _, rfl, rfl, rfl, Nat.zero_le _, hrk, HNS.out, Below.refl _ _⟩
      case round =>
        obtain ⟨k, at_, r, hk, rfl, rfl, rfl, hat, hr, HD, hbw⟩ := hrel
        have hdl : (l.drop at_).length = l.length - at_ := List.length_drop
        by_cases hlt : k < ns.length
        case neg =>
          have hnil : few r (l.drop at_) = [] := by rw [← HD.out, List.drop_of_length_le (by omega)]
          have hend : at_ = l.length := by
            rcases Nat.eq_zero_or_pos (l.drop at_).length with e | e
            · omega
            · rw [few_step e] at hnil; cases hnil
          subst hend
          clear HD hnil hdl
          go_wp2
          go_ret
          exact ⟨ret_bool (by simp), hb04.trans (hbw.mono hb04.size)⟩
        case pos =>
          have hpos : 0 < (l.drop at_).length := by
            rcases Nat.eq_zero_or_pos (l.drop at_).length with e | e
            · have h0 := congrArg List.length HD.out
              rw [few_nil e, List.length_drop] at h0
              simp at h0
              omega
            · exact e
          have hN1 := lonF_pos r hpos
          have hN2 := lonF_le r (l.drop at_)
          have hD2 := HD.out
          rw [few_step hpos, drop_at (List.getElem?_eq_getElem hlt)] at hD2
          obtain ⟨hNk, hD3⟩ := List.cons.inj hD2
          rw [getD_drop', List.drop_drop] at hD3
          have hG1 := is_greedy (rack := rack) HE.out HF.out hr (a := at_) (b := lonF r (l.drop at_)) hN1 (by omega)
          rw [decide_eq_true (Nat.le_refl _)] at hG1
          have hG2 : at_ + lonF r (l.drop at_) < l.length → isB r ((l.drop at_).take (lonF r (l.drop at_) + 1)) = false := fun h => by
            rw [is_greedy (rack := rack) HE.out HF.out hr (a := at_) (b := lonF r (l.drop at_) + 1) (by omega) (by omega), decide_eq_false (by omega)]
          generalize lonF r (l.drop at_) = N at hN1 hN2 hNk hD3 hG1 hG2
          obtain ⟨bx, ox, x, rfl, hBx, hx, hcx⟩ := HS.out.at_ (k := at_ + (N - 1)) (by omega)
          have hxg : l.getD (at_ + (N - 1)) ins0 = x := getD_of hx
          rw [hxg] at hD3
          have hfx := HF.out x (List.mem_of_getElem? hx)
          have HXc := Lib.hid (fun W (hb : Below w.heap.size w W) => (show (W.cell? ⟨bx, ox + (at_ + N - 1) * 7, none⟩ = some (.int .u8 x.op) ∧ W.cell? ⟨bx, ox + (at_ + N - 1) * 7 + 6, none⟩ = some (.int .i64 x.rack)) ∧
              (W.cell? ⟨bx, ox + ((at_ : Int) + (N : Int) - 1).toNat * 7, none⟩ = some (.int .u8 x.op) ∧ W.cell? ⟨bx, ox + ((at_ : Int) + (N : Int) - 1).toNat * 7 + 6, none⟩ = some (.int .i64 x.rack)) ∧
              W.cell? ⟨bx, ox + (((at_ : Int) + (N : Int)).toNat - 1) * 7, none⟩ = some (.int .u8 x.op) ∧ W.cell? ⟨bx, ox + (((at_ : Int) + (N : Int)).toNat - 1) * 7 + 6, none⟩ = some (.int .i64 x.rack) by
            rw [show ((at_ : Int) + (N : Int) - 1).toNat = at_ + (N - 1) by omega, show ((at_ : Int) + (N : Int)).toNat - 1 = at_ + (N - 1) by omega, show at_ + N - 1 = at_ + (N - 1) by omega]
            have h := hcx.below hb hBx
            exact ⟨⟨h.1, h.2.2.2.2.2.2⟩, ⟨h.1, h.2.2.2.2.2.2⟩, h.1, h.2.2.2.2.2.2⟩))
          obtain ⟨bn, on, z, rfl, hBn, hz, hcz⟩ := (HNs.out wr hbw).at_ (k := k) (by rw [HFL.out]; exact hlt)
          have hzN : z = (N : Int) := by
            unfold ints at hz
            rw [List.getElem?_map, List.getElem?_eq_getElem hlt, hNk] at hz
            simpa using hz.symm
          subst hzN
          have HCn := Lib.hid (fun W (hb : Below w4.heap.size wr W) => (bcell hb hBn _).trans hcz)
          obtain ⟨A3, hrun3', hsl3, hlen3⟩ := mid_ex HS.out (n := at_) (k := N) hlc (by omega)
          have hrun3 := fun W => hrun3' W ((at_ : Int) + (N : Int)) (by omega)
          have hI3 := fun (w1 : World) (hb : Below w.heap.size w w1) => is_any r A3 (c - at_) ((l.drop at_).take N) (fun i hi => HW.out i (List.mem_of_mem_drop (List.mem_of_mem_take hi))) (by rw [hlen3]; omega) w1 ((hsl3.below hb).more hb.size)
          rw [hlen3, hG1, look_mid HE.out hr at_ N] at hI3
          have HI3 := Lib.hid hI3
          have hb0r := hb04.trans (hbw.mono hb04.size)
          have hsub : IntKind.i64.wrap ((l.length : Int) - (at_ : Int)) = (l.length : Int) - (at_ : Int) := IntWalk.i64_in _ (by omega)
          have hle : (N : Int) ≤ (l.length : Int) - (at_ : Int) := by omega
          have HD4 := Lib.hid hD3
          clear hrun3' hI3 hsl3 hlen3 hG1 hD2 hD3 hNk HD hz hx hcx hxg
          have hwz : 4611686018427387904 > at_ + N := by omega
          by_cases hmore : at_ + N < l.length
          case pos =>
            obtain ⟨A4, hrun4', hsl4, hlen4⟩ := mid_ex HS.out (n := at_) (k := N + 1) hlc (by omega)
            have hrun4 := fun W => hrun4' W ((at_ : Int) + (N : Int) + 1) (by omega)
            have hI4 := fun (w1 : World) (hb : Below w.heap.size w w1) => is_any r A4 (c - at_) ((l.drop at_).take (N + 1)) (fun i hi => HW.out i (List.mem_of_mem_drop (List.mem_of_mem_take hi))) (by rw [hlen4]; omega) w1 ((hsl4.below hb).more hb.size)
            rw [hlen4, hG2 hmore, look_mid HE.out hr at_ (N + 1)] at hI4
            have HI4 := Lib.hid hI4
            clear hrun4' hI4 hsl4 hlen4 hG2
            by_cases h8 : x.op = 8
            case pos =>
              have HR : Hid (rackedI r x = x.rack) := by unfold Hid rackedI; rw [if_pos h8]
              rw [h8] at HXc
              have hrr : -8 ≤ x.rack ∧ x.rack ≤ 8 := ⟨hfx.2.2.2.2.2.2.2.1, hfx.2.2.2.2.2.2.2.2⟩
              have HRR := Lib.hid hrr
              clear h8 hfx hrr
              go_wp2_with (first
                | (go_at_call_of 10 (Value.slice A3 N (c - at_)); refine (HI3.out _ hb0r).mono ?_; rintro e w5 ⟨rfl, hb5⟩; have hcn5 := HCn.out w5 (hb5.mono hbw.size); obtain ⟨⟨hx0, hx6⟩, ⟨hx0', hx6'⟩, hx0'', hx6''⟩ := HXc.out w5 (hb0r.trans (hb5.mono hb0r.size)))
                | (go_at_call_of 10 (Value.slice A4 (N + 1) (c - at_)); refine (HI4.out _ (hb0r.trans (hb5.mono hb0r.size))).mono ?_; rintro e w6 ⟨rfl, hb6⟩; have hcn6 := HCn.out w6 ((hb5.trans (hb6.mono hb5.size)).mono hbw.size); obtain ⟨⟨hy0, hy6⟩, ⟨hy0', hy6'⟩, hy0'', hy6''⟩ := HXc.out w6 (hb0r.trans ((hb5.trans (hb6.mono hb5.size)).mono hb0r.size))))
              go_roundw
              case rel => exact ⟨k + 1, at_ + N, x.rack, by omega, by go_num, by go_num, rfl, by omega, HRR.out, by rw [← HR.out]; exact HD4, hbw.trans ((hb5.trans (hb6.mono hb5.size)).mono hbw.size)⟩
              case measure => simp [intOf]; omega
            case neg =>
              have HR : Hid (rackedI r x = r) := by unfold Hid rackedI; rw [if_neg h8]
              have e8 : (x.op == 8) = false := by simp [h8]
              clear h8 hfx
              go_wp2_with (first
                | (go_at_call_of 10 (Value.slice A3 N (c - at_)); refine (HI3.out _ hb0r).mono ?_; rintro e w5 ⟨rfl, hb5⟩; have hcn5 := HCn.out w5 (hb5.mono hbw.size); obtain ⟨⟨hx0, hx6⟩, ⟨hx0', hx6'⟩, hx0'', hx6''⟩ := HXc.out w5 (hb0r.trans (hb5.mono hb0r.size)))
                | (go_at_call_of 10 (Value.slice A4 (N + 1) (c - at_)); refine (HI4.out _ (hb0r.trans (hb5.mono hb0r.size))).mono ?_; rintro e w6 ⟨rfl, hb6⟩; have hcn6 := HCn.out w6 ((hb5.trans (hb6.mono hb5.size)).mono hbw.size); obtain ⟨⟨hy0, hy6⟩, ⟨hy0', hy6'⟩, hy0'', hy6''⟩ := HXc.out w6 (hb0r.trans ((hb5.trans (hb6.mono hb5.size)).mono hb0r.size))))
              go_roundw
              case rel => exact ⟨k + 1, at_ + N, r, by omega, by go_num, by go_num, rfl, by omega, hr, by have := HD4.out; rw [HR.out] at this; exact this, hbw.trans ((hb5.trans (hb6.mono hb5.size)).mono hbw.size)⟩
              case measure => simp [intOf]; omega
          case neg =>
            have hmz : ¬ ((at_ : Int) + (N : Int) < (l.length : Int)) := by omega
            clear hG2
            by_cases h8 : x.op = 8
            case pos =>
              have HR : Hid (rackedI r x = x.rack) := by unfold Hid rackedI; rw [if_pos h8]
              rw [h8] at HXc
              have hrr : -8 ≤ x.rack ∧ x.rack ≤ 8 := ⟨hfx.2.2.2.2.2.2.2.1, hfx.2.2.2.2.2.2.2.2⟩
              have HRR := Lib.hid hrr
              clear h8 hfx hrr
              go_wp2_with (first
                | (go_at_call_of 10 (Value.slice A3 N (c - at_)); refine (HI3.out _ hb0r).mono ?_; rintro e w5 ⟨rfl, hb5⟩; have hcn5 := HCn.out w5 (hb5.mono hbw.size); obtain ⟨⟨hx0, hx6⟩, ⟨hx0', hx6'⟩, hx0'', hx6''⟩ := HXc.out w5 (hb0r.trans (hb5.mono hb0r.size))))
              go_roundw
              case rel => exact ⟨k + 1, at_ + N, x.rack, by omega, by go_num, by go_num, rfl, by omega, HRR.out, by rw [← HR.out]; exact HD4, hbw.trans (hb5.mono hbw.size)⟩
              case measure => simp [intOf]; omega
            case neg =>
              have HR : Hid (rackedI r x = r) := by unfold Hid rackedI; rw [if_neg h8]
              have e8 : (x.op == 8) = false := by simp [h8]
              clear h8 hfx
              go_wp2_with (first
                | (go_at_call_of 10 (Value.slice A3 N (c - at_)); refine (HI3.out _ hb0r).mono ?_; rintro e w5 ⟨rfl, hb5⟩; have hcn5 := HCn.out w5 (hb5.mono hbw.size); obtain ⟨⟨hx0, hx6⟩, ⟨hx0', hx6'⟩, hx0'', hx6''⟩ := HXc.out w5 (hb0r.trans (hb5.mono hb0r.size))))
              go_roundw
              case rel => exact ⟨k + 1, at_ + N, r, by omega, by go_num, by go_num, rfl, by omega, hr, by have := HD4.out; rw [HR.out] at this; exact this, hbw.trans (hb5.mono hbw.size)⟩
              case measure => simp [intOf]; omega
end Go.Proofs.Ytbnddpknejgmhaa
