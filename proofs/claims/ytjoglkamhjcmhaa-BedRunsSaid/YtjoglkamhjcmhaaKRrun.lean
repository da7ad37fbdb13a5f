/- The reference's Run. -/
import Derived.Test.YtjoglkamhjcmhaaKRdo
namespace Go.Proofs.Ytjoglkamhjcmhaa
open Go.RowKit Go.Shelf Go.Sort
set_option maxRecDepth 100000

set_option maxHeartbeats 16000000 in
theorem rrun_any (s : BedS) (p : BedP) (hwf : s.wf) (hn : s.hooks.length ≤ 9000 ∧ s.feeds.length ≤ 9000 ∧ s.made.length ≤ 9000) (l : List Ins) (hl : l.length ≤ 9000) (hcap : bedE s = 0 → l.length ≤ 2000 → s.made.length + l.length ≤ 3999) (hwl : ∀ i ∈ l, i.wf) (A : Option Addr) (c : Nat) (w : World) (hs : BedAt w w.heap.size p s) (hx : SlX w w.heap.size A l) :
    Calls Try.prog 27 #[s.val p, .slice A l.length c] w fun e w' => runOut (runS s l) w e w' := by
  have HC := Lib.hid (fun (w1 : World) (hb : Below w.heap.size w w1) => rbcheck_any s p hwf ⟨by omega, by omega, by omega⟩ w1 ((hs.below hb).more hb.size))
  have HFa := Lib.hid (run_facts w s p)
  have HBl := Lib.hid (run_below w s p)
  unfold RetB8 at HC
  by_cases he : bedE s = 0
  case neg =>
    have HF : Hid (runS s l = (bed0, 0, bedE s)) := by unfold Hid runS; rw [if_pos he]
    have e2 : (bedE s != 0) = true := by simp [he]
    unfold BedS.val at HC ⊢
    generalize bedE s = x at HC HF e2
    generalize runS s l = r at HF ⊢
    clear hs he hcap hx hwl
    go_enter Try.func27, Try.ntmps27
    go_wp2_with fail
    refine (HC.out _ HBl.out).mono ?_
    rintro e w1 ⟨rfl, hb1⟩
    have HB1 := Lib.hid (hb1.mono (by simp) : Below (w.heap.size + 2) _ w1)
    obtain ⟨⟨c0, c1, c2, c3⟩, -, -⟩ := HFa.out w1 HB1.out
    clear hb1
    go_wp2_with fail
    refine (HC.out _ (HBl.out.trans (HB1.out.mono (by omega)))).mono ?_
    rintro e w2 ⟨rfl, hb2⟩
    have hb12 := HB1.out.trans (hb2.mono (by have := HB1.out.size; simp at this; omega))
    obtain ⟨-, hz, hfr⟩ := HFa.out w2 hb12
    have HZ := Lib.hid (hz.stored bed0 bedP0)
    have HR := Lib.hid (runOut.zero (r := r) (b := w.heap.size + 1) HF.out (HBl.out.trans (hb12.mono (by omega))) (by omega))
    obtain ⟨z0, z1, z2, z3⟩ := hz
    clear hb2 hb12 c0 c1 c2 c3
    go_wp2
    exact rrun_close HZ.out rfl rfl rfl HR.out
  case pos =>
    rw [he] at HC
    by_cases hll : l.length ≤ 2000
    case neg =>
      have HF : Hid (runS s l = (bed0, 0, 4)) := by unfold Hid runS; rw [if_neg (by simpa using he), if_pos (by omega)]
      unfold BedS.val at HC ⊢
      generalize runS s l = r at HF ⊢
      have e3 : decide (2000 < l.length) = true := by simpa using hll
      have e3' : decide ((2000 : Int) < (l.length : Int)) = true := decide_eq_true (by omega)
      clear hs he hcap hx hwl
      go_enter Try.func27, Try.ntmps27
      go_wp2_with fail
      refine (HC.out _ HBl.out).mono ?_
      rintro e w1 ⟨rfl, hb1⟩
      obtain ⟨-, hz, hfr⟩ := HFa.out w1 (hb1.mono (by simp))
      have HZ := Lib.hid (hz.stored bed0 bedP0)
      have HR := Lib.hid (runOut.zero (r := r) (b := w.heap.size + 1) HF.out (HBl.out.trans (hb1.mono (by simp; omega))) (by omega))
      obtain ⟨z0, z1, z2, z3⟩ := hz
      clear hb1
      go_wp2
      exact rrun_close HZ.out rfl rfl rfl HR.out
    case pos =>
      have HF : Hid (runS s l = runI s 0 l) := by unfold Hid runS; rw [if_neg (by simpa using he), if_neg (by omega)]
      have HCo := Lib.hid (fun (w1 : World) (hb : Below w.heap.size w w1) => rtwin_any s p hn (fun h hh => by have := (bed_loops he h hh).2; omega) (fun m hm => by have := bed_parents he m hm; omega) w1 ((hs.below hb).more hb.size))
      have HOk : Hid (RunOk s l.length 0 s) := ⟨Good.of he hwf, by omega, hcap he hll⟩
      have HX := Lib.hid hx
      have HWl := Lib.hid hwl
      rw [HF.out]
      unfold BedS.val at HC HCo ⊢
      have e3 : decide (2000 < l.length) = false := decide_eq_false (by omega)
      have e3' : decide ((2000 : Int) < (l.length : Int)) = false := decide_eq_false (by omega)
      clear hs he hcap hx hwl HF hn hwf
      go_enter Try.func27, Try.ntmps27
      go_wp2_with fail
      refine (HC.out _ HBl.out).mono ?_
      rintro e w1 ⟨rfl, hb1⟩
      have HB1 := Lib.hid (hb1.mono (by simp) : Below (w.heap.size + 2) _ w1)
      obtain ⟨⟨c0, c1, c2, c3⟩, -, -⟩ := HFa.out w1 HB1.out
      clear hb1
      go_wp2_with fail
      refine (HCo.out _ (HBl.out.trans (HB1.out.mono (by omega)))).mono ?_
      intro e w2 h2
      obtain ⟨q, rfl, hb2, hw2⟩ := twin_work h2
      obtain ⟨B, hBe⟩ : ∃ B, B = w1.heap.size := ⟨_, rfl⟩
      have HBs : Hid (w.heap.size + 2 ≤ B) := by show _ ≤ _; rw [hBe]; have := HB1.out.size; simp at this; exact this
      rw [← hBe] at hw2 hb2
      have HB2' : Hid (B ≤ (w2.alloc (bedBox s q)).heap.size) := by show _ ≤ _; have := hb2.size; rw [← hBe] at this; simp; omega
      have HW2 := Lib.hid hw2
      have HB2 := Lib.hid ((HB1.out.trans (hb2.mono HBs.out)).alloc (by have := HBs.out; have := hb2.size; omega) (bedBox s q))
      obtain ⟨pb, hpb⟩ : ∃ pb, pb = w2.heap.size := ⟨_, rfl⟩
      rw [← hpb] at HW2
      clear hb2 hw2 h2 c0 c1 c2 c3 hBe HC HCo e3 e3'
      unfold BedS.val
      go_wp2
      rw [← hpb]
      clear hpb
      go_loopw [8] (fun s8 wr => ∃ (k : Nat) (st : BedS), k ≤ l.length ∧ s8 = .int .i64 k ∧ Hid (runI s 0 l = runI st k (l.drop k)) ∧ Hid (RunOk s l.length k st) ∧ Hid (B ≤ wr.heap.size) ∧ Hid (WorkX 26 wr B pb st []) ∧ Hid (Below (w.heap.size + 2) (runBW w s p) wr)) (fun s8 _ => l.length - (intOf s8).toNat)
      case atStart => exact ⟨0, s, Nat.zero_le _, rfl, rfl, HOk.out, HB2'.out, HW2.out, HB2.out⟩
      case round =>
        obtain ⟨k, st, hk, rfl, HE, HG, HS, HW, HB⟩ := hrel
        clear HW2 HB2 HB2' HOk HB1
        by_cases hlt : k < l.length
        case neg =>
          have e0 : l.drop k = [] := List.drop_eq_nil_of_le (by omega)
          have HE2 : Hid (runI s 0 l = (st, (l.length : Int), 0)) := by
            unfold Hid
            rw [HE.out, e0, show k = l.length by omega]
            rfl
          obtain ⟨hv, mv, q, hwa⟩ := HW.out.open
          have HAt := Lib.hid hwa
          have hpb := hwa.base.2
          obtain ⟨y0, y1, y2, y3⟩ := hwa.at4
          obtain ⟨-, hz, hfr⟩ := HFa.out wr HB.out
          have HZ := Lib.hid (hz.stored st q)
          obtain ⟨z0, z1, z2, z3⟩ := hz
          clear hwa e0
          go_wp2
          exact rrun_close HZ.out rfl rfl rfl (runOut.of HE2.out (rrun_state HAt.out (by have := HBs.out; omega) (by omega) (HBl.out.trans (HB.out.mono (by omega)))))
        case pos =>
          obtain ⟨b, off, i, hA, hB0, hz, hc⟩ := HX.out.at_ hlt
          have hbw : Below w.heap.size w wr := HBl.out.trans (HB.out.mono (by omega))
          have HIn : Hid (∀ W, Below w.heap.size w W → InsAt W b (off + k * 7) i) := fun W hb => hc.below hb hB0
          obtain ⟨i0, i1, i2, i3, i4, i5, i6⟩ := HIn.out wr hbw
          have HBw := Lib.hid hbw
          have HStep := Lib.hid (HE.out.trans (runI_step hz))
          have hwi : i.wf := HWl.out i (List.mem_of_getElem? hz)
          have HWi := Lib.hid hwi
          subst hA
          have HI := Lib.hid (fun w => rinstr_any i w)
          clear hbw hwi hz hc hB0 HE HX
          by_cases hi : i.err = 0
          case neg =>
            rw [if_pos hi] at HStep
            have e1 : (i.err == 0) = false := by simp [hi]
            have e2 : (i.err != 0) = true := by simp [hi]
            unfold Ins.val at HI
            generalize i.err = x at HI e1 e2 HStep
            clear hi HWl HG HW
            go_wp2_with fail
            refine (HI.out _).mono ?_
            rintro e w3 ⟨rfl, hb3⟩
            have hB3 := HB.out.trans (hb3.mono (by have := HBs.out; have := HS.out; omega))
            obtain ⟨-, hz, hfr⟩ := HFa.out w3 hB3
            have HZ := Lib.hid (hz.stored bed0 bedP0)
            have HR := Lib.hid (runOut.zero (r := (bed0, (k : Int), x)) (b := w.heap.size + 1) rfl (HBl.out.trans (hB3.mono (by omega))) (by omega))
            obtain ⟨z0, z1, z2, z3⟩ := hz
            clear hb3 hB3
            go_wp2
            exact rrun_close HZ.out rfl rfl rfl (runOut.of HStep.out HR.out)
          case pos =>
            rw [if_neg (by simpa using hi)] at HStep
            rw [hi] at HI
            have HDo := Lib.hid (fun (w1 : World) (hBw : B ≤ w1.heap.size) (h : WorkX 26 w1 B pb st []) => rdone_any B pb st i [] HG.out.good.st HG.out.good.fd HWi.out (Ins.good_err hi) w1 hBw h)
            have HNx := Lib.hid (fun hz => HG.out.next HWi.out hi hz)
            unfold Ins.val at HI HDo
            generalize doI st i = r at HDo HNx HStep
            clear hi HWl HG
            go_wp2_with fail
            refine (HI.out _).mono ?_
            rintro e w3 ⟨rfl, hb3⟩
            have hs3 : B ≤ w3.heap.size := by have := HS.out; have := hb3.size; omega
            have HW3 := Lib.hid (HW.out.to hb3)
            have HB3 := Lib.hid (HB.out.trans (hb3.mono (by have := HBs.out; have := HS.out; omega)))
            have HBw3 := HBw.out.trans (hb3.mono HBw.out.size)
            have HS3 := Lib.hid hs3
            clear i0 i1 i2 i3 i4 i5 i6
            obtain ⟨i0, i1, i2, i3, i4, i5, i6⟩ := HIn.out w3 HBw3
            clear hb3 hs3 HW HBw3 HBw
            go_wp2_with fail
            refine (HDo.out _ HS3.out HW3.out).mono ?_
            rintro e w4 ⟨rfl, hw4, hb4⟩
            have hB4 := HB3.out.trans (hb4.mono HBs.out)
            obtain ⟨-, hz, hfr⟩ := HFa.out w4 hB4
            by_cases hr : r.2 = 0
            case neg =>
              rw [if_pos hr] at HStep
              have e2 : (r.2 != 0) = true := by simp [hr]
              have HZ := Lib.hid (hz.stored bed0 bedP0)
              have HR := Lib.hid (runOut.zero (r := (bed0, (k : Int), r.2)) (b := w.heap.size + 1) rfl (HBl.out.trans (hB4.mono (by omega))) (by omega))
              obtain ⟨z0, z1, z2, z3⟩ := hz
              clear hb4 hB4 hw4 hr i0 i1 i2 i3 i4 i5 i6
              go_wp2
              exact rrun_close HZ.out rfl rfl rfl (runOut.of HStep.out HR.out)
            case pos =>
              rw [if_neg (by simpa using hr)] at HStep
              have e2 : (r.2 != 0) = false := by simp [hr]
              have HW4 := Lib.hid (hw4 hr)
              have HB4 := Lib.hid hB4
              have HN4 := Lib.hid (HNx.out hr)
              have HS4 : Hid (B ≤ w4.heap.size) := Nat.le_trans HS3.out hb4.size
              clear hb4 hB4 hw4 hr i0 i1 i2 i3 i4 i5 i6 hz hfr
              go_wp2
              go_roundw
              case rel => exact ⟨k + 1, r.1, by omega, by go_num, HStep.out, HN4.out, HS4.out, HW4.out, HB4.out⟩
              case measure => simp [intOf]; omega
end Go.Proofs.Ytjoglkamhjcmhaa
