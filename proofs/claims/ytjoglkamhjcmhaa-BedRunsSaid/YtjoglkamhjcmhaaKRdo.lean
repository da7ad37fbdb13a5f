/- The reference's Do and Run. -/
import Derived.Test.YtjoglkamhjcmhaaKRdone
import Derived.Test.YtjoglkamhjcmhaaKPp
import Derived.Test.YtjoglkamhjcmhaaKPq
import Derived.Test.YtjoglkamhjcmhaaKRun
namespace Go.Proofs.Ytjoglkamhjcmhaa
open Go.RowKit Go.Shelf Go.Sort
set_option maxRecDepth 100000

theorem rdo_close {W : World} {tmps : Array Value} {s : BedS} {p : BedP} {x : Int} {b : Nat} {R : Ending → World → Prop} (hF : BdIn W b s p) (h4 : tmps[4]?.getD undef = .pointer (some ⟨b, 0, none⟩)) (h5 : tmps[5]?.getD undef = .int .i64 x) (hR : R (.returned (.tuple #[s.val p, .int .i64 x])) W) :
    bodyPost Try.prog Try.f19 R .ret { tmps := tmps, defers := [] } W := by
  obtain ⟨c0, c1, c2, c3⟩ := hF
  refine bodyPost_ret (v := .tuple #[s.val p, .int .i64 x]) ?_ rfl hR
  simp [results, Try.results19, go_sem, h4, h5, c0, c1, c2, c3, BedS.val]
theorem rrun_close {W : World} {tmps : Array Value} {s : BedS} {p : BedP} {x y : Int} {b : Nat} {R : Ending → World → Prop} (hF : BdIn W b s p) (h4 : tmps[4]?.getD undef = .pointer (some ⟨b, 0, none⟩)) (h5 : tmps[5]?.getD undef = .int .i64 x) (h6 : tmps[6]?.getD undef = .int .i64 y) (hR : R (.returned (.tuple #[s.val p, .int .i64 x, .int .i64 y])) W) :
    bodyPost Try.prog Try.f27 R .ret { tmps := tmps, defers := [] } W := by
  obtain ⟨c0, c1, c2, c3⟩ := hF
  refine bodyPost_ret (v := .tuple #[s.val p, .int .i64 x, .int .i64 y]) ?_ rfl hR
  simp [results, Try.results27, go_sem, h4, h5, h6, c0, c1, c2, c3, BedS.val]
/-- What Twin hands back, stored in a box of its own. -/
theorem twin_work {s : BedS} {w w' : World} {e : Ending} (h : twinOut s w e w') : ∃ q : BedP, e = .returned (s.val q) ∧ Below w.heap.size w w' ∧ WorkX 26 (w'.alloc (bedBox s q)) w.heap.size w'.heap.size s [] := by
  obtain ⟨hv, mv, vh, vf, vm, rfl, e1, e2, ho, hb⟩ := h
  have h3 := ho.add ((Below.refl _ w').alloc (Nat.le_refl _) (.cells #[.int .i64 s.rack, vh, vf, vm] 26)) hb.size (o := rowP 26 w'.heap.size s.rack vh vf vm) (World.ownsRow_lit (e := 26) w' #[.int .i64 s.rack, vh, vf, vm] 1 (base := w'.heap.size) (size := 4) (Nat.le_refl _) (by decide) rfl)
  have hw : WorkAt 26 (w'.alloc (.cells #[.int .i64 s.rack, vh, vf, vm] 26)) w.heap.size w'.heap.size s hv mv vh vf vm [] := ⟨e1, e2, h3⟩
  obtain ⟨p, rfl, rfl, rfl, -⟩ := hw.bed
  exact ⟨p, rfl, hb, ⟨_, _, _, _, _, hw⟩⟩
theorem rdo_state {w W : World} {b B pb : Nat} {st : BedS} {q : BedP} {x : Int} {hv : List (Hk × Value)} {mv : List (Mk × Value)} {X : List Own}
    (h : WkP W B pb st hv mv q X) (hb : b < B) (hB : w.heap.size ≤ b) (hbl : Below w.heap.size w W) : bedOut (st, x) w (.returned (.tuple #[st.val q, .int .i64 x])) (BdIn.set W b st q) :=
  ⟨q, rfl, ((WorkAt.fresh h).sets hb).more (by omega), BdIn.kept hbl hB _ _⟩
theorem rrun_state {w W : World} {b B pb : Nat} {st : BedS} {q : BedP} {x y : Int} {hv : List (Hk × Value)} {mv : List (Mk × Value)} {X : List Own}
    (h : WkP W B pb st hv mv q X) (hb : b < B) (hB : w.heap.size ≤ b) (hbl : Below w.heap.size w W) : runOut (st, x, y) w (.returned (.tuple #[st.val q, .int .i64 x, .int .i64 y])) (BdIn.set W b st q) :=
  ⟨q, rfl, ((WorkAt.fresh h).sets hb).more (by omega), BdIn.kept hbl hB _ _⟩
set_option maxHeartbeats 8000000 in
theorem rdo_any (s : BedS) (p : BedP) (hwf : s.wf) (hn : s.hooks.length ≤ 9000 ∧ s.feeds.length ≤ 9000 ∧ s.made.length ≤ 9000) (i : Ins) (hwi : i.wf) (w : World) (hs : BedAt w w.heap.size p s) :
    Calls Try.prog 19 #[s.val p, i.val] w fun e w' => bedOut (doS s i) w e w' := by
  have HC := Lib.hid (fun (w1 : World) (hb : Below w.heap.size w w1) => rbcheck_any s p hwf ⟨by omega, by omega, by omega⟩ w1 ((hs.below hb).more hb.size))
  have HI := Lib.hid (fun w => rinstr_any i w)
  have HFa := Lib.hid (do_facts w s p i)
  have HBl := Lib.hid (do_below w s p i)
  unfold RetB8 at HC
  by_cases he : bedE s = 0
  case neg =>
    have HF : Hid (doS s i = (bed0, bedE s)) := by unfold Hid doS; rw [if_pos he]
    have e2 : (bedE s != 0) = true := by simp [he]
    unfold BedS.val at HC ⊢
    unfold Ins.val
    generalize bedE s = x at HC HF e2
    generalize doS s i = r at HF ⊢
    clear hs he
    go_enter Try.func19, Try.ntmps19
    go_wp2_with fail
    refine (HC.out _ HBl.out).mono ?_
    rintro e w1 ⟨rfl, hb1⟩
    have HB1 := Lib.hid (hb1.mono (by simp) : Below (w.heap.size + 3) _ w1)
    obtain ⟨⟨c0, c1, c2, c3⟩, -, -, -⟩ := HFa.out w1 HB1.out
    clear hb1
    go_wp2_with fail
    refine (HC.out _ (HBl.out.trans (HB1.out.mono (by omega)))).mono ?_
    rintro e w2 ⟨rfl, hb2⟩
    have hb12 := HB1.out.trans (hb2.mono (by have := HB1.out.size; simp at this; omega))
    obtain ⟨-, -, hz, hfr⟩ := HFa.out w2 hb12
    have HZ := Lib.hid (hz.stored bed0 bedP0)
    have HR := Lib.hid (bedOut.zero (r := r) (b := w.heap.size + 2) (by rw [HF.out]) (HBl.out.trans (hb12.mono (by omega))) (by omega))
    rw [show r.2 = x by rw [HF.out]] at HR
    obtain ⟨z0, z1, z2, z3⟩ := hz
    clear hb2 hb12 c0 c1 c2 c3
    go_wp2
    exact rdo_close HZ.out rfl rfl HR.out
  case pos =>
    rw [he] at HC
    by_cases hi : i.err = 0
    case neg =>
      have HF : Hid (doS s i = (bed0, i.err)) := by unfold Hid doS; rw [if_neg (by simpa using he), if_pos hi]
      have e2 : (i.err != 0) = true := by simp [hi]
      unfold BedS.val at HC ⊢
      unfold Ins.val at HI ⊢
      generalize i.err = x at HI HF e2
      generalize doS s i = r at HF ⊢
      clear hs he hi
      go_enter Try.func19, Try.ntmps19
      go_wp2_with fail
      refine (HC.out _ HBl.out).mono ?_
      rintro e w1 ⟨rfl, hb1⟩
      have HB1 := Lib.hid (hb1.mono (by simp) : Below (w.heap.size + 3) _ w1)
      obtain ⟨-, ⟨x0, x1, x2, x3, x4, x5, x6⟩, -, -⟩ := HFa.out w1 HB1.out
      clear hb1
      go_wp2_with fail
      refine (HI.out _).mono ?_
      rintro e w2 ⟨rfl, hb2⟩
      have HB2 := Lib.hid (HB1.out.trans (hb2.mono (by have := HB1.out.size; simp at this; omega)))
      clear hb2 x0 x1 x2 x3 x4 x5 x6
      obtain ⟨-, ⟨x0, x1, x2, x3, x4, x5, x6⟩, -, -⟩ := HFa.out w2 HB2.out
      go_wp2_with fail
      refine (HI.out _).mono ?_
      rintro e w3 ⟨rfl, hb3⟩
      have hb13 := HB2.out.trans (hb3.mono (by have := HB2.out.size; simp at this; omega))
      obtain ⟨-, -, hz, hfr⟩ := HFa.out w3 hb13
      have HZ := Lib.hid (hz.stored bed0 bedP0)
      have HR := Lib.hid (bedOut.zero (r := r) (b := w.heap.size + 2) (by rw [HF.out]) (HBl.out.trans (hb13.mono (by omega))) (by omega))
      rw [show r.2 = x by rw [HF.out]] at HR
      obtain ⟨z0, z1, z2, z3⟩ := hz
      clear hb3 hb13 x0 x1 x2 x3 x4 x5 x6
      go_wp2
      exact rdo_close HZ.out rfl rfl HR.out
    case pos =>
      have HF : Hid (doS s i = doI s i) := by unfold Hid doS; rw [if_neg (by simpa using he), if_neg (by simpa using hi)]
      have hg := Good.of he hwf
      have HCo := Lib.hid (fun (w1 : World) (hb : Below w.heap.size w w1) => rtwin_any s p hn (fun h hh => by have := (bed_loops he h hh).2; omega) (fun m hm => by have := bed_parents he m hm; omega) w1 ((hs.below hb).more hb.size))
      have HDo := Lib.hid (fun (B pb : Nat) (w1 : World) (hBw : B ≤ w1.heap.size) (h : WorkX 26 w1 B pb s []) => rdone_any B pb s i [] hg.st hg.fd hwi (Ins.good_err hi) w1 hBw h)
      have HBad := Lib.hid (fun h => doI_bad (s := s) (i := i) h)
      rw [hi] at HI
      rw [HF.out]
      unfold BedS.val at HC HCo ⊢
      unfold Ins.val at HI HDo ⊢
      generalize doI s i = r at HDo HBad ⊢
      clear hs he hi hg HF hn hwi hwf
      go_enter Try.func19, Try.ntmps19
      go_wp2_with fail
      refine (HC.out _ HBl.out).mono ?_
      rintro e w1 ⟨rfl, hb1⟩
      have HB1 := Lib.hid (hb1.mono (by simp) : Below (w.heap.size + 3) _ w1)
      obtain ⟨-, ⟨x0, x1, x2, x3, x4, x5, x6⟩, -, -⟩ := HFa.out w1 HB1.out
      clear hb1
      go_wp2_with fail
      refine (HI.out _).mono ?_
      rintro e w2 ⟨rfl, hb2⟩
      have HB2 := Lib.hid (HB1.out.trans (hb2.mono (by have := HB1.out.size; simp at this; omega)))
      obtain ⟨⟨c0, c1, c2, c3⟩, -, -, -⟩ := HFa.out w2 HB2.out
      clear hb2 x0 x1 x2 x3 x4 x5 x6
      go_wp2_with fail
      refine (HCo.out _ (HBl.out.trans (HB2.out.mono (by omega)))).mono ?_
      intro e w3 h3
      obtain ⟨q, rfl, hb3, hw3⟩ := twin_work h3
      obtain ⟨B, hBe⟩ : ∃ B, B = w2.heap.size := ⟨_, rfl⟩
      have HBs : Hid (w.heap.size + 3 ≤ B) := by show _ ≤ _; rw [hBe]; have := HB2.out.size; simp at this; exact this
      rw [← hBe] at hw3 hb3
      have HW3 := Lib.hid hw3
      have hB3 : B ≤ w3.heap.size := by rw [hBe]; exact hBe ▸ hb3.size
      have HB3 := Lib.hid ((HB2.out.trans (hb3.mono HBs.out)).alloc (by have := HBs.out; omega) (bedBox s q))
      have HB3s := Lib.hid hB3
      obtain ⟨-, ⟨x0, x1, x2, x3, x4, x5, x6⟩, -, -⟩ := HFa.out _ HB3.out
      clear hb3 hw3 h3 c0 c1 c2 c3 hBe hB3
      unfold BedS.val
      go_wp2_with fail
      refine (HDo.out B w3.heap.size _ (by have := HB3s.out; simp; omega) HW3.out).mono ?_
      rintro e w4 ⟨rfl, hw4, hb4⟩
      have hB4 := HB3.out.trans (hb4.mono HBs.out)
      obtain ⟨-, hins, hz, hfr⟩ := HFa.out w4 hB4
      have HBl4 := Lib.hid (HBl.out.trans (hB4.mono (by omega)))
      by_cases hr : r.2 = 0
      · obtain ⟨hv, mv, q4, hwa⟩ := (hw4 hr).open
        have e2 : (r.2 != 0) = false := by simp [hr]
        have HZ := Lib.hid (hz.stored r.1 q4)
        have hR := rdo_state (x := 0) (w := w) hwa (b := w.heap.size + 2) (by have := HBs.out; omega) (by omega) HBl4.out
        rw [show (r.1, (0 : Int)) = r from Prod.ext rfl hr.symm] at hR
        have HR := Lib.hid hR
        obtain ⟨y0, y1, y2, y3⟩ := hwa.at4
        obtain ⟨z0, z1, z2, z3⟩ := hz
        clear hb4 hB4 hw4 hwa hR hr x0 x1 x2 x3 x4 x5 x6 hins
        go_wp2
        exact rdo_close HZ.out rfl rfl HR.out
      · have e2 : (r.2 != 0) = true := by simp [hr]
        have hR := bedOut.zero (r := r) (b := w.heap.size + 2) (HBad.out hr) HBl4.out (by omega)
        have HR := Lib.hid hR
        have HZ := Lib.hid (hz.stored bed0 bedP0)
        obtain ⟨z0, z1, z2, z3⟩ := hz
        clear hb4 hB4 hw4 hR hr x0 x1 x2 x3 x4 x5 x6 hins
        go_wp2
        exact rdo_close HZ.out rfl rfl HR.out
end Go.Proofs.Ytjoglkamhjcmhaa
