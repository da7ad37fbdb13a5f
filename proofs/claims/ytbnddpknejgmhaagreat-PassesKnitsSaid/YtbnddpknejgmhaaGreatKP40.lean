/- Layer 30: bed.Run. -/
import Derived.Test.YtbnddpknejgmhaaGreatKP39
namespace Go.Proofs.YtbnddpknejgmhaaGreat
open Go.RowKit Go.Shelf Go.Sort
set_option maxRecDepth 100000

/-- What Run hands back. -/
def runOut (r : BedS × Int × Int) (w : World) (e : Ending) (w' : World) : Prop := ∃ p, e = .returned (.tuple #[r.1.val p, .int .i64 r.2.1, .int .i64 r.2.2]) ∧ BedFr w.heap.size w' p r.1 ∧ Below w.heap.size w w'
theorem run_close {W : World} {tmps : Array Value} {s : BedS} {p : BedP} {x y : Int} {b : Nat} {R : Ending → World → Prop} (hF : BdIn W b s p) (h4 : tmps[4]?.getD undef = .pointer (some ⟨b, 0, none⟩)) (h5 : tmps[5]?.getD undef = .int .i64 x) (h6 : tmps[6]?.getD undef = .int .i64 y) (hR : R (.returned (.tuple #[s.val p, .int .i64 x, .int .i64 y])) W) :
    bodyPost Tryz.prog Tryz.f10 R .ret { tmps := tmps, defers := [] } W := by
  obtain ⟨c0, c1, c2, c3⟩ := hF
  refine bodyPost_ret (v := .tuple #[s.val p, .int .i64 x, .int .i64 y]) ?_ rfl hR
  simp [results, Tryz.results10, go_sem, h4, h5, h6, c0, c1, c2, c3, BedS.val]
theorem runOut.zero {r : BedS × Int × Int} {w W : World} {b : Nat} {x y : Int} (h : r = (bed0, x, y)) (hb : Below w.heap.size w W) (hB : w.heap.size ≤ b) : runOut r w (.returned (.tuple #[bed0.val bedP0, .int .i64 x, .int .i64 y])) (BdIn.set W b bed0 bedP0) := by
  subst h
  exact ⟨bedP0, rfl, BedFr.zero _ _, BdIn.kept hb hB _ _⟩
theorem runOut.of {r r' : BedS × Int × Int} {w W : World} {e : Ending} (h : r = r') (hr : runOut r' w e W) : runOut r w e W := by rw [h]; exact hr
theorem runI_step {s : BedS} {k : Nat} {l : List Ins} {i : Ins} (h : l[k]? = some i) : runI s k (l.drop k) = if i.err ≠ 0 then (bed0, (k : Int), i.err) else if (doI s i).2 ≠ 0 then (bed0, (k : Int), (doI s i).2) else runI (doI s i).1 (k + 1) (l.drop (k + 1)) := by
  obtain ⟨hk, e⟩ := List.getElem?_eq_some_iff.1 h
  rw [List.drop_eq_getElem_cons hk, e]
  rfl
/-- The state stays valid in a run; each instruction makes at most one loop. -/
structure RunOk (s : BedS) (n k : Nat) (st : BedS) : Prop where
  good : Good st
  len : st.made.length ≤ s.made.length + k
  cap : s.made.length + n ≤ 3999
theorem RunOk.next {s st : BedS} {n k : Nat} (h : RunOk s n k st) {i : Ins} (hw : i.wf) (hi : i.err = 0) (hz : (doI st i).2 = 0) : RunOk s n (k + 1) (doI st i).1 := by
  obtain ⟨g, l, e, el⟩ := doI_good h.good hw (Ins.good_err hi) hz
  have h1 := h.len
  refine ⟨g, ?_, h.cap⟩
  rw [e, List.length_append, el]
  unfold madeN
  split <;> omega
abbrev runBW (w : World) (s : BedS) (p : BedP) : World := (w.alloc (bedBox s p)).alloc bedZero
theorem run_facts (w : World) (s : BedS) (p : BedP) (W : World) (hb : Below (w.heap.size + 2) (runBW w s p) W) :
    BdIn W w.heap.size s p ∧ BdIn W (w.heap.size + 1) bed0 bedP0 ∧ ∀ k, W.frozen? ⟨w.heap.size + 1, k, none⟩ = false := by
  have h1 : Below (w.heap.size + 1) (w.alloc (bedBox s p)) (runBW w s p) := (Below.refl _ _).alloc (by simp) _
  have e1 : (w.alloc (bedBox s p)).heap.size = w.heap.size + 1 := by simp
  refine ⟨(BdIn.new w s p).below (h1.trans (hb.mono (by omega))) (by omega), ?_, fun k => (Below.frozen hb (p := ⟨w.heap.size + 1, k, none⟩) (by show w.heap.size + 1 < _; omega)).trans ?_⟩
  · have := BdIn.zero (w.alloc (bedBox s p))
    rw [e1] at this
    exact this.below hb (by omega)
  · exact thawed_new' _ _ _ k (by simp)
theorem run_below (w : World) (s : BedS) (p : BedP) : Below w.heap.size w (runBW w s p) := ((Below.refl _ w).alloc (Nat.le_refl _) _).alloc (by simp) _
theorem run_state {w W : World} {b B pb : Nat} {st : BedS} {q : BedP} {x y : Int} {hv : List (Hk × Value)} {mv : List (Mk × Value)} {X : List Own}
    (h : WorkAt 84 W B pb st hv mv (.slice q.ah st.hooks.length q.ch) (.slice q.af st.feeds.length q.cf) (.slice q.am st.made.length q.cm) X) (hb : b < B) (hB : w.heap.size ≤ b) (hbl : Below w.heap.size w W) :
    runOut (st, x, y) w (.returned (.tuple #[st.val q, .int .i64 x, .int .i64 y])) (BdIn.set W b st q) :=
  ⟨q, rfl, (h.fresh.sets hb).more (by omega), BdIn.kept hbl hB _ _⟩
set_option maxHeartbeats 16000000 in
theorem brun_any (s : BedS) (p : BedP) (hwf : s.wf) (hn : s.hooks.length ≤ 9000 ∧ s.feeds.length ≤ 9000 ∧ s.made.length ≤ 9000) (l : List Ins) (hl : l.length ≤ 9000) (hcap : bedE s = 0 → l.length ≤ 2000 → s.made.length + l.length ≤ 3999) (hwl : ∀ i ∈ l, i.wf) (A : Option Addr) (c : Nat) (w : World) (hs : BedAt w w.heap.size p s) (hx : SlX w w.heap.size A l) :
    Calls Tryz.prog 10 #[s.val p, .slice A l.length c] w fun e w' => runOut (runS s l) w e w' := by
  have HC := Lib.hid (fun (w1 : World) (hb : Below w.heap.size w w1) => bcheck_any s p hwf ⟨by omega, by omega, by omega⟩ w1 ((hs.below hb).more hb.size))
  have HFa := Lib.hid (run_facts w s p)
  have HBl := Lib.hid (run_below w s p)
  unfold RetB8 at HC
  by_cases he : bedE s = 0
  case neg =>
    have HF : Hid (runS s l = (bed0, 0, bedE s)) := by unfold Hid runS; rw [if_pos he]
    have e1 : (bedE s == 0) = false := by simp [he]
    have e2 : (bedE s != 0) = true := by simp [he]
    unfold BedS.val at HC ⊢
    generalize bedE s = x at HC HF e1 e2
    generalize runS s l = r at HF ⊢
    clear hs he hcap hx hwl
    go_enter Tryz.func10, Tryz.ntmps10
    go_wp2_with fail
    refine (HC.out _ HBl.out).mono ?_
    rintro e w1 ⟨rfl, hb1⟩
    obtain ⟨-, hz, hfr⟩ := HFa.out w1 (hb1.mono (by simp))
    have HZ := Lib.hid (hz.stored bed0 bedP0)
    have HR := Lib.hid (runOut.zero (r := r) (b := w.heap.size + 1) HF.out (HBl.out.trans (hb1.mono (by simp; omega))) (by omega))
    obtain ⟨z0, z1, z2, z3⟩ := hz
    clear hb1
    go_wp2
    exact run_close HZ.out rfl rfl rfl HR.out
  case pos =>
    rw [he] at HC
    by_cases hll : l.length ≤ 2000
    case neg =>
      have HF : Hid (runS s l = (bed0, 0, 4)) := by unfold Hid runS; rw [if_neg (by simpa using he), if_pos (by omega)]
      unfold BedS.val at HC ⊢
      generalize runS s l = r at HF ⊢
      have e3 : decide (2000 < l.length) = true := by simpa using hll
      clear hs he hcap hx hwl
      go_enter Tryz.func10, Tryz.ntmps10
      go_wp2_with fail
      refine (HC.out _ HBl.out).mono ?_
      rintro e w1 ⟨rfl, hb1⟩
      obtain ⟨-, hz, hfr⟩ := HFa.out w1 (hb1.mono (by simp))
      have HZ := Lib.hid (hz.stored bed0 bedP0)
      have HR := Lib.hid (runOut.zero (r := r) (b := w.heap.size + 1) HF.out (HBl.out.trans (hb1.mono (by simp; omega))) (by omega))
      obtain ⟨z0, z1, z2, z3⟩ := hz
      clear hb1
      go_wp2
      exact run_close HZ.out rfl rfl rfl HR.out
    case pos =>
      have HF : Hid (runS s l = runI s 0 l) := by unfold Hid runS; rw [if_neg (by simpa using he), if_neg (by omega)]
      have HCo := Lib.hid (fun (w1 : World) (hb : Below w.heap.size w w1) => copied_any s p hn ⟨fun h hh => (bed_loops he h hh).2, bed_parents he⟩ w1 ((hs.below hb).more hb.size))
      have HOk : Hid (RunOk s l.length 0 s) := ⟨Good.of he hwf, by omega, hcap he hll⟩
      have HX := Lib.hid hx
      have HWl := Lib.hid hwl
      rw [HF.out]
      unfold BedS.val at HC HCo ⊢
      have hmf : ∀ (fn : Fn) (first cap : Array Value) (w : World), (Instr.makeFunc fn first cap).run Tryz.prog w = .ok (.func fn first cap) w := fun _ _ _ _ => rfl
      clear hs he hcap hx hwl HF hn hwf
      go_enter Tryz.func10, Tryz.ntmps10
      go_wp2_with fail
      refine (HC.out _ HBl.out).mono ?_
      rintro e w1 ⟨rfl, hb1⟩
      have HB1 := Lib.hid (hb1.mono (by simp) : Below (w.heap.size + 2) _ w1)
      obtain ⟨⟨c0, c1, c2, c3⟩, -, -⟩ := HFa.out w1 HB1.out
      clear hb1
      go_wp2_with fail
      refine (HCo.out _ (HBl.out.trans (HB1.out.mono (by omega)))).mono ?_
      rintro e w2 ⟨pb, rfl, hw2, hb2⟩
      obtain ⟨B, hBe⟩ : ∃ B, B = w1.heap.size := ⟨_, rfl⟩
      have HBs : Hid (w.heap.size + 2 ≤ B) := by rw [hBe]; have := HB1.out.size; simp at this; exact this
      have HB2' : Hid (B ≤ w2.heap.size) := by show B ≤ w2.heap.size; rw [hBe]; exact hb2.size
      rw [← hBe] at hw2 hb2
      have HW2 := Lib.hid hw2
      have HB2 := Lib.hid (HB1.out.trans (hb2.mono HBs.out))
      clear hb2 hw2 c0 c1 c2 c3 hBe HC HCo
      go_wp2
      go_loopw [29] (fun s29 wr => ∃ (k : Nat) (st : BedS), k ≤ l.length ∧ s29 = .int .i64 k ∧ Hid (runI s 0 l = runI st k (l.drop k)) ∧ Hid (RunOk s l.length k st) ∧ Hid (B ≤ wr.heap.size) ∧ Hid (WorkX 84 wr B pb st []) ∧ Hid (Below (w.heap.size + 2) (runBW w s p) wr)) (fun s29 _ => l.length - (intOf s29).toNat)
      case atStart => exact ⟨0, s, Nat.zero_le _, rfl, rfl, HOk.out, HB2'.out, HW2.out, HB2.out⟩
      case round =>
        obtain ⟨k, st, hk, rfl, HE, HG, HS, HW, HB⟩ := hrel
        clear HW2 HB2 HB2' HOk HB1
        by_cases hlt : k < l.length
        case neg =>
          have e0 : l.drop k = [] := List.drop_eq_nil_of_le (by omega)
          have HE2 : Hid (runI s 0 l = (st, (l.length : Int), 0)) := by
            unfold Hid
            rw [HE.out, e0, show k = l.length by omega]
            rfl
          obtain ⟨hv, mv, vh, vf, vm, hwa⟩ := HW.out
          obtain ⟨q, rfl, rfl, rfl, -⟩ := hwa.bed
          have HAt := Lib.hid hwa
          have hpb := hwa.base.2
          obtain ⟨y0, y1, y2, y3, -⟩ := hwa.cells
          obtain ⟨-, hz, hfr⟩ := HFa.out wr HB.out
          have HZ := Lib.hid (hz.stored st q)
          obtain ⟨z0, z1, z2, z3⟩ := hz
          clear hwa e0
          go_wp2
          exact run_close HZ.out rfl rfl rfl (runOut.of HE2.out (run_state HAt.out (by have := HBs.out; omega) (by omega) (HBl.out.trans (HB.out.mono (by omega)))))
        case pos =>
          obtain ⟨b, off, i, hA, hB0, hz, hc⟩ := HX.out.at_ hlt
          have hbw : Below w.heap.size w wr := HBl.out.trans (HB.out.mono (by omega))
          obtain ⟨i0, i1, i2, i3, i4, i5, i6⟩ := hc.below hbw hB0
          have HStep := Lib.hid (HE.out.trans (runI_step hz))
          have hwi : i.wf := HWl.out i (List.mem_of_getElem? hz)
          have HWi := Lib.hid hwi
          subst hA
          have HI := Lib.hid (fun w => instr_any i w)
          have HAl := Lib.hid ((Below.refl (w.heap.size + 2) wr).alloc (by have := HBs.out; have := HS.out; omega) (insBox i))
          have HWb := Lib.hid (HW.out.to ((Below.refl _ wr).alloc (Nat.le_refl _) (insBox i)))
          have HFr := Lib.hid (InsIn.new wr i)
          clear hbw hwi hz hc hB0 HE HX
          by_cases hi : i.err = 0
          case neg =>
            rw [if_pos hi] at HStep
            have e1 : (i.err == 0) = false := by simp [hi]
            have e2 : (i.err != 0) = true := by simp [hi]
            unfold Ins.val at HI
            generalize i.err = x at HI e1 e2 HStep
            clear hi HWl HG HW
            go_wp2_with fail
            refine (HI.out _).mono ?_
            rintro e w3 ⟨rfl, hb3⟩
            have hB3 := (HB.out.trans HAl.out).trans (hb3.mono (by have := HBs.out; have := HS.out; simp; omega))
            obtain ⟨-, hz, hfr⟩ := HFa.out w3 hB3
            have HZ := Lib.hid (hz.stored bed0 bedP0)
            have HR := Lib.hid (runOut.zero (r := (bed0, (k : Int), x)) (b := w.heap.size + 1) rfl (HBl.out.trans (hB3.mono (by omega))) (by omega))
            obtain ⟨z0, z1, z2, z3⟩ := hz
            clear hb3 hB3
            go_wp2
            exact run_close HZ.out rfl rfl rfl (runOut.of HStep.out HR.out)
          case pos =>
            rw [if_neg (by simpa using hi)] at HStep
            rw [hi] at HI
            have HDo := Lib.hid (fun (w1 : World) (hBw : B ≤ w1.heap.size) (h : WorkX 84 w1 B pb st []) => dom_any B pb st i [] HG.out.good (by have := HG.out.len; have := HG.out.cap; omega) HWi.out (Ins.good_err hi) w1 hBw h)
            have HNx := Lib.hid (fun hz => HG.out.next HWi.out hi hz)
            unfold Ins.val at HI HDo
            generalize doI st i = r at HDo HNx HStep
            clear hi HWl HG HW
            go_wp2_with fail
            refine (HI.out _).mono ?_
            rintro e w3 ⟨rfl, hb3⟩
            have hs3 : B ≤ w3.heap.size := by have := HS.out; have := hb3.size; simp at this; omega
            have HW3 := Lib.hid (HWb.out.to hb3)
            have HB3 := Lib.hid ((HB.out.trans HAl.out).trans (hb3.mono (by have := HBs.out; have := HS.out; simp; omega)))
            obtain ⟨x0, x1, x2, x3, x4, x5, x6⟩ := HFr.out.below hb3 (by simp)
            have HS3 := Lib.hid hs3
            clear hb3 hs3 HWb i0 i1 i2 i3 i4 i5 i6
            go_wp2_with fail
            refine (HDo.out _ HS3.out HW3.out).mono ?_
            rintro e w4 ⟨rfl, hw4, -, hb4⟩
            have hB4 := HB3.out.trans (hb4.mono HBs.out)
            obtain ⟨-, hz, hfr⟩ := HFa.out w4 hB4
            have HB4 := Lib.hid hB4
            have HS4 : Hid (B ≤ w4.heap.size) := Nat.le_trans HS3.out hb4.size
            have HW4 := Lib.hid hw4
            have HZ := Lib.hid (hz.stored bed0 bedP0)
            obtain ⟨z0, z1, z2, z3⟩ := hz
            clear hb4 hw4 hB4 x0 x1 x2 x3 x4 x5 x6 HDo HW3 HB3 HS3
            by_cases hr : r.2 = 0
            case neg =>
              have e1 : (r.2 == 0) = false := by simp [hr]
              have e2 : (r.2 != 0) = true := by simp [hr]
              rw [if_pos hr] at HStep
              have HR := Lib.hid (runOut.zero (r := (bed0, (k : Int), r.2)) (b := w.heap.size + 1) rfl (HBl.out.trans (HB4.out.mono (by omega))) (by omega))
              clear hr
              go_wp2
              exact run_close HZ.out rfl rfl rfl (runOut.of HStep.out HR.out)
            case pos =>
              rw [if_neg (by simpa using hr)] at HStep
              have HN2 := Lib.hid (HNx.out hr)
              have HW5 := Lib.hid (HW4.out hr)
              obtain ⟨t, x⟩ := r
              simp only at hr
              subst hr
              clear HW4 HNx z0 z1 z2 z3 HZ hfr
              go_wp2
              go_roundw
              case rel => exact ⟨k + 1, t, by omega, by go_num, HStep.out, HN2.out, HS4.out, HW5.out, HB4.out⟩
              case measure => simp [intOf]; omega
end Go.Proofs.YtbnddpknejgmhaaGreat
