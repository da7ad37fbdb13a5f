/- The reference's layer 30: On, Feed. -/
import Derived.Test.YtjoglkamhjcmhaaBr3
import Derived.Test.YtjoglkamhjcmhaaOn
import Derived.Test.YtjoglkamhjcmhaaBr1
namespace Go.Proofs.Ytjoglkamhjcmhaa
open Go.RowKit Go.Shelf
set_option maxRecDepth 100000

theorem idx_find {α : Type} {pr : α → Bool} : ∀ {l : List α}, (idxE pr l = -1 ∧ l.find? pr = none) ∨ ∃ (k : Nat) (f : α), idxE pr l = (k : Int) ∧ l[k]? = some f ∧ l.find? pr = some f := by
  intro l
  cases h : l.findIdx? pr with
  | none =>
    left
    refine ⟨by rw [idxE, h], ?_⟩
    rw [List.find?_eq_none]
    rw [List.findIdx?_eq_none_iff] at h
    intro x hx
    rw [h x hx]; simp
  | some k =>
    right
    have h2 := List.findIdx?_eq_some_iff_getElem.1 h
    obtain ⟨hk, h3, h4⟩ := h2
    refine ⟨k, l[k], by rw [idxE, h], List.getElem?_eq_getElem hk, ?_⟩
    rw [List.find?_eq_some_iff_getElem]
    exact ⟨h3, k, hk, rfl, fun j hj => by have := h4 j hj; simpa using this⟩
set_option maxHeartbeats 4000000 in
theorem ron_any (s : BedS) (p : BedP) (hwf : s.wf) (hn : s.hooks.length ≤ 9000 ∧ s.feeds.length ≤ 9000 ∧ s.made.length ≤ 9000) (b n : Int) (hb : 0 ≤ b) (w : World) (hs : BedAt w w.heap.size p s) :
    Calls Try.prog 14 #[s.val p, .int .u8 b, .int .i64 n] w fun e w' => onOut s b n w e w' := by
  have HC := Lib.hid (fun (w1 : World) (hb : Below w.heap.size w w1) => rbcheck_any s p hwf ⟨by omega, by omega, by omega⟩ w1 ((hs.below hb).more hb.size))
  have HAl := Lib.hid ((Below.refl w.heap.size w).alloc (Nat.le_refl _) (.cells #[.int .i64 s.rack, .slice p.ah s.hooks.length p.ch, .slice p.af s.feeds.length p.cf, .slice p.am s.made.length p.cm] 26))
  have HCS := Lib.hid (bed_box w s p)
  have HN := Lib.hid (fun w => rat_any n w)
  unfold RetB8 at HC
  by_cases he : bedE s = 0
  case neg =>
    have HF : Hid (onR s b n = ([], bedE s)) := by unfold Hid onR; rw [if_pos he]
    have e2 : (bedE s != 0) = true := by simp [he]
    unfold BedS.val at HC ⊢
    generalize bedE s = x at HC HF e2
    clear hs he
    go_enter Try.func14, Try.ntmps14
    go_upto_region 1 with fail
    obtain ⟨c0, c1, c2, c3⟩ := HCS.out _ (Below.refl _ _)
    go_wp2_with fail
    refine (HC.out _ HAl.out).mono ?_
    rintro e w1 ⟨rfl, hb1⟩
    have HB1 := Lib.hid (HAl.out.trans (hb1.mono (by simp)))
    obtain ⟨d0, d1, d2, d3⟩ := HCS.out w1 (hb1.mono (by simp))
    clear hb1 c0 c1 c2 c3
    go_wp2_with fail
    refine (HC.out _ HB1.out).mono ?_
    rintro e w2 ⟨rfl, hb2⟩
    have HB2 := Lib.hid (HB1.out.trans (hb2.mono HB1.out.size))
    clear hb2
    go_wp2
    go_ret2
    exact onOut.nil HF.out HB2.out
  rw [he] at HC
  by_cases hbn : b ≤ 1 ∧ needleP n
  case neg =>
    have HF : Hid (onR s b n = ([], 2)) := by unfold Hid onR; rw [if_neg (by simpa using he), if_pos hbn]
    unfold BedS.val at HC ⊢
    by_cases hb1 : 1 < b
    · clear hs he hbn
      go_enter Try.func14, Try.ntmps14
      go_upto_region 1 with fail
      obtain ⟨c0, c1, c2, c3⟩ := HCS.out _ (Below.refl _ _)
      go_wp2_with fail
      refine (HC.out _ HAl.out).mono ?_
      rintro e w1 ⟨rfl, hb1⟩
      have HB1 := Lib.hid (HAl.out.trans (hb1.mono (by simp)))
      clear hb1
      go_wp2
      go_ret2
      exact onOut.nil HF.out HB1.out
    · have hnp : ¬ needleP n := fun h => hbn ⟨by omega, h⟩
      rw [decide_eq_false hnp] at HN
      clear hs he hbn hnp
      go_enter Try.func14, Try.ntmps14
      go_upto_region 1 with fail
      obtain ⟨c0, c1, c2, c3⟩ := HCS.out _ (Below.refl _ _)
      go_wp2_with fail
      refine (HC.out _ HAl.out).mono ?_
      rintro e w1 ⟨rfl, hb1⟩
      have HB1 := Lib.hid (HAl.out.trans (hb1.mono (by simp)))
      clear hb1
      go_wp2_with (go_at_call 37; refine (HN.out _).mono ?_; rintro e w2 ⟨rfl, rfl⟩)
      go_ret2
      exact onOut.nil HF.out HB1.out
  case pos =>
    have HF : Hid (onR s b n = (heldAt s.hooks b n, 0)) := by unfold Hid onR; rw [if_neg (by simpa using he), if_neg (by simpa using hbn)]
    have HH := Lib.hid (fun (w1 : World) (hb : Below w.heap.size w w1) => rheld_any s p b n (by omega) (fun h hh => by have := (bed_loops he h hh).2; omega) w1 ((hs.below hb).more hb.size))
    rw [decide_eq_true hbn.2] at HN
    unfold BedS.val at HC HH ⊢
    have hb1 : ¬ 1 < b := by omega
    clear hs he hbn
    go_enter Try.func14, Try.ntmps14
    go_upto_region 1 with fail
    obtain ⟨c0, c1, c2, c3⟩ := HCS.out _ (Below.refl _ _)
    go_wp2_with fail
    refine (HC.out _ HAl.out).mono ?_
    rintro e w1 ⟨rfl, hb1⟩
    have HB1 := Lib.hid (HAl.out.trans (hb1.mono (by simp)))
    obtain ⟨d0, d1, d2, d3⟩ := HCS.out w1 (hb1.mono (by simp))
    clear hb1 c0 c1 c2 c3
    go_wp2_with (go_at_call 37; refine (HN.out _).mono ?_; rintro e w2 ⟨rfl, rfl⟩)
    refine (HH.out _ HB1.out).mono ?_
    rintro e w3 ⟨A, c, rfl, hs3, hb3⟩
    have HS3 := Lib.hid hs3
    have HB3 := Lib.hid (HB1.out.trans (hb3.mono HB1.out.size))
    clear hb3 hs3
    go_wp2
    go_ret2
    exact onOut.mk' HF.out HS3.out HB3.out
theorem rfeed_close {W : World} {tmps : Array Value} {f : Fd} {q : Bool} {x : Int} {b : Nat} {R : Ending → World → Prop} (hF : FdAt W b f) (h4 : tmps[4]?.getD undef = .pointer (some ⟨b, 0, none⟩)) (h5 : tmps[5]?.getD undef = .bool q) (h6 : tmps[6]?.getD undef = .int .i64 x) (hR : R (.returned (.tuple #[f.val, .bool q, .int .i64 x])) W) :
    bodyPost Try.prog Try.f16 R .ret { tmps := tmps, defers := [] } W := by
  obtain ⟨c0, c1, c2⟩ := hF
  refine bodyPost_ret (v := .tuple #[f.val, .bool q, .int .i64 x]) ?_ rfl hR
  simp [results, Try.results16, go_sem, h4, h5, h6, c0, c1, c2, Fd.val]
set_option maxHeartbeats 4000000 in
theorem rfeedq_any (s : BedS) (p : BedP) (hwf : s.wf) (hn : s.hooks.length ≤ 9000 ∧ s.feeds.length ≤ 9000 ∧ s.made.length ≤ 9000) (c : Int) (w : World) (hs : BedAt w w.heap.size p s) :
    Calls Try.prog 16 #[s.val p, .int .i64 c] w fun e w' => feedOut s c w e w' := by
  have HC := Lib.hid (fun (w1 : World) (hb : Below w.heap.size w w1) => rbcheck_any s p hwf ⟨by omega, by omega, by omega⟩ w1 ((hs.below hb).more hb.size))
  have HIn := Lib.hid (fun (w1 : World) (hb : Below w.heap.size w w1) => rin_any s p c (by omega) w1 ((hs.below hb).more hb.size))
  have HN := Lib.hid (fun w => rfeed_any c w)
  have HS := Lib.hid hs
  unfold BedS.val at HC HIn ⊢
  have al : ∀ (W : World) (o : Obj), Below W.heap.size W (W.alloc o) := fun W o => (Below.refl _ W).alloc (Nat.le_refl _) o
  have hb02 : ∀ o o2, Below w.heap.size w ((w.alloc o).alloc o2) := fun o o2 => (al w o).alloc (by simp) o2
  have hfacts : ∀ W, Below (w.heap.size + 2) ((w.alloc (.cells #[.int .i64 s.rack, .slice p.ah s.hooks.length p.ch, .slice p.af s.feeds.length p.cf, .slice p.am s.made.length p.cm] 26)).alloc (.cells #[.int .i64 0, .bool false, .int .i64 0] 35)) W →
      FdAt W (w.heap.size + 1) defF ∧ (∀ k, W.frozen? ⟨w.heap.size + 1, k, none⟩ = false) ∧ W.cell? ⟨w.heap.size, 0, none⟩ = some (.int .i64 s.rack) ∧ W.cell? ⟨w.heap.size, 1, none⟩ = some (.slice p.ah s.hooks.length p.ch) ∧ W.cell? ⟨w.heap.size, 2, none⟩ = some (.slice p.af s.feeds.length p.cf) ∧ W.cell? ⟨w.heap.size, 3, none⟩ = some (.slice p.am s.made.length p.cm) := fun W hb => by
    have hbx : Below (w.heap.size + 1) (w.alloc (.cells #[.int .i64 s.rack, .slice p.ah s.hooks.length p.ch, .slice p.af s.feeds.length p.cf, .slice p.am s.made.length p.cm] 26)) W := ((Below.refl _ _).alloc (by simp) _).trans (hb.mono (by omega))
    refine ⟨⟨(bcell hb (by omega) _).trans (cell_new rfl (by simp) rfl), (bcell hb (by omega) _).trans (cell_new rfl (by simp) rfl), (bcell hb (by omega) _).trans (cell_new rfl (by simp) rfl)⟩, fun k => (Below.frozen hb (p := ⟨w.heap.size + 1, k, none⟩) (by show w.heap.size + 1 < _; omega)).trans (thawed_new' _ _ _ k (by simp)), bed_box w s p W hbx⟩
  have HFa := Lib.hid hfacts
  have HB2 := Lib.hid hb02
  clear hfacts hb02 al hs
  unfold RetB8 at HC
  by_cases he : bedE s = 0
  case neg =>
    have HF : Hid (feedR s c = (defF, false, bedE s)) := by unfold Hid feedR; rw [if_pos he]
    have e2 : (bedE s != 0) = true := by simp [he]
    generalize bedE s = x at HC HF e2
    clear he
    go_enter Try.func16, Try.ntmps16
    go_upto_region 1 with fail
    obtain ⟨hfd, hfr, b0, b1, b2, b3⟩ := HFa.out _ (Below.refl _ _)
    clear hfd hfr
    go_wp2_with fail
    refine (HC.out _ (HB2.out _ _)).mono ?_
    rintro e w1 ⟨rfl, hb1⟩
    obtain ⟨-, -, d0, d1, d2, d3⟩ := HFa.out w1 (hb1.mono (by simp))
    have HB1 := Lib.hid ((HB2.out _ _).trans (hb1.mono (by simp; omega)))
    have HB1' := Lib.hid hb1
    clear hb1 b0 b1 b2 b3
    go_wp2_with fail
    refine (HC.out _ HB1.out).mono ?_
    rintro e w2 ⟨rfl, hb2⟩
    obtain ⟨hfd, hfr, -, -, -, -⟩ := HFa.out w2 (HB1'.out.mono (by simp) |>.trans (hb2.mono (by have := HB1'.out.size; simp at this; omega)))
    have HFd := Lib.hid hfd
    obtain ⟨f0, f1, f2⟩ := hfd
    have HBf := Lib.hid (HB1.out.trans (hb2.mono HB1.out.size))
    clear hb2 d0 d1 d2 d3
    go_wp2
    exact rfeed_close (FdAt.stored (f := defF) HFd.out) rfl rfl rfl (feedOut.mk' HF.out (feed_stores HBf.out (by omega) defF))
  rw [he] at HC
  by_cases hc : carP c
  case neg =>
    have HF : Hid (feedR s c = (defF, false, 2)) := by unfold Hid feedR; rw [if_neg (by simpa using he), if_pos hc]
    rw [decide_eq_false hc] at HN
    clear he hc
    go_enter Try.func16, Try.ntmps16
    go_upto_region 1 with fail
    obtain ⟨hfd, hfr, b0, b1, b2, b3⟩ := HFa.out _ (Below.refl _ _)
    clear hfd hfr
    go_wp2_with fail
    refine (HC.out _ (HB2.out _ _)).mono ?_
    rintro e w1 ⟨rfl, hb1⟩
    obtain ⟨hfd, hfr, -, -, -, -⟩ := HFa.out w1 (hb1.mono (by simp))
    have HFd := Lib.hid hfd
    obtain ⟨f0, f1, f2⟩ := hfd
    have HB1 := Lib.hid ((HB2.out _ _).trans (hb1.mono (by simp; omega)))
    clear hb1 b0 b1 b2 b3
    go_wp2_with (go_at_call 39; refine (HN.out _).mono ?_; rintro e w2 ⟨rfl, rfl⟩)
    exact rfeed_close (FdAt.stored (f := defF) HFd.out) rfl rfl rfl (feedOut.mk' HF.out (feed_stores HB1.out (by omega) defF))
  case pos =>
    have HF : Hid (feedR s c = match feedAt s.feeds c with | some f => (f, true, 0) | none => (defF, false, 0)) := by unfold Hid feedR; rw [if_neg (by simpa using he), if_neg (by simpa using hc)]; cases feedAt s.feeds c <;> rfl
    rw [decide_eq_true hc] at HN
    have hidx := idx_find (pr := fun f : Fd => decide (f.car = c)) (l := s.feeds)
    generalize hgi : idxE (fun f : Fd => decide (f.car = c)) s.feeds = ix at HIn hidx
    clear he hc hgi
    rcases hidx with ⟨rfl, hno⟩ | ⟨k, f, rfl, hk, hfi⟩
    · have HG : Hid (feedR s c = (defF, false, 0)) := by unfold Hid; rw [HF.out]; unfold feedAt; rw [hno]
      clear HF hno
      go_enter Try.func16, Try.ntmps16
      go_upto_region 1 with fail
      obtain ⟨hfd, hfr, b0, b1, b2, b3⟩ := HFa.out _ (Below.refl _ _)
      clear hfd hfr
      go_wp2_with fail
      refine (HC.out _ (HB2.out _ _)).mono ?_
      rintro e w1 ⟨rfl, hb1⟩
      obtain ⟨-, -, d0, d1, d2, d3⟩ := HFa.out w1 (hb1.mono (by simp))
      have HB1 := Lib.hid ((HB2.out _ _).trans (hb1.mono (by simp; omega)))
      have HB1' := Lib.hid hb1
      clear hb1 b0 b1 b2 b3
      go_wp2_with (go_at_call 39; refine (HN.out _).mono ?_; rintro e w2 ⟨rfl, rfl⟩)
      refine (HIn.out _ HB1.out).mono ?_
      rintro e w2 ⟨rfl, hb2⟩
      obtain ⟨hfd, hfr, -, -, -, -⟩ := HFa.out w2 (HB1'.out.mono (by simp) |>.trans (hb2.mono (by have := HB1'.out.size; simp at this; omega)))
      have HFd := Lib.hid hfd
      obtain ⟨f0, f1, f2⟩ := hfd
      have HBf := Lib.hid (HB1.out.trans (hb2.mono HB1.out.size))
      clear hb2 d0 d1 d2 d3
      go_wp2
      exact rfeed_close (FdAt.stored (f := defF) HFd.out) rfl rfl rfl (feedOut.mk' HG.out (feed_stores HBf.out (by omega) defF))
    · have HG : Hid (feedR s c = (f, true, 0)) := by unfold Hid; rw [HF.out]; unfold feedAt; rw [hfi]
      have hlt : k < s.feeds.length := (List.getElem?_eq_some_iff.1 hk).1
      obtain ⟨b, off, f', hA, hB, hr, q0, q1, q2⟩ := HS.out.feeds.at_ hlt
      rw [hk] at hr
      obtain rfl : f = f' := by simpa using hr
      have HQ := Lib.hid (show _ ∧ _ ∧ _ ∧ _ from ⟨hB, q0, q1, q2⟩)
      have HA := Lib.hid hA
      have hk0 : (0 : Int) ≤ (k : Int) := by omega
      have hkn : (k : Int) < (s.feeds.length : Int) := by omega
      clear HF hfi hk hr q0 q1 q2 hA hB
      go_enter Try.func16, Try.ntmps16
      go_upto_region 1 with fail
      obtain ⟨hfd, hfr, b0, b1, b2, b3⟩ := HFa.out _ (Below.refl _ _)
      clear hfd hfr
      go_wp2_with fail
      refine (HC.out _ (HB2.out _ _)).mono ?_
      rintro e w1 ⟨rfl, hb1⟩
      obtain ⟨-, -, d0, d1, d2, d3⟩ := HFa.out w1 (hb1.mono (by simp))
      have HB1 := Lib.hid ((HB2.out _ _).trans (hb1.mono (by simp; omega)))
      have HB1' := Lib.hid hb1
      clear hb1 b0 b1 b2 b3
      go_wp2_with (go_at_call 39; refine (HN.out _).mono ?_; rintro e w2 ⟨rfl, rfl⟩)
      refine (HIn.out _ HB1.out).mono ?_
      rintro e w2 ⟨rfl, hb2⟩
      have HB2' := Lib.hid (HB1'.out.mono (by simp) |>.trans (hb2.mono (by have := HB1'.out.size; simp at this; omega)) : Below (w.heap.size + 2) _ w2)
      have HBf := Lib.hid (HB1.out.trans (hb2.mono HB1.out.size))
      clear hb2 d0 d1 d2 d3 HC HN HB1'
      go_wp2
      have hsz2 : w.heap.size + 2 ≤ w2.drew.heap.size := by have := HB2'.out.size; simp at this; exact this
      have hbd : Below w.heap.size w w2.drew := HBf.out.drew
      have HFw : Hid (∀ w3, Below w2.drew.heap.size w2.drew w3 → Below w.heap.size w w3 ∧ FdAt w3 (w.heap.size + 1) defF ∧ (∀ k, w3.frozen? ⟨w.heap.size + 1, k, none⟩ = false) ∧ w3.cell? ⟨w.heap.size, 0, none⟩ = some (.int .i64 s.rack) ∧ w3.cell? ⟨w.heap.size, 1, none⟩ = some (.slice p.ah s.hooks.length p.ch) ∧ w3.cell? ⟨w.heap.size, 2, none⟩ = some (.slice (some ⟨b, off, none⟩) s.feeds.length p.cf) ∧ w3.cell? ⟨w.heap.size, 3, none⟩ = some (.slice p.am s.made.length p.cm) ∧ w3.cell? ⟨b, off + k * 3, none⟩ = some (.int .i64 f.car) ∧ w3.cell? ⟨b, off + k * 3 + 1, none⟩ = some (.bool f.fresh) ∧ w3.cell? ⟨b, off + k * 3 + 2, none⟩ = some (.int .i64 f.place)) := fun w3 hb3 => by
        obtain ⟨a1, a2, a3, a4, a5, a6⟩ := HFa.out w3 (HB2'.out.drew.trans (hb3.mono hsz2))
        have hb := hbd.trans (hb3.mono hbd.size)
        rw [HA.out] at a5
        exact ⟨hb, a1, a2, a3, a4, a5, a6, (bcell hb HQ.out.1 _).trans HQ.out.2.1, (bcell hb HQ.out.1 _).trans HQ.out.2.2.1, (bcell hb HQ.out.1 _).trans HQ.out.2.2.2⟩
      have hin2 := HIn.out _ hbd
      rw [HA.out] at hin2
      have HIn2 := Lib.hid hin2
      clear HA HFa HB2 HB2' hin2
      obtain ⟨-, -, -, d0, d1, d2, d3, -, -, -⟩ := HFw.out w2.drew (Below.refl _ _)
      clear HIn hbd
      go_region_with (first | (go_at_call 40; refine HIn2.out.mono ?_; rintro e w3 ⟨rfl, hb3⟩; obtain ⟨hbw3, hfd, hfr, e0, e1, e2, e3, g0, g1, g2⟩ := HFw.out w3 hb3; have HFd := Lib.hid hfd; have HBw3 := Lib.hid hbw3; obtain ⟨f0, f1, f2⟩ := hfd; clear hb3 hbw3))
      all_goals
        go_wp2
        exact rfeed_close (FdAt.stored (f := f) HFd.out) rfl rfl rfl (feedOut.mk' HG.out (feed_stores HBw3.out (by omega) f))
end Go.Proofs.Ytjoglkamhjcmhaa
