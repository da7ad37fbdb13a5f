/- The reference's layer 30: On, Feed. BedAsks, walked: On and Feed return what the reference returns. -/
import Derived.Test.YtjoglkamhjcmhaaKPq
import Derived.Test.YtjoglkamhjcmhaaKPk
import Derived.Test.YtjoglkamhjcmhaaKPf
namespace Go.Proofs.Ytjoglkamhjcmhaa
open Go.RowKit Go.Shelf
set_option maxRecDepth 100000

theorem idx_find {α : Type} {pr : α → Bool} : ∀ {l : List α}, (idxE pr l = -1 ∧ l.find? pr = none) ∨ ∃ (k : Nat) (f : α), idxE pr l = (k : Int) ∧ l[k]? = some f ∧ l.find? pr = some f := by
  intro l
  cases h : l.findIdx? pr with
  | none =>
    left
    refine ⟨by rw [idxE, h], ?_⟩
    rw [List.find?_eq_none]
    rw [List.findIdx?_eq_none_iff] at h
    intro x hx
    rw [h x hx]; simp
  | some k =>
    right
    have h2 := List.findIdx?_eq_some_iff_getElem.1 h
    obtain ⟨hk, h3, h4⟩ := h2
    refine ⟨k, l[k], by rw [idxE, h], List.getElem?_eq_getElem hk, ?_⟩
    rw [List.find?_eq_some_iff_getElem]
    exact ⟨h3, k, hk, rfl, fun j hj => by have := h4 j hj; simpa using this⟩
set_option maxHeartbeats 4000000 in
theorem ron_any (s : BedS) (p : BedP) (hwf : s.wf) (hn : s.hooks.length ≤ 9000 ∧ s.feeds.length ≤ 9000 ∧ s.made.length ≤ 9000) (b n : Int) (hb : 0 ≤ b) (w : World) (hs : BedAt w w.heap.size p s) :
    Calls Try.prog 14 #[s.val p, .int .u8 b, .int .i64 n] w fun e w' => onOut s b n w e w' := by
  have HC := Lib.hid (fun (w1 : World) (hb : Below w.heap.size w w1) => rbcheck_any s p hwf ⟨by omega, by omega, by omega⟩ w1 ((hs.below hb).more hb.size))
  have HAl := Lib.hid ((Below.refl w.heap.size w).alloc (Nat.le_refl _) (.cells #[.int .i64 s.rack, .slice p.ah s.hooks.length p.ch, .slice p.af s.feeds.length p.cf, .slice p.am s.made.length p.cm] 26))
  have HCS := Lib.hid (bed_box w s p)
  have HN := Lib.hid (fun w => rat_any n w)
  unfold RetB8 at HC
  by_cases he : bedE s = 0
  case neg =>
    have HF : Hid (onR s b n = ([], bedE s)) := by unfold Hid onR; rw [if_pos he]
    have e2 : (bedE s != 0) = true := by simp [he]
    unfold BedS.val at HC ⊢
    generalize bedE s = x at HC HF e2
    clear hs he
    go_enter Try.func14, Try.ntmps14
    go_upto_region 1 with fail
    obtain ⟨c0, c1, c2, c3⟩ := HCS.out _ (Below.refl _ _)
    go_wp2_with fail
    refine (HC.out _ HAl.out).mono ?_
    rintro e w1 ⟨rfl, hb1⟩
    have HB1 := Lib.hid (HAl.out.trans (hb1.mono (by simp)))
    obtain ⟨d0, d1, d2, d3⟩ := HCS.out w1 (hb1.mono (by simp))
    clear hb1 c0 c1 c2 c3
    go_wp2_with fail
    refine (HC.out _ HB1.out).mono ?_
    rintro e w2 ⟨rfl, hb2⟩
    have HB2 := Lib.hid (HB1.out.trans (hb2.mono HB1.out.size))
    clear hb2
    go_wp2
    go_ret2
    exact onOut.nil HF.out HB2.out
  rw [he] at HC
  by_cases hbn : b ≤ 1 ∧ needleP n
  case neg =>
    have HF : Hid (onR s b n = ([], 2)) := by unfold Hid onR; rw [if_neg (by simpa using he), if_pos hbn]
    unfold BedS.val at HC ⊢
    by_cases hb1 : 1 < b
    · clear hs he hbn
      go_enter Try.func14, Try.ntmps14
      go_upto_region 1 with fail
      obtain ⟨c0, c1, c2, c3⟩ := HCS.out _ (Below.refl _ _)
      go_wp2_with fail
      refine (HC.out _ HAl.out).mono ?_
      rintro e w1 ⟨rfl, hb1⟩
      have HB1 := Lib.hid (HAl.out.trans (hb1.mono (by simp)))
      clear hb1
      go_wp2
      go_ret2
      exact onOut.nil HF.out HB1.out
    · have hnp : ¬ needleP n := fun h => hbn ⟨by omega, h⟩
      rw [decide_eq_false hnp] at HN
      clear hs he hbn hnp
      go_enter Try.func14, Try.ntmps14
      go_upto_region 1 with fail
      obtain ⟨c0, c1, c2, c3⟩ := HCS.out _ (Below.refl _ _)
      go_wp2_with fail
      refine (HC.out _ HAl.out).mono ?_
      rintro e w1 ⟨rfl, hb1⟩
      have HB1 := Lib.hid (HAl.out.trans (hb1.mono (by simp)))
      clear hb1
      go_wp2_with (go_at_call 37; refine (HN.out _).mono ?_; rintro e w2 ⟨rfl, rfl⟩)
      go_ret2
      exact onOut.nil HF.out HB1.out
  case pos =>
    have HF : Hid (onR s b n = (heldAt s.hooks b n, 0)) := by unfold Hid onR; rw [if_neg (by simpa using he), if_neg (by simpa using hbn)]
    have HH := Lib.hid (fun (w1 : World) (hb : Below w.heap.size w w1) => rheld_any s p b n (by omega) (fun h hh => by have := (bed_loops he h hh).2; omega) w1 ((hs.below hb).more hb.size))
    rw [decide_eq_true hbn.2] at HN
    unfold BedS.val at HC HH ⊢
    have hb1 : ¬ 1 < b := by omega
    clear hs he hbn
    go_enter Try.func14, Try.ntmps14
    go_upto_region 1 with fail
    obtain ⟨c0, c1, c2, c3⟩ := HCS.out _ (Below.refl _ _)
    go_wp2_with fail
    refine (HC.out _ HAl.out).mono ?_
    rintro e w1 ⟨rfl, hb1⟩
    have HB1 := Lib.hid (HAl.out.trans (hb1.mono (by simp)))
    obtain ⟨d0, d1, d2, d3⟩ := HCS.out w1 (hb1.mono (by simp))
    clear hb1 c0 c1 c2 c3
    go_wp2_with (go_at_call 37; refine (HN.out _).mono ?_; rintro e w2 ⟨rfl, rfl⟩)
    refine (HH.out _ HB1.out).mono ?_
    rintro e w3 ⟨A, c, rfl, hs3, hb3⟩
    have HS3 := Lib.hid hs3
    have HB3 := Lib.hid (HB1.out.trans (hb3.mono HB1.out.size))
    clear hb3 hs3
    go_wp2
    go_ret2
    exact onOut.mk' HF.out HS3.out HB3.out
theorem rfeed_close {W : World} {tmps : Array Value} {f : Fd} {q : Bool} {x : Int} {b : Nat} {R : Ending → World → Prop} (hF : FdAt W b f) (h4 : tmps[4]?.getD undef = .pointer (some ⟨b, 0, none⟩)) (h5 : tmps[5]?.getD undef = .bool q) (h6 : tmps[6]?.getD undef = .int .i64 x) (hR : R (.returned (.tuple #[f.val, .bool q, .int .i64 x])) W) :
    bodyPost Try.prog Try.f16 R .ret { tmps := tmps, defers := [] } W := by
  obtain ⟨c0, c1, c2⟩ := hF
  refine bodyPost_ret (v := .tuple #[f.val, .bool q, .int .i64 x]) ?_ rfl hR
  simp [results, Try.results16, go_sem, h4, h5, h6, c0, c1, c2, Fd.val]
set_option maxHeartbeats 4000000 in
theorem rfeedq_any (s : BedS) (p : BedP) (hwf : s.wf) (hn : s.hooks.length ≤ 9000 ∧ s.feeds.length ≤ 9000 ∧ s.made.length ≤ 9000) (c : Int) (w : World) (hs : BedAt w w.heap.size p s) :
    Calls Try.prog 16 #[s.val p, .int .i64 c] w fun e w' => feedOut s c w e w' := by
  have HC := Lib.hid (fun (w1 : World) (hb : Below w.heap.size w w1) => rbcheck_any s p hwf ⟨by omega, by omega, by omega⟩ w1 ((hs.below hb).more hb.size))
  have HIn := Lib.hid (fun (w1 : World) (hb : Below w.heap.size w w1) => rin_any s p c (by omega) w1 ((hs.below hb).more hb.size))
  have HN := Lib.hid (fun w => rfeed_any c w)
  have HS := Lib.hid hs
  unfold BedS.val at HC HIn ⊢
  have al : ∀ (W : World) (o : Obj), Below W.heap.size W (W.alloc o) := fun W o => (Below.refl _ W).alloc (Nat.le_refl _) o
  have hb02 : ∀ o o2, Below w.heap.size w ((w.alloc o).alloc o2) := fun o o2 => (al w o).alloc (by simp) o2
  have hfacts : ∀ W, Below (w.heap.size + 2) ((w.alloc (.cells #[.int .i64 s.rack, .slice p.ah s.hooks.length p.ch, .slice p.af s.feeds.length p.cf, .slice p.am s.made.length p.cm] 26)).alloc (.cells #[.int .i64 0, .bool false, .int .i64 0] 35)) W →
      FdAt W (w.heap.size + 1) defF ∧ (∀ k, W.frozen? ⟨w.heap.size + 1, k, none⟩ = false) ∧ W.cell? ⟨w.heap.size, 0, none⟩ = some (.int .i64 s.rack) ∧ W.cell? ⟨w.heap.size, 1, none⟩ = some (.slice p.ah s.hooks.length p.ch) ∧ W.cell? ⟨w.heap.size, 2, none⟩ = some (.slice p.af s.feeds.length p.cf) ∧ W.cell? ⟨w.heap.size, 3, none⟩ = some (.slice p.am s.made.length p.cm) := fun W hb => by
    have hbx : Below (w.heap.size + 1) (w.alloc (.cells #[.int .i64 s.rack, .slice p.ah s.hooks.length p.ch, .slice p.af s.feeds.length p.cf, .slice p.am s.made.length p.cm] 26)) W := ((Below.refl _ _).alloc (by simp) _).trans (hb.mono (by omega))
    refine ⟨⟨(bcell hb (by omega) _).trans (cell_new rfl (by simp) rfl), (bcell hb (by omega) _).trans (cell_new rfl (by simp) rfl), (bcell hb (by omega) _).trans (cell_new rfl (by simp) rfl)⟩, fun k => (Below.frozen hb (p := ⟨w.heap.size + 1, k, none⟩) (by show w.heap.size + 1 < _; omega)).trans (thawed_new' _ _ _ k (by simp)), bed_box w s p W hbx⟩
  have HFa := Lib.hid hfacts
  have HB2 := Lib.hid hb02
  clear hfacts hb02 al hs
  unfold RetB8 at HC
  by_cases he : bedE s = 0
  case neg =>
    have HF : Hid (feedR s c = (defF, false, bedE s)) := by unfold Hid feedR; rw [if_pos he]
    have e2 : (bedE s != 0) = true := by simp [he]
    generalize bedE s = x at HC HF e2
    clear he
    go_enter Try.func16, Try.ntmps16
    go_upto_region 1 with fail
    obtain ⟨hfd, hfr, b0, b1, b2, b3⟩ := HFa.out _ (Below.refl _ _)
    clear hfd hfr
    go_wp2_with fail
    refine (HC.out _ (HB2.out _ _)).mono ?_
    rintro e w1 ⟨rfl, hb1⟩
    obtain ⟨-, -, d0, d1, d2, d3⟩ := HFa.out w1 (hb1.mono (by simp))
    have HB1 := Lib.hid ((HB2.out _ _).trans (hb1.mono (by simp; omega)))
    have HB1' := Lib.hid hb1
    clear hb1 b0 b1 b2 b3
    go_wp2_with fail
    refine (HC.out _ HB1.out).mono ?_
    rintro e w2 ⟨rfl, hb2⟩
    obtain ⟨hfd, hfr, -, -, -, -⟩ := HFa.out w2 (HB1'.out.mono (by simp) |>.trans (hb2.mono (by have := HB1'.out.size; simp at this; omega)))
    have HFd := Lib.hid hfd
    obtain ⟨f0, f1, f2⟩ := hfd
    have HBf := Lib.hid (HB1.out.trans (hb2.mono HB1.out.size))
    clear hb2 d0 d1 d2 d3
    go_wp2
    exact rfeed_close (FdAt.stored (f := defF) HFd.out) rfl rfl rfl (feedOut.mk' HF.out (feed_stores HBf.out (by omega) defF))
  rw [he] at HC
  by_cases hc : carP c
  case neg =>
    have HF : Hid (feedR s c = (defF, false, 2)) := by unfold Hid feedR; rw [if_neg (by simpa using he), if_pos hc]
    rw [decide_eq_false hc] at HN
    clear he hc
    go_enter Try.func16, Try.ntmps16
    go_upto_region 1 with fail
    obtain ⟨hfd, hfr, b0, b1, b2, b3⟩ := HFa.out _ (Below.refl _ _)
    clear hfd hfr
    go_wp2_with fail
    refine (HC.out _ (HB2.out _ _)).mono ?_
    rintro e w1 ⟨rfl, hb1⟩
    obtain ⟨hfd, hfr, -, -, -, -⟩ := HFa.out w1 (hb1.mono (by simp))
    have HFd := Lib.hid hfd
    obtain ⟨f0, f1, f2⟩ := hfd
    have HB1 := Lib.hid ((HB2.out _ _).trans (hb1.mono (by simp; omega)))
    clear hb1 b0 b1 b2 b3
    go_wp2_with (go_at_call 39; refine (HN.out _).mono ?_; rintro e w2 ⟨rfl, rfl⟩)
    exact rfeed_close (FdAt.stored (f := defF) HFd.out) rfl rfl rfl (feedOut.mk' HF.out (feed_stores HB1.out (by omega) defF))
  case pos =>
    have HF : Hid (feedR s c = match feedAt s.feeds c with | some f => (f, true, 0) | none => (defF, false, 0)) := by unfold Hid feedR; rw [if_neg (by simpa using he), if_neg (by simpa using hc)]; cases feedAt s.feeds c <;> rfl
    rw [decide_eq_true hc] at HN
    have hidx := idx_find (pr := fun f : Fd => decide (f.car = c)) (l := s.feeds)
    generalize hgi : idxE (fun f : Fd => decide (f.car = c)) s.feeds = ix at HIn hidx
    clear he hc hgi
    rcases hidx with ⟨rfl, hno⟩ | ⟨k, f, rfl, hk, hfi⟩
    · have HG : Hid (feedR s c = (defF, false, 0)) := by unfold Hid; rw [HF.out]; unfold feedAt; rw [hno]
      clear HF hno
      go_enter Try.func16, Try.ntmps16
      go_upto_region 1 with fail
      obtain ⟨hfd, hfr, b0, b1, b2, b3⟩ := HFa.out _ (Below.refl _ _)
      clear hfd hfr
      go_wp2_with fail
      refine (HC.out _ (HB2.out _ _)).mono ?_
      rintro e w1 ⟨rfl, hb1⟩
      obtain ⟨-, -, d0, d1, d2, d3⟩ := HFa.out w1 (hb1.mono (by simp))
      have HB1 := Lib.hid ((HB2.out _ _).trans (hb1.mono (by simp; omega)))
      have HB1' := Lib.hid hb1
      clear hb1 b0 b1 b2 b3
      go_wp2_with (go_at_call 39; refine (HN.out _).mono ?_; rintro e w2 ⟨rfl, rfl⟩)
      refine (HIn.out _ HB1.out).mono ?_
      rintro e w2 ⟨rfl, hb2⟩
      obtain ⟨hfd, hfr, -, -, -, -⟩ := HFa.out w2 (HB1'.out.mono (by simp) |>.trans (hb2.mono (by have := HB1'.out.size; simp at this; omega)))
      have HFd := Lib.hid hfd
      obtain ⟨f0, f1, f2⟩ := hfd
      have HBf := Lib.hid (HB1.out.trans (hb2.mono HB1.out.size))
      clear hb2 d0 d1 d2 d3
      go_wp2
      exact rfeed_close (FdAt.stored (f := defF) HFd.out) rfl rfl rfl (feedOut.mk' HG.out (feed_stores HBf.out (by omega) defF))
    · have HG : Hid (feedR s c = (f, true, 0)) := by unfold Hid; rw [HF.out]; unfold feedAt; rw [hfi]
      have hlt : k < s.feeds.length := (List.getElem?_eq_some_iff.1 hk).1
      obtain ⟨b, off, f', hA, hB, hr, q0, q1, q2⟩ := HS.out.feeds.at_ hlt
      rw [hk] at hr
      obtain rfl : f = f' := by simpa using hr
      have HQ := Lib.hid (show _ ∧ _ ∧ _ ∧ _ from ⟨hB, q0, q1, q2⟩)
      have HA := Lib.hid hA
      have hk0 : (0 : Int) ≤ (k : Int) := by omega
      have hkn : (k : Int) < (s.feeds.length : Int) := by omega
      clear HF hfi hk hr q0 q1 q2 hA hB
      go_enter Try.func16, Try.ntmps16
      go_upto_region 1 with fail
      obtain ⟨hfd, hfr, b0, b1, b2, b3⟩ := HFa.out _ (Below.refl _ _)
      clear hfd hfr
      go_wp2_with fail
      refine (HC.out _ (HB2.out _ _)).mono ?_
      rintro e w1 ⟨rfl, hb1⟩
      obtain ⟨-, -, d0, d1, d2, d3⟩ := HFa.out w1 (hb1.mono (by simp))
      have HB1 := Lib.hid ((HB2.out _ _).trans (hb1.mono (by simp; omega)))
      have HB1' := Lib.hid hb1
      clear hb1 b0 b1 b2 b3
      go_wp2_with (go_at_call 39; refine (HN.out _).mono ?_; rintro e w2 ⟨rfl, rfl⟩)
      refine (HIn.out _ HB1.out).mono ?_
      rintro e w2 ⟨rfl, hb2⟩
      have HB2' := Lib.hid (HB1'.out.mono (by simp) |>.trans (hb2.mono (by have := HB1'.out.size; simp at this; omega)) : Below (w.heap.size + 2) _ w2)
      have HBf := Lib.hid (HB1.out.trans (hb2.mono HB1.out.size))
      clear hb2 d0 d1 d2 d3 HC HN HB1'
      go_wp2
      have hsz2 : w.heap.size + 2 ≤ w2.drew.heap.size := by have := HB2'.out.size; simp at this; exact this
      have hbd : Below w.heap.size w w2.drew := HBf.out.drew
      have HFw : Hid (∀ w3, Below w2.drew.heap.size w2.drew w3 → Below w.heap.size w w3 ∧ FdAt w3 (w.heap.size + 1) defF ∧ (∀ k, w3.frozen? ⟨w.heap.size + 1, k, none⟩ = false) ∧ w3.cell? ⟨w.heap.size, 0, none⟩ = some (.int .i64 s.rack) ∧ w3.cell? ⟨w.heap.size, 1, none⟩ = some (.slice p.ah s.hooks.length p.ch) ∧ w3.cell? ⟨w.heap.size, 2, none⟩ = some (.slice (some ⟨b, off, none⟩) s.feeds.length p.cf) ∧ w3.cell? ⟨w.heap.size, 3, none⟩ = some (.slice p.am s.made.length p.cm) ∧ w3.cell? ⟨b, off + k * 3, none⟩ = some (.int .i64 f.car) ∧ w3.cell? ⟨b, off + k * 3 + 1, none⟩ = some (.bool f.fresh) ∧ w3.cell? ⟨b, off + k * 3 + 2, none⟩ = some (.int .i64 f.place)) := fun w3 hb3 => by
        obtain ⟨a1, a2, a3, a4, a5, a6⟩ := HFa.out w3 (HB2'.out.drew.trans (hb3.mono hsz2))
        have hb := hbd.trans (hb3.mono hbd.size)
        rw [HA.out] at a5
        exact ⟨hb, a1, a2, a3, a4, a5, a6, (bcell hb HQ.out.1 _).trans HQ.out.2.1, (bcell hb HQ.out.1 _).trans HQ.out.2.2.1, (bcell hb HQ.out.1 _).trans HQ.out.2.2.2⟩
      have hin2 := HIn.out _ hbd
      rw [HA.out] at hin2
      have HIn2 := Lib.hid hin2
      clear HA HFa HB2 HB2' hin2
      obtain ⟨-, -, -, d0, d1, d2, d3, -, -, -⟩ := HFw.out w2.drew (Below.refl _ _)
      clear HIn hbd
      go_region_with (first | (go_at_call 40; refine HIn2.out.mono ?_; rintro e w3 ⟨rfl, hb3⟩; obtain ⟨hbw3, hfd, hfr, e0, e1, e2, e3, g0, g1, g2⟩ := HFw.out w3 hb3; have HFd := Lib.hid hfd; have HBw3 := Lib.hid hbw3; obtain ⟨f0, f1, f2⟩ := hfd; clear hb3 hbw3))
      all_goals
        go_wp2
        exact rfeed_close (FdAt.stored (f := f) HFd.out) rfl rfl rfl (feedOut.mk' HG.out (feed_stores HBw3.out (by omega) f))
end Go.Proofs.Ytjoglkamhjcmhaa
namespace Go.Proofs.Ytjoglkamhjcmhaa
open Go.RowKit Go.Shelf
set_option maxRecDepth 100000

theorem sameInts_any (A A' : Option Addr) (c c' : Nat) (l : List Int) (w : World) (h : SlI w w.heap.size A l) (h' : SlI w w.heap.size A' l) (hn : l.length ≤ 4611686018427387904) :
    Calls Try.prog 17 #[.slice A l.length c, .slice A' l.length c'] w fun e w' => e = .returned (.bool true) ∧ Below w.heap.size w w' := by
  have hne : (((l.length : Nat) : Int) == ((l.length : Nat) : Int)) = true := by simp
  go_enter Try.func17, Try.ntmps17
  go_wp2
  go_loopw [5] (fun i wr => ∃ k : Nat, k ≤ l.length ∧ i = .int .i64 k ∧ Below w.heap.size w wr) (fun i _ => l.length - (intOf i).toNat)
  case atStart => exact ⟨0, Nat.zero_le _, rfl, Below.refl _ _⟩
  case round =>
    obtain ⟨k, hk, rfl, hbw⟩ := hrel
    by_cases hlt : k < l.length
    · obtain ⟨b, off, z, rfl, hB, hz, hc⟩ := h.at_ hlt
      obtain ⟨b', off', z', rfl, hB', hz', hc'⟩ := h'.at_ hlt
      rw [hz] at hz'
      obtain rfl : z = z' := by simpa using hz'
      have h1 := (bcell hbw hB _).trans hc
      have h2 := (bcell hbw hB' _).trans hc'
      clear hc hc' h h' hz hz'
      go_wp2
      go_quiet (fail)
      go_wp2
      go_roundw
      case rel => exact ⟨k + 1, by omega, by go_num, below_drewN hbw _⟩
      case measure => simp [intOf]; omega
    · clear h h'
      go_wp2
      go_ret
      exact ⟨rfl, hbw⟩
theorem eql_fd (W : World) (c : Int) (fr : Bool) (p : Int) : (binOp .eql 35 (.agg #[.int .i64 c, .bool fr, .int .i64 p]) (.agg #[.int .i64 c, .bool fr, .int .i64 p])).run Try.prog W = .ok (.bool true) W := by
  rw [run_eql_struct, show (10000 : Nat) = 9999 + 1 from rfl]
  simp [go_sem]
theorem great_len {s : BedS} (h : greatB s = false) : s.hooks.length ≤ 9000 ∧ s.feeds.length ≤ 9000 ∧ s.made.length ≤ 9000 := by
  unfold greatB at h
  simp only [Bool.or_eq_false_iff, decide_eq_false_iff_not] at h
  omega
theorem onR_len {s : BedS} (b n : Int) : (onR s b n).1.length ≤ 4611686018427387904 := by
  unfold onR
  split
  · simp
  · split
    · simp
    · rename_i he _
      have he' : bedE s = 0 := by simpa using he
      unfold heldAt
      split
      · rename_i h hf
        have := (bed_loops he' h (List.mem_of_find?_eq_some hf)).2
        show h.loops.length ≤ _
        omega
      · simp
set_option maxHeartbeats 4000000 in
theorem bedAsks_walk (s : BedS) (p : BedP) (hwf : s.wf) (b n c : Int) (hb : 0 ≤ b) (w : World) (hs : BedAt w w.heap.size p s) :
    Calls Try.prog 3 #[s.val p, .int .u8 b, .int .i64 n, .int .i64 c] w fun e w' => e = .returned (.bool true) ∧ Below w.heap.size w w' := by
  have HG := Lib.hid (fun w => rgreat_bed s p w)
  have HAl := Lib.hid ((Below.refl w.heap.size w).alloc (Nat.le_refl _) (.cells #[.int .i64 s.rack, .slice p.ah s.hooks.length p.ch, .slice p.af s.feeds.length p.cf, .slice p.am s.made.length p.cm] 26))
  have HCS := Lib.hid (bed_box w s p)
  cases hg : greatB s with
  | true =>
    rw [hg] at HG
    unfold BedS.val at HG ⊢
    clear hs hg
    go_enter Try.func3, Try.ntmps3
    go_upto_region 1 with fail
    obtain ⟨c0, c1, c2, c3⟩ := HCS.out _ (Below.refl _ _)
    go_wp2_with fail
    refine (HG.out _).mono ?_
    rintro e w1 ⟨rfl, hb1⟩
    have HB1 := Lib.hid (HAl.out.trans (hb1.mono (by simp)))
    clear hb1
    go_wp2
    go_ret
    exact ⟨rfl, HB1.out⟩
  | false =>
    rw [hg] at HG
    have hn := great_len hg
    have HO := Lib.hid (fun (w1 : World) (hb1 : Below w.heap.size w w1) => on_any s p hwf hn b n hb w1 ((hs.below hb1).more hb1.size))
    have HRO := Lib.hid (fun (w1 : World) (hb1 : Below w.heap.size w w1) => ron_any s p hwf hn b n hb w1 ((hs.below hb1).more hb1.size))
    have HFe := Lib.hid (fun (w1 : World) (hb1 : Below w.heap.size w w1) => feed_any s p hwf ⟨by omega, by omega, by omega⟩ c w1 ((hs.below hb1).more hb1.size))
    have HRF := Lib.hid (fun (w1 : World) (hb1 : Below w.heap.size w w1) => rfeedq_any s p hwf hn c w1 ((hs.below hb1).more hb1.size))
    have HL := Lib.hid (onR_len (s := s) b n)
    unfold BedS.val at HG HO HRO HFe HRF ⊢
    unfold onOut at HO HRO
    unfold feedOut at HFe HRF
    generalize onR s b n = r at HO HRO HL
    generalize feedR s c = r2 at HFe HRF
    obtain ⟨l, x⟩ := r
    obtain ⟨f, q, y⟩ := r2
    obtain ⟨fc, ff, fp⟩ := f
    simp only [Fd.val] at HFe HRF
    have hxx : (x == x) = true := by simp
    have hyy : (y == y) = true := by simp
    have hqq : (q == q) = true := by simp
    have hef := fun W => eql_fd W fc ff fp
    clear hs hg hn hwf
    go_enter Try.func3, Try.ntmps3
    go_upto_region 1 with fail
    obtain ⟨c0, c1, c2, c3⟩ := HCS.out _ (Below.refl _ _)
    go_wp2_with fail
    refine (HG.out _).mono ?_
    rintro e w1 ⟨rfl, hb1⟩
    have HB1 := Lib.hid (HAl.out.trans (hb1.mono (by simp)))
    have HC1 := Lib.hid (hb1.mono (by simp) : Below (w.heap.size + 1) _ w1)
    obtain ⟨c0, c1, c2, c3⟩ := HCS.out w1 HC1.out
    clear hb1
    go_wp2_with fail
    refine (HO.out _ HB1.out).mono ?_
    rintro e w2 ⟨A1, k1, rfl, hs2, hb2⟩
    have HS2 := Lib.hid hs2
    have HB2 := Lib.hid (HB1.out.trans (hb2.mono HB1.out.size))
    have HC2 := Lib.hid (HC1.out.trans (hb2.mono (by have := HC1.out.size; simp at this; exact this)))
    obtain ⟨c0, c1, c2, c3⟩ := HCS.out w2 HC2.out
    clear hb2 hs2
    go_wp2_with fail
    refine (HRO.out _ HB2.out).mono ?_
    rintro e w3 ⟨A2, k2, rfl, hs3, hb3⟩
    have HS3 := Lib.hid hs3
    have HS2' := Lib.hid ((HS2.out.below hb3).more hb3.size)
    have HB3 := Lib.hid (HB2.out.trans (hb3.mono HB2.out.size))
    have HC3 := Lib.hid (HC2.out.trans (hb3.mono (by have := HC2.out.size; simp at this; exact this)))
    obtain ⟨c0, c1, c2, c3⟩ := HCS.out w3 HC3.out
    clear hb3 hs3 HS2
    go_wp2_with fail
    refine (HFe.out _ HB3.out).mono ?_
    rintro e w4 ⟨rfl, hb4⟩
    have HB4 := Lib.hid (HB3.out.trans (hb4.mono HB3.out.size))
    have HC4 := Lib.hid (HC3.out.trans (hb4.mono (by have := HC3.out.size; simp at this; exact this)))
    have HS4 := Lib.hid (show _ ∧ _ from ⟨(HS2'.out.below hb4).more hb4.size, (HS3.out.below hb4).more hb4.size⟩)
    obtain ⟨c0, c1, c2, c3⟩ := HCS.out w4 HC4.out
    clear hb4 HS2' HS3
    have hbl : w.heap.size < w4.heap.size := lt_of_cell c0
    have al : ∀ (W : World) (o : Obj), Below W.heap.size W (W.alloc o) := fun W o => (Below.refl _ W).alloc (Nat.le_refl _) o
    have HAL := Lib.hid al
    clear al
    go_wp2_with fail
    refine (HRF.out _ (HB4.out.alloc HB4.out.size _)).mono ?_
    rintro e w5 ⟨rfl, hb5⟩
    have y0 : w5.cell? ⟨w4.heap.size, 0, none⟩ = some (.int .i64 fc) := (bcell hb5 (by simp) _).trans (cell_new rfl rfl rfl)
    have y1 : w5.cell? ⟨w4.heap.size, 1, none⟩ = some (.bool ff) := (bcell hb5 (by simp) _).trans (cell_new rfl rfl rfl)
    have y2 : w5.cell? ⟨w4.heap.size, 2, none⟩ = some (.int .i64 fp) := (bcell hb5 (by simp) _).trans (cell_new rfl rfl rfl)
    have hb45 : Below w4.heap.size w4 w5 := (HAL.out w4 _).trans (hb5.mono (by simp))
    have HB5 := Lib.hid (HB4.out.trans (hb45.mono HB4.out.size))
    have HS5 := Lib.hid (show _ ∧ _ from ⟨(HS4.out.1.below hb45).more hb45.size, (HS4.out.2.below hb45).more hb45.size⟩)
    have HY := Lib.hid (show _ ∧ _ ∧ _ from ⟨y0, y1, y2⟩)
    have hl4 := lt_of_cell y0
    clear hb5 hb45 HS4 c0 c1 c2 c3
    go_wp2_with fail
    have hal5 := HAL.out w5 (.cells #[.int .i64 fc, .bool ff, .int .i64 fp] 35)
    refine (sameInts_any A1 A2 k1 k2 l _ ((HS5.out.1.below hal5).more hal5.size) ((HS5.out.2.below hal5).more hal5.size) HL.out).mono ?_
    rintro e w6 ⟨rfl, hb6⟩
    have z0 : w6.cell? ⟨w5.heap.size, 0, none⟩ = some (.int .i64 fc) := (bcell hb6 (by simp) _).trans (cell_new rfl rfl rfl)
    have z1 : w6.cell? ⟨w5.heap.size, 1, none⟩ = some (.bool ff) := (bcell hb6 (by simp) _).trans (cell_new rfl rfl rfl)
    have z2 : w6.cell? ⟨w5.heap.size, 2, none⟩ = some (.int .i64 fp) := (bcell hb6 (by simp) _).trans (cell_new rfl rfl rfl)
    have hb56 : Below w5.heap.size w5 w6 := hal5.trans (hb6.mono (by simp))
    have u0 : w6.cell? ⟨w4.heap.size, 0, none⟩ = some (.int .i64 fc) := (bcell hb56 hl4 _).trans HY.out.1
    have u1 : w6.cell? ⟨w4.heap.size, 1, none⟩ = some (.bool ff) := (bcell hb56 hl4 _).trans HY.out.2.1
    have u2 : w6.cell? ⟨w4.heap.size, 2, none⟩ = some (.int .i64 fp) := (bcell hb56 hl4 _).trans HY.out.2.2
    have HB6 := Lib.hid (HB5.out.trans (hb56.mono HB5.out.size))
    clear hb6 hb56 hal5 y0 y1 y2 HY HS5
    go_wp2
    go_ret
    exact ⟨rfl, HB6.out⟩
end Go.Proofs.Ytjoglkamhjcmhaa
