/- The reference's pass, plain: the carrier that is found, and its place in the list. The reference: pass lets a carrier pass a needle. -/
import Derived.Test.YthedmiilkeclaaaGreatKRmov
namespace Go.Proofs.YthedmiilkeclaaaGreat
open Go.RowKit
set_option maxRecDepth 100000

theorem idx_feed {l : List Fd} (hr : risB ltF l = true) (c : Int) :
    (idxE (fun f : Fd => decide (f.car = c)) l = -1 ∧ feedAt l c = none) ∨
    ∃ (k : Nat) (f : Fd), idxE (fun f : Fd => decide (f.car = c)) l = (k : Int) ∧ l[k]? = some f ∧ feedAt l c = some f ∧ f.car = c ∧ ∀ x : Fd, setF (keyF c) [x] l = l.take k ++ x :: l.drop (k + 1) := by
  cases hf : l.findIdx? (fun f : Fd => decide (f.car = c)) with
  | none =>
    refine Or.inl ⟨by unfold idxE; rw [hf], ?_⟩
    unfold feedAt
    rw [List.find?_eq_none]
    intro x hx
    have := List.findIdx?_eq_none_iff.1 hf x hx
    simp [this]
  | some k =>
    obtain ⟨hk, h1, h2⟩ := List.findIdx?_eq_some_iff_getElem.1 hf
    have hc : l[k].car = c := of_decide_eq_true h1
    have hp := List.pairwise_iff_getElem.1 (ris_pair ltF_tr hr)
    refine Or.inr ⟨k, l[k], by unfold idxE; rw [hf], List.getElem?_eq_getElem hk, ?_, hc, fun x => ?_⟩
    · unfold feedAt
      rw [List.find?_eq_some_iff_getElem]
      exact ⟨h1, k, hk, rfl, fun j hj => by have := h2 j hj; simpa using this⟩
    · have e : l = l.take k ++ l[k] :: l.drop (k + 1) := by
        rw [← List.drop_eq_getElem_cons hk, List.take_append_drop]
      have hlo : ∀ y ∈ l.take k, keyF c y < 0 := fun y hy => by
        obtain ⟨j, hj, hy⟩ := mem_take_at hy
        obtain ⟨hjl, rfl⟩ := List.getElem?_eq_some_iff.1 hy
        have := of_decide_eq_true (hp j k hjl hk hj)
        unfold keyF
        omega
      have hhi : ∀ y ∈ l.drop (k + 1), 0 < keyF c y := fun y hy => by
        obtain ⟨j, hj, hy⟩ := mem_drop_at hy
        obtain ⟨hjl, rfl⟩ := List.getElem?_eq_some_iff.1 hy
        have := of_decide_eq_true (hp k j hk hjl (by omega))
        unfold keyF
        omega
      have hz : keyF c l[k] = 0 := by unfold keyF; omega
      have e1 : loF (keyF c) l = l.take k := by
        conv => lhs; rw [e]
        rw [loF_app, loF_all hlo, loF_none (fun y hy => by
          rcases List.mem_cons.1 hy with rfl | hy
          · omega
          · have := hhi y hy; omega), List.append_nil]
      have e2 : hiF (keyF c) l = l.drop (k + 1) := by
        conv => lhs; rw [e]
        have e3 : hiF (keyF c) (l[k] :: l.drop (k + 1)) = hiF (keyF c) (l.drop (k + 1)) := by unfold hiF; rw [List.filter_cons, if_neg (by simp; omega)]
        rw [hiF_app, hiF_none (fun y hy => by have := hlo y hy; omega), List.nil_append, e3, hiF_all hhi]
      unfold setF
      rw [e1, e2]
      rfl
/-- The reference's test is the program's. -/
theorem pass_test (right : Bool) (c2 place : Int) (i : Ins) (hi : i.right = right) : (wayI i * (c2 - place) ≤ 0) ↔ ((right = true ∧ c2 ≤ place) ∨ (right = false ∧ place ≤ c2)) := by
  unfold wayI
  rw [hi]
  cases right <;> simp <;> omega
end Go.Proofs.YthedmiilkeclaaaGreat
namespace Go.Proofs.YthedmiilkeclaaaGreat
open Go.RowKit Go.Shelf Go.Sort
set_option maxRecDepth 100000

theorem limb5 {P0 P1 P2 P3 P4 Q : Prop} (h : P0 ∧ P1 ∧ P2 ∧ P3 ∧ P4 ∧ Q) : Q := h.2.2.2.2.2
theorem limb6 {P0 P1 P2 P3 P4 P5 Q : Prop} (h : P0 ∧ P1 ∧ P2 ∧ P3 ∧ P4 ∧ P5 ∧ Q) : Q := h.2.2.2.2.2.2
/-- The state behind the pointer, as a value that is read in a later world. -/
theorem WorkAt.bedAt {T : TypeId} {w W : World} {B pb : Nat} {s : BedS} {hv : List (Hk × Value)} {mv : List (Mk × Value)} {p : BedP} {X : List Own} (h : WorkAt T w B pb s hv mv (.slice p.ah s.hooks.length p.ch) (.slice p.af s.feeds.length p.cf) (.slice p.am s.made.length p.cm) X) (hb : Below w.heap.size w W) : BedAt W W.heap.size p s := by
  obtain ⟨p', e1, e2, e3, hbb⟩ := (h.to hb).bed
  have hpp : p = p' := by
    cases p; cases p'
    simp only [Value.slice.injEq, true_and] at e1 e2 e3
    simp_all
  rw [hpp]; exact hbb
theorem colI_le {s : BedS} (hr : -8 ≤ s.rack ∧ s.rack ≤ 8) {b n : Int} (hb : 0 ≤ b ∧ b ≤ 1) (ha : needleP n) : -108 ≤ colI s.rack b n ∧ colI s.rack b n ≤ 108 := by
  unfold colI
  unfold needleP at ha
  have hb2 : b = 0 ∨ b = 1 := by omega
  rcases hb2 with h | h <;> rw [h] <;> omega
/-- A carrier's place is stored. -/
theorem WorkAt.passed {T : TypeId} {w : World} {B pb : Nat} {s : BedS} {hv : List (Hk × Value)} {mv : List (Mk × Value)} {vh vm : Value} {X : List Own} {g c k : Nat} {f : Fd} (h : WorkAt T w B pb s hv mv vh (.slice (some ⟨g, 0, none⟩) s.feeds.length c) vm X) (hk : s.feeds[k]? = some f) (x y : Int) (he : f.car = y) :
    WorkAt T (((w.setCell ⟨g, k * 3, none⟩ (.int .i64 y)).setCell ⟨g, k * 3 + 1, none⟩ (.bool false)).setCell ⟨g, k * 3 + 2, none⟩ (.int .i64 x)) B pb { s with feeds := s.feeds.take k ++ ⟨y, false, x⟩ :: s.feeds.drop (k + 1) } hv mv vh (.slice (some ⟨g, 0, none⟩) s.feeds.length c) vm X := by
  subst he
  have hkl := (List.getElem?_eq_some_iff.1 hk).1
  have hrf : w.ownsRow B 94 3 (.slice (some ⟨g, 0, none⟩) s.feeds.length c) s.feeds.length (s.feeds.map Fd.cells).flatten := h.rf
  obtain ⟨s1, s2⟩ := World.ownsRow.stored hrf (k * 3) (.int .i64 f.car)
  obtain ⟨s3, s4⟩ := World.ownsRow.stored s1 (k * 3 + 1) (.bool false)
  obtain ⟨s5, s6⟩ := World.ownsRow.stored s3 (k * 3 + 2) (.int .i64 x)
  refine h.turnFeeds (grown_trans (grown_trans s2 s4) s6) ?_
  have e1 : (s.feeds.take k ++ (⟨f.car, false, x⟩ : Fd) :: s.feeds.drop (k + 1)).length = s.feeds.length := by simp; omega
  have e0 : (s.feeds.map Fd.cells).flatten.set (k * 3) (.int .i64 f.car) = (s.feeds.map Fd.cells).flatten := by
    refine List.ext_getElem? fun j => ?_
    rw [List.getElem?_set]
    split
    · rename_i e
      subst e
      rw [if_pos (by rw [hrf.1]; omega)]
      have := flat_at (i := 0) (cells3f s.feeds) (by rw [List.getElem?_map, hk]; rfl) (show f.cells[0]? = some _ from rfl)
      exact this.symm
    · rfl
  unfold rowF Own.lies
  rw [e1, ← feed_set s.feeds k f hk]
  rw [e0] at s5
  exact s5
theorem drop_mid {α : Type} (a : List α) (x : α) (d : List α) (k : Nat) (h : a.length = k) : (a ++ x :: d).drop (k + 1) = d := by
  subst h
  rw [List.drop_append, List.drop_eq_nil_of_le (by omega), List.nil_append, Nat.add_sub_cancel_left]
  rfl
/-- The place alone is stored. -/
theorem WorkAt.placed {T : TypeId} {w : World} {B pb : Nat} {s : BedS} {hv : List (Hk × Value)} {mv : List (Mk × Value)} {vh vm : Value} {X : List Own} {g c n k : Nat} {L L' : List Fd} {f : Fd} (h : WorkAt T w B pb { s with feeds := L } hv mv vh (.slice (some ⟨g, 0, none⟩) n c) vm X) (hn : L.length = n) (hk : L[k]? = some f) (x : Int) (hfr : f.fresh = false) (hL : L' = L.take k ++ ⟨f.car, false, x⟩ :: L.drop (k + 1)) :
    WorkAt T (w.setCell ⟨g, k * 3 + 2, none⟩ (.int .i64 x)) B pb { s with feeds := L' } hv mv vh (.slice (some ⟨g, 0, none⟩) n c) vm X := by
  have hkl := (List.getElem?_eq_some_iff.1 hk).1
  have hrf : w.ownsRow B 94 3 (.slice (some ⟨g, 0, none⟩) n c) L.length (L.map Fd.cells).flatten := h.rf
  rw [hn] at hrf
  obtain ⟨s5, s6⟩ := World.ownsRow.stored hrf (k * 3 + 2) (.int .i64 x)
  refine h.turnFeeds s6 ?_
  have e1 : L'.length = n := by rw [← hn, hL]; simp; omega
  have e0 : (L.map Fd.cells).flatten.set (k * 3 + 1) (.bool false) = (L.map Fd.cells).flatten := by
    refine List.ext_getElem? fun j => ?_
    rw [List.getElem?_set]
    split
    · rename_i e
      subst e
      rw [if_pos (by rw [hrf.1]; omega), ← hfr]
      exact (flat_at (cells3f L) (by rw [List.getElem?_map, hk]; rfl) (show f.cells[1]? = some _ from rfl)).symm
    · rfl
  unfold rowF Own.lies
  rw [e1, hL, ← feed_set L k f hk, e0]
  exact s5
set_option maxHeartbeats 16000000 in
theorem rpass_any (B pb : Nat) (s : BedS) (i : Ins) (X : List Own) (hk : StOk s) (hf : FdOk s) (hbd : 0 ≤ i.bed ∧ i.bed ≤ 1) (ha : needleP i.at_) (w : World) (hBw : B ≤ w.heap.size) (hw : WorkX 48 w B pb s X) :
    Calls Tryz.prog 126 #[.pointer (some ⟨pb, 0, none⟩), i.val] w fun e w' => movOut B pb (passS s i) X w e w' := by
  obtain ⟨hv, mv, vh, vf, vm, hw⟩ := hw
  obtain ⟨p, rfl, rfl, rfl, hba⟩ := hw.bed
  have HW := Lib.hid hw
  have HW0 := Lib.hid hw
  have HFd := Lib.hid hf
  have HC := Lib.hid (fun W => rcolumn_any s p i.bed i.at_ hbd hk.rack ha W)
  have HI := Lib.hid (fun W hb => rin_any s p i.car (by have := hf.len; omega) W (hw.bedAt (W := W) hb))
  have hcol := colI_le hk.rack hbd ha
  have HM0 : Hid (MvS B w.heap.size pb s p i (w.alloc (insBox i)) (w.alloc (insBox i))) := by
    have hb := (Below.refl w.heap.size w).alloc (Nat.le_refl _) (insBox i)
    have hc := hw.cells
    exact ⟨BdIn.below ⟨hc.1, hc.2.1, hc.2.2.1, hc.2.2.2.1⟩ hb hw.base.2, InsIn.new w i, Below.refl _ _⟩
  have HAl := Lib.hid ((Below.refl w.heap.size w).alloc (Nat.le_refl _) (insBox i))
  obtain ⟨z, hz⟩ : ∃ z, idxE (fun f : Fd => decide (f.car = i.car)) s.feeds = z := ⟨_, rfl⟩
  have HZ := Lib.hid hz
  rw [hz] at HI
  unfold BedS.val at HC HI
  unfold Ins.val
  clear hw hba hk ha hbd hf hz
  go_enter Tryz.func126, Tryz.ntmps126
  go_upto_region 1 with fail
  refine abs_world (Q := fun W => Code.wp _ _ _ _ W) (F := MvS B w.heap.size pb s p i (w.alloc (insBox i))) _ HM0.out ?_
  clear HM0
  intro W hM
  have HM := Lib.hid hM
  clear hM
  have hb0' : Below W.heap.size W W.drew := (Below.refl _ _).drew
  have HSb : Hid (∀ W', Below W.heap.size W W' → W'.cell? ⟨pb, 0, none⟩ = some (.int .i64 s.rack) ∧ W'.cell? ⟨pb, 1, none⟩ = some (.slice p.ah s.hooks.length p.ch) ∧ W'.cell? ⟨pb, 2, none⟩ = some (.slice p.af s.feeds.length p.cf) ∧ W'.cell? ⟨pb, 3, none⟩ = some (.slice p.am s.made.length p.cm) ∧ W'.cell? ⟨w.heap.size, 5, none⟩ = some (.int .i64 i.car) ∧ Below W.heap.size W W') := fun W' hb => by
    have h := HM.out.to hb
    exact ⟨h.st.1, h.st.2.1, h.st.2.2.1, h.st.2.2.2, h.ins.2.2.2.2.2.1, hb⟩
  have HI2 : Hid (∀ W', Below W.heap.size W W' → Below w.heap.size w W') := fun W' hb => (HAl.out.trans (HM.out.lo.mono (by simp))).trans (hb.mono (by have h1 := HM.out.lo.size; have h2 := HAl.out.size; omega))
  go_cut [5] (fun s5 wr => s5 = .int .i64 z ∧ Hid (MvS B w.heap.size pb s p i (w.alloc (insBox i)) wr))
  case first =>
    go_region_held3 (fun W' => W'.cell? ⟨pb, 0, none⟩ = some (.int .i64 s.rack) ∧ W'.cell? ⟨pb, 1, none⟩ = some (.slice p.ah s.hooks.length p.ch) ∧ W'.cell? ⟨pb, 2, none⟩ = some (.slice p.af s.feeds.length p.cf) ∧ W'.cell? ⟨pb, 3, none⟩ = some (.slice p.am s.made.length p.cm) ∧ W'.cell? ⟨w.heap.size, 5, none⟩ = some (.int .i64 i.car) ∧ Below W.heap.size W W')
      (first | (with_reducible exact HSb.out _ (by assumption)) | fail)
      (first | (go_at_call 124; have hp := limb5 (by assumption); refine (HI.out _ (HI2.out _ hp)).mono ?_; rintro e wd ⟨rfl, hbd⟩; have hbw := hp.trans (hbd.mono hp.size); clear hp))
    go_wp2_with fail
    go_meet
    exact ⟨rfl, HM.out.to (by assumption)⟩
  case rest =>
    obtain ⟨rfl, HM2⟩ := hcut
    obtain ⟨w4, rfl⟩ : ∃ x : World, x = wc := ⟨_, rfl⟩
    clear HM HSb hb0' HI HI2
    have HBw : Hid (Below w.heap.size w w4) := HAl.out.trans (HM2.out.lo.mono (by simp))
    rcases idx_feed HFd.out.ris i.car with ⟨e1, e2⟩ | ⟨k, f, e1, hfk, hfa, hfc, hset⟩
    · obtain rfl : z = -1 := by rw [← HZ.out, e1]
      have HF : Hid (passS s i = none) := by show passS s i = none; unfold passS; rw [e2]
      clear e1 e2 HM2 HC HW HFd HZ
      go_wp2
      go_ret
      rw [HF.out]
      exact ⟨rfl, HBw.out.mono hBw⟩
    · obtain rfl : z = (k : Int) := by rw [← HZ.out, e1]
      have hkl : k < s.feeds.length := (List.getElem?_eq_some_iff.1 hfk).1
      have hlen := HFd.out.len
      have e6 : decide ((k : Int) < 0) = false := decide_eq_false (by omega)
      have HP : Hid (passS s i = if f.fresh = false ∧ wayI i * (2 * colI s.rack i.bed i.at_ - f.place) ≤ 0 then none else some { s with feeds := s.feeds.take k ++ ⟨i.car, false, 2 * colI s.rack i.bed i.at_ + wayI i⟩ :: s.feeds.drop (k + 1) }) := by
        show passS s i = _
        unfold passS
        rw [hfa]
        simp only []
        rw [hset]
      have HWc := Lib.hid (HW.out.to HBw.out)
      have hfp := feed_place (HFd.out.ok f (List.mem_of_getElem? hfk))
      have HFk := Lib.hid (show _ ∧ _ from ⟨hfk, hfc⟩)
      clear e1 hfk hfa hfc hset HW HZ HFd
      go_upto_region 4 with fail
      have HSb : Hid (∀ W', Below w4.heap.size w4 W' → W'.cell? ⟨pb, 0, none⟩ = some (.int .i64 s.rack) ∧ W'.cell? ⟨pb, 1, none⟩ = some (.slice p.ah s.hooks.length p.ch) ∧ W'.cell? ⟨pb, 2, none⟩ = some (.slice p.af s.feeds.length p.cf) ∧ W'.cell? ⟨pb, 3, none⟩ = some (.slice p.am s.made.length p.cm) ∧ W'.cell? ⟨w.heap.size, 2, none⟩ = some (.int .u8 i.bed) ∧ W'.cell? ⟨w.heap.size, 3, none⟩ = some (.int .i64 i.at_) ∧ Below w4.heap.size w4 W') := fun W' hb => by
        have h := HM2.out.to hb
        exact ⟨h.st.1, h.st.2.1, h.st.2.2.1, h.st.2.2.2, h.ins.2.2.1, h.ins.2.2.2.1, hb⟩
      have hb0' : Below w4.heap.size w4 w4.drew := (Below.refl _ _).drew
      go_cut [6] (fun s6 wr => s6 = .int .i64 (colI s.rack i.bed i.at_) ∧ Hid (Below w4.heap.size w4 wr))
      case first =>
        go_region_held3 (fun W' => W'.cell? ⟨pb, 0, none⟩ = some (.int .i64 s.rack) ∧ W'.cell? ⟨pb, 1, none⟩ = some (.slice p.ah s.hooks.length p.ch) ∧ W'.cell? ⟨pb, 2, none⟩ = some (.slice p.af s.feeds.length p.cf) ∧ W'.cell? ⟨pb, 3, none⟩ = some (.slice p.am s.made.length p.cm) ∧ W'.cell? ⟨w.heap.size, 2, none⟩ = some (.int .u8 i.bed) ∧ W'.cell? ⟨w.heap.size, 3, none⟩ = some (.int .i64 i.at_) ∧ Below w4.heap.size w4 W')
          (first | (with_reducible exact HSb.out _ (by assumption)) | fail)
          (first | (go_at_call 125; have hp := limb6 (by assumption); refine (HC.out _).mono ?_; rintro e wd ⟨rfl, hbd⟩; have hbw := hp.trans (hbd.mono hp.size); clear hp))
        go_wp2_with fail
        go_meet
        exact ⟨rfl, by assumption⟩
      case rest =>
        obtain ⟨rfl, HB5⟩ := hcut
        obtain ⟨w5, rfl⟩ : ∃ x : World, x = wc := ⟨_, rfl⟩
        clear HSb hb0' HC
        have HM5 := Lib.hid (HM2.out.to HB5.out)
        have HW5 := Lib.hid (HWc.out.to HB5.out)
        have HB6 := Lib.hid (HBw.out.trans (HB5.out.mono HBw.out.size))
        clear HM2 HWc HBw HB5
        generalize colI s.rack i.bed i.at_ = col at hcol HP
        obtain ⟨c0, c1, c2, c3⟩ := HM5.out.st
        have hrf : w5.ownsRow B 94 3 (.slice p.af s.feeds.length p.cf) s.feeds.length (s.feeds.map Fd.cells).flatten := HW5.out.rf
        obtain ⟨g, hgf⟩ : ∃ g, p.af = some ⟨g, 0, none⟩ := by
          obtain ⟨g, cap, e, _⟩ := World.ownsRow.form hrf (by omega)
          exact ⟨g, (Value.slice.inj e).1⟩
        rw [hgf] at c2 hrf
        have f0 : w5.cell? ⟨g, k * 3, none⟩ = some (.int .i64 f.car) := by
          have h := hrf.cellAt (k * 3) (by omega)
          rw [h]
          exact flat_at (i := 0) (cells3f _) (by rw [List.getElem?_map, HFk.out.1]; rfl) (show f.cells[0]? = some _ from rfl)
        have f1 : w5.cell? ⟨g, k * 3 + 1, none⟩ = some (.bool f.fresh) := by
          rw [hrf.cellAt (k * 3 + 1) (by omega)]
          exact flat_at (cells3f _) (by rw [List.getElem?_map, HFk.out.1]; rfl) (show f.cells[1]? = some _ from rfl)
        have f2 : w5.cell? ⟨g, k * 3 + 2, none⟩ = some (.int .i64 f.place) := by
          rw [hrf.cellAt (k * 3 + 2) (by omega)]
          exact flat_at (cells3f _) (by rw [List.getElem?_map, HFk.out.1]; rfl) (show f.cells[2]? = some _ from rfl)
        have hk9 : k < 9000 := by omega
        have hk0 : (0 : Int) ≤ (k : Int) := by omega
        have hkn : (k : Int) < (s.feeds.length : Int) := by omega
        clear hrf
        have HX5 : Hid (WorkAt 48 w5 B pb s hv mv (.slice p.ah s.hooks.length p.ch) (.slice (some ⟨g, 0, none⟩) s.feeds.length p.cf) (.slice p.am s.made.length p.cm) (rowX w.heap.size i :: X)) := by
          have h := (HW0.out.add HAl.out (rowX_new w i)).to HM5.out.lo
          rw [hgf] at h
          exact h
        have hb5 : B ≤ w5.heap.size := by have := HB6.out.size; omega
        go_upto_region 6 with fail
        obtain ⟨fb, hfb⟩ : ∃ fb, fb = w5.heap.size := ⟨_, rfl⟩
        refine abs_world (Q := fun W => Code.wp _ _ _ _ W) (F := fun W => WorkAt 48 W B pb s hv mv (.slice p.ah s.hooks.length p.ch) (.slice (some ⟨g, 0, none⟩) s.feeds.length p.cf) (.slice p.am s.made.length p.cm) (rowX w.heap.size i :: X) ∧ W.cell? ⟨w5.heap.size, 1, none⟩ = some (.bool f.fresh) ∧ W.cell? ⟨w5.heap.size, 2, none⟩ = some (.int .i64 f.place) ∧ Below B w W) _ ⟨HX5.out.to ((Below.refl _ w5).alloc (Nat.le_refl _) _), cell_new rfl rfl rfl, cell_new rfl rfl rfl, (HB6.out.mono hBw).alloc hb5 _⟩ ?_
        rw [← hfb]
        rintro W6 ⟨hX6, q1, q2, hB6⟩
        have HX6 := Lib.hid hX6
        have HB7 := Lib.hid hB6
        obtain ⟨x0, x1, x2, x3, x4, x5, x6⟩ := rowX_at (B := B) (hX6.rx List.mem_cons_self)
        have hc6 := hX6.cells
        obtain ⟨-, -, d2, -, -⟩ := hc6
        have hrf : W6.ownsRow B 94 3 (.slice (some ⟨g, 0, none⟩) s.feeds.length p.cf) s.feeds.length (s.feeds.map Fd.cells).flatten := hX6.rf
        clear f0 f1 f2 c0 c1 c2 c3
        have f0 : W6.cell? ⟨g, k * 3, none⟩ = some (.int .i64 f.car) := by
          rw [hrf.cellAt (k * 3) (by omega)]
          exact flat_at (i := 0) (cells3f _) (by rw [List.getElem?_map, HFk.out.1]; rfl) (show f.cells[0]? = some _ from rfl)
        have f1 : W6.cell? ⟨g, k * 3 + 1, none⟩ = some (.bool f.fresh) := by
          rw [hrf.cellAt (k * 3 + 1) (by omega)]
          exact flat_at (cells3f _) (by rw [List.getElem?_map, HFk.out.1]; rfl) (show f.cells[1]? = some _ from rfl)
        have f2 : W6.cell? ⟨g, k * 3 + 2, none⟩ = some (.int .i64 f.place) := by
          rw [hrf.cellAt (k * 3 + 2) (by omega)]
          exact flat_at (cells3f _) (by rw [List.getElem?_map, HFk.out.1]; rfl) (show f.cells[2]? = some _ from rfl)
        have hb6 : B ≤ W6.heap.size := by have := hB6.size; omega
        have hBg := (World.ownsRow.lt hrf g rfl).1
        -- what the store leaves
        have HG : Hid (∀ W, Below W6.heap.size W6 W → ∀ x, WorkAt 48 (((W.setCell ⟨g, k * 3, none⟩ (.int .i64 i.car)).setCell ⟨g, k * 3 + 1, none⟩ (.bool false)).setCell ⟨g, k * 3 + 2, none⟩ (.int .i64 x)).drew B pb { s with feeds := s.feeds.take k ++ ⟨i.car, false, x⟩ :: s.feeds.drop (k + 1) } hv mv (.slice p.ah s.hooks.length p.ch) (.slice (some ⟨g, 0, none⟩) s.feeds.length p.cf) (.slice p.am s.made.length p.cm) (rowX w.heap.size i :: X) ∧ Below B w (((W.setCell ⟨g, k * 3, none⟩ (.int .i64 i.car)).setCell ⟨g, k * 3 + 1, none⟩ (.bool false)).setCell ⟨g, k * 3 + 2, none⟩ (.int .i64 x)).drew) := fun W hb x =>
          ⟨((HX6.out.to hb).passed HFk.out.1 x i.car HFk.out.2).to (Below.drew (Below.refl _ _)), ((((HB7.out.trans (hb.mono hb6))).setCell (p := ⟨g, k * 3, none⟩) hBg _).setCell (p := ⟨g, k * 3 + 1, none⟩) hBg _).setCell (p := ⟨g, k * 3 + 2, none⟩) hBg _ |>.drew⟩
        have HKeep : Hid (∀ W, Below W6.heap.size W6 W → (W.cell? ⟨w.heap.size, 1, none⟩ = some (.bool i.right) ∧ W.cell? ⟨w.heap.size, 5, none⟩ = some (.int .i64 i.car)) ∧ W.cell? ⟨pb, 2, none⟩ = some (.slice (some ⟨g, 0, none⟩) s.feeds.length p.cf) ∧ W.cell? ⟨g, k * 3, none⟩ = some (.int .i64 f.car) ∧ W.cell? ⟨g, k * 3 + 1, none⟩ = some (.bool f.fresh) ∧ W.cell? ⟨g, k * 3 + 2, none⟩ = some (.int .i64 f.place) ∧ ∀ j, W.frozen? ⟨g, j, none⟩ = false) := fun W hb =>
          ⟨⟨(bcell hb (lt_of_cell x1) _).trans x1, (bcell hb (lt_of_cell x5) _).trans x5⟩, (bcell hb (lt_of_cell d2) _).trans d2, (bcell hb (lt_of_cell f0) _).trans f0, (bcell hb (lt_of_cell f1) _).trans f1, (bcell hb (lt_of_cell f2) _).trans f2, fun j => (Below.frozen hb (p := ⟨g, j, none⟩) (lt_of_cell f0)).trans (hrf.frozenAt _)⟩
        clear hX6 hB6 hrf HX5 HB6 HM5 HW5 HX6 hfb HFk
        generalize hfr : f.fresh = fr at f1 q1 HP HKeep
        generalize hfpl : f.place = fp at f2 q2 HP hfp HKeep
        clear hfr hfpl
        have hgood : ∀ b : Bool, i.right = b → ¬ (fr = false ∧ wayI i * (2 * col - fp) ≤ 0) → (fr = true ∨ (b = true ∧ decide (2 * col ≤ fp) = false) ∨ (b = false ∧ decide (fp ≤ 2 * col) = false)) := by
          intro b hb h
          cases fr with
          | true => exact Or.inl rfl
          | false =>
            unfold wayI at h
            rw [hb] at h
            cases b with
            | true => exact Or.inr (Or.inl ⟨rfl, decide_eq_false (fun h2 => h ⟨rfl, by simp; omega⟩)⟩)
            | false => exact Or.inr (Or.inr ⟨rfl, decide_eq_false (fun h2 => h ⟨rfl, by simp; omega⟩)⟩)
        by_cases hbad : fr = false ∧ wayI i * (2 * col - fp) ≤ 0
        · have HF : Hid (passS s i = none) := by rw [Hid, HP.out, if_pos hbad]
          obtain ⟨rfl, hb2⟩ := hbad
          unfold wayI at hb2
          clear HP HG hgood
          cases hr : i.right with
          | true =>
            rw [hr] at x1 hb2
            have t1 : decide (2 * col ≤ fp) = true := decide_eq_true (by simp at hb2; omega)
            clear hr hb2
            go_wp2
            go_ret
            rw [HF.out]
            exact ⟨rfl, HB7.out⟩
          | false =>
            rw [hr] at x1 hb2
            have t1 : decide (fp ≤ 2 * col) = true := decide_eq_true (by simp at hb2; omega)
            clear hr hb2
            go_wp2
            go_ret
            rw [HF.out]
            exact ⟨rfl, HB7.out⟩
        · have HF : Hid (passS s i = some { s with feeds := s.feeds.take k ++ ⟨i.car, false, 2 * col + wayI i⟩ :: s.feeds.drop (k + 1) }) := by rw [Hid, HP.out, if_neg hbad]
          have hgd := hgood i.right rfl hbad
          clear hgood hbad HP
          go_cut [56] (fun s56 wr => s56 = .bool false ∧ Hid (Below W6.heap.size W6 wr))
          case first =>
            obtain ⟨q, hr⟩ : ∃ q, i.right = q := ⟨_, rfl⟩
            have hfo : fr = true ∨ fr = false := by cases fr <;> simp
            cases q with
            | true =>
              rw [hr] at x1 hgd
              rcases hfo with hf | hf
              · rw [hf] at q1 hgd
                clear hgd hr hf
                go_wp2
                go_meet
                exact ⟨rfl, by first | exact Below.refl _ _ | exact Below.drew (Below.refl _ _)⟩
              · rw [hf] at q1 hgd
                have t1 : decide (2 * col ≤ fp) = false := by simpa using hgd
                clear hgd hr hf
                go_wp2
                go_meet
                exact ⟨rfl, by first | exact Below.refl _ _ | exact Below.drew (Below.refl _ _)⟩
            | false =>
              rw [hr] at x1 hgd
              rcases hfo with hf | hf
              · rw [hf] at q1 hgd
                clear hgd hr hf
                go_wp2
                go_meet
                exact ⟨rfl, by first | exact Below.refl _ _ | exact Below.drew (Below.refl _ _)⟩
              · rw [hf] at q1 hgd
                have t1 : decide (fp ≤ 2 * col) = false := by simpa using hgd
                clear hgd hr hf
                go_wp2
                go_meet
                exact ⟨rfl, by first | exact Below.refl _ _ | exact Below.drew (Below.refl _ _)⟩
          case rest =>
            obtain ⟨rfl, HBc⟩ := hcut
            clear hgd q1 q2 x0 x1 x2 x3 x4 x5 x6 d2 f0 f1 f2
            obtain ⟨⟨x1, x5⟩, d2, f0, f1, f2, z⟩ := HKeep.out _ HBc.out
            have z0 := z (k * 3)
            have z1 := z (k * 3 + 1)
            have z2 := z (k * 3 + 2)
            clear z
            have HG2 := Lib.hid (HG.out wc HBc.out)
            clear HG HKeep HBc HB7
            go_upto_region 8 with fail
            go_region
            go_upto_region 9 with fail
            refine abs_world (Q := fun W => Code.wp _ _ _ _ W) (F := fun W => WorkAt 48 W B pb { s with feeds := s.feeds.take k ++ ⟨i.car, false, 2 * col - 1⟩ :: s.feeds.drop (k + 1) } hv mv (.slice p.ah s.hooks.length p.ch) (.slice (some ⟨g, 0, none⟩) s.feeds.length p.cf) (.slice p.am s.made.length p.cm) (rowX w.heap.size i :: X) ∧ Below B w W) _ (HG2.out (2 * col - 1)) ?_
            clear HG2 x1 x5 d2 f0 f1 f2 z0 z1 z2
            rintro W9 ⟨hX9, hB9⟩
            obtain ⟨x0, x1, x2, x3, x4, x5, x6⟩ := rowX_at (B := B) (hX9.rx List.mem_cons_self)
            have HX9 := Lib.hid hX9
            have HB9 := Lib.hid hB9
            cases hr : i.right with
            | false =>
              have HO : Hid (movOut B pb (passS s i) X w (.returned (.bool true)) W9) := by
                unfold Hid wayI at *
                rw [HF, hr]
                exact ⟨rfl, WorkX.less ⟨_, _, _, _, _, hX9⟩, hB9⟩
              rw [hr] at x1
              clear HF hr hX9 hB9 HX9
              go_wp2
              go_ret
              exact HO.out
            | true =>
              have d2 := hX9.cells.2.2.1
              have hrf : W9.ownsRow B 94 3 (.slice (some ⟨g, 0, none⟩) s.feeds.length p.cf) (s.feeds.take k ++ (⟨i.car, false, 2 * col - 1⟩ : Fd) :: s.feeds.drop (k + 1)).length ((s.feeds.take k ++ (⟨i.car, false, 2 * col - 1⟩ : Fd) :: s.feeds.drop (k + 1)).map Fd.cells).flatten := hX9.rf
              have hll : (s.feeds.take k ++ (⟨i.car, false, 2 * col - 1⟩ : Fd) :: s.feeds.drop (k + 1)).length = s.feeds.length := by simp; omega
              rw [hll] at hrf
              have hfk : (s.feeds.take k ++ (⟨i.car, false, 2 * col - 1⟩ : Fd) :: s.feeds.drop (k + 1))[k]? = some ⟨i.car, false, 2 * col - 1⟩ := by
                rw [List.getElem?_append_right (by rw [List.length_take]; omega), List.length_take, Nat.min_eq_left (by omega), Nat.sub_self]; rfl
              have f2 : W9.cell? ⟨g, k * 3 + 2, none⟩ = some (.int .i64 (2 * col - 1)) := by
                rw [hrf.cellAt (k * 3 + 2) (by omega)]
                exact flat_at (cells3f _) (by rw [List.getElem?_map, hfk]; rfl) (show (Fd.cells ⟨i.car, false, 2 * col - 1⟩)[2]? = some _ from rfl)
              have z2 : W9.frozen? ⟨g, k * 3 + 2, none⟩ = false := hrf.frozenAt _
              have hBg := (World.ownsRow.lt hrf g rfl).1
              have HO : Hid (movOut B pb (passS s i) X w (.returned (.bool true)) (W9.setCell ⟨g, k * 3 + 2, none⟩ (.int .i64 (2 * col + 1)))) := by
                unfold Hid wayI at *
                rw [HF, hr]
                have e1 : s.feeds.take k ++ (⟨i.car, false, 2 * col + 1⟩ : Fd) :: s.feeds.drop (k + 1) = (s.feeds.take k ++ (⟨i.car, false, 2 * col - 1⟩ : Fd) :: s.feeds.drop (k + 1)).take k ++ ⟨i.car, false, 2 * col + 1⟩ :: (s.feeds.take k ++ (⟨i.car, false, 2 * col - 1⟩ : Fd) :: s.feeds.drop (k + 1)).drop (k + 1) := by
                  have e2 : (s.feeds.take k).length = k := by rw [List.length_take]; omega
                  rw [List.take_left' e2, drop_mid _ _ _ k e2]
                have hpl := WorkAt.placed hX9 hll hfk (2 * col + 1) rfl e1
                exact ⟨rfl, WorkX.less (o := rowX w.heap.size i) ⟨hv, mv, _, _, _, hpl⟩, hB9.setCell (p := ⟨g, k * 3 + 2, none⟩) hBg _⟩
              rw [hr] at x1
              clear HF hr hX9 hB9 HX9 hrf hfk hBg
              go_wp2
              go_ret
              exact HO.out
end Go.Proofs.YthedmiilkeclaaaGreat
