/- The reference's layer 30: Check of a state, walked (under way). -/
import Derived.Test.YtbnddpknejgmhaaGreatKP43
namespace Go.Proofs.YtbnddpknejgmhaaGreat
open Go.RowKit Go.Shelf
set_option maxRecDepth 100000

/-- What holds within a round over the needles. -/
structure InR (w0 : World) (sb bx n : Nat) (h : Hk) (va : Value) (P : List Int) (W : World) : Prop where
  below : Below w0.heap.size w0 W
  box : W.cell? ⟨bx, 0, none⟩ = some (.int .u8 h.bed) ∧ W.cell? ⟨bx, 1, none⟩ = some (.int .i64 h.at_) ∧ W.cell? ⟨bx, 2, none⟩ = some va
  seen : SeenAt W w0.heap.size sb n P
  ne : bx ≠ sb
  sb0 : w0.heap.size ≤ sb
theorem InR.to {w0 : World} {sb bx n : Nat} {h : Hk} {va : Value} {P : List Int} {W W' : World} (i : InR w0 sb bx n h va P W) (hb : Below W.heap.size W W') : InR w0 sb bx n h va P W' := by
  obtain ⟨c0, c1, c2⟩ := i.box
  have hl := lt_of_cell c0
  exact ⟨i.below.trans (hb.mono i.below.size), ⟨(bcell hb hl _).trans c0, (bcell hb hl _).trans c1, (bcell hb hl _).trans c2⟩, i.seen.to hb, i.ne, i.sb0⟩
theorem InR.mark {w0 : World} {sb bx n : Nat} {h : Hk} {va : Value} {P : List Int} {W : World} (i : InR w0 sb bx n h va P W) (x : Nat) : InR w0 sb bx n h va (P ++ [(x : Int)]) (W.setCell ⟨sb, x, none⟩ (.bool true)) := by
  obtain ⟨c0, c1, c2⟩ := i.box
  have ne : ∀ k, (⟨sb, x, none⟩ : Addr) ≠ ⟨bx, k, none⟩ := fun k e => i.ne (Addr.mk.inj e).1.symm
  exact ⟨i.below.setCell (p := ⟨sb, x, none⟩) i.sb0 _, ⟨(World.cell?_setCell_other W _ _ _ (ne 0)).trans c0, (World.cell?_setCell_other W _ _ _ (ne 1)).trans c1, (World.cell?_setCell_other W _ _ _ (ne 2)).trans c2⟩, i.seen.mark x, i.ne, i.sb0⟩
theorem slI_take {w : World} {B : Nat} {A : Option Addr} {l : List Int} (h : SlI w B A l) (k : Nat) : SlI w B A (l.take k) := fun hn => by
  obtain ⟨b, off, e, hB, hc⟩ := h (fun e => by subst e; simp at hn)
  refine ⟨b, off, e, hB, fun j z hz => hc j z ?_⟩
  rw [List.getElem?_take] at hz
  split at hz
  · exact hz
  · cases hz
theorem risF_bad {s : BedS} (h : risB ltF s.feeds = false) : bedE s = 8 := by unfold bedE bedOk; rw [h]; simp
theorem tmod2 (x : Int) : (x.tmod 2 == 0) = decide (x % 2 = 0) := by
  rcases Int.le_total 0 x with h | h
  · rw [Int.tmod_eq_emod_of_nonneg h]; rfl
  · obtain ⟨y, rfl⟩ : ∃ y, x = -y := ⟨-x, by omega⟩
    rw [Int.neg_tmod, Int.tmod_eq_emod_of_nonneg (by omega), Bool.eq_iff_iff]
    simp
    try omega
theorem quiet_left {P : Program} {f : FuncId} {args : Array Value} {w : World} {n : Nat} {v : Value}
    (h : Calls P f args (w.drewN n) fun e w' => e = .returned v ∧ w.drewN n = w') : Calls P f args (w.drewN n) fun e w'' => e = .returned v ∧ ∃ m, w'' = w.drewN m :=
  h.mono fun _ _ ⟨he, hm⟩ => ⟨he, n, hm.symm⟩
set_option maxHeartbeats 16000000 in
theorem rbcheck_ok (s : BedS) (p : BedP) (hE : bedE s = 0) (hwf : s.wf) (hn : s.hooks.length ≤ 10000 ∧ s.feeds.length ≤ 10000 ∧ s.made.length ≤ 10000) (w : World) (hs : BedAt w w.heap.size p s) :
    Calls Tryz.prog 11 #[s.val p] w fun e w' => RetB8 s w e w' := by
  have HE0 := Lib.hid hE
  clear hE
  have HAl := Lib.hid ((Below.refl w.heap.size w).alloc (Nat.le_refl _) (.cells #[.int .i64 s.rack, .slice p.ah s.hooks.length p.ch, .slice p.af s.feeds.length p.cf, .slice p.am s.made.length p.cm] 39))
  have HCS := Lib.hid (bed_box w s p)
  have HS := Lib.hid hs
  have HW := Lib.hid hwf
  obtain ⟨hnh, hnf, hnm⟩ := hn
  unfold BedS.val
  clear hs hwf
  by_cases hr1 : s.rack < -8
  · have HF : Hid (bedE s = 8) := by unfold Hid bedE bedOk; rw [decide_eq_false (by omega)]; simp
    exact absurd (HF.out.symm.trans HE0.out) (by decide)
  by_cases hr2 : 8 < s.rack
  · have HF : Hid (bedE s = 8) := by unfold Hid bedE bedOk; rw [decide_eq_false (by omega)]; simp
    exact absurd (HF.out.symm.trans HE0.out) (by decide)
  by_cases hr3 : 4000 < s.made.length
  · have HF : Hid (bedE s = 8) := by unfold Hid bedE bedOk; rw [decide_eq_false (by omega)]; simp
    exact absurd (HF.out.symm.trans HE0.out) (by decide)
  have HTop : Hid (decide (-8 ≤ s.rack ∧ s.rack ≤ 8 ∧ s.made.length ≤ 4000) = true) := decide_eq_true (by omega)
  obtain ⟨i1, hi', hz0', hz1', hz2'⟩ := info_parts info_bool
  go_enter Tryz.func11, Tryz.ntmps11
  go_upto_region 3 with fail
  obtain ⟨w0, hw0⟩ : ∃ w0, w0 = w.alloc (.cells #[.int .i64 s.rack, .slice p.ah s.hooks.length p.ch, .slice p.af s.feeds.length p.cf, .slice p.am s.made.length p.cm] 39) := ⟨_, rfl⟩
  rw [← hw0] at HAl HCS ⊢
  have hz00 : w0.heap.size = w.heap.size + 1 := by rw [hw0]; simp
  clear hw0 hr1 hr2 hr3
  obtain ⟨c0, c1, c2, c3⟩ := HCS.out w0 (Below.refl _ _)
  obtain ⟨w3, hmr, hob, hgb⟩ := run_make_full (P := Tryz.prog) w0 w0.heap.size 85 4 i1 (.bool false) 1 Tryz.underlying85 hi' hz0' hz1' .i64 .i64 s.made.length (by rw [hz2']; omega) (by unfold maxLen; omega) (Nat.le_refl _)
  have hB3 : Below w0.heap.size w0 w3 := (Below.refl _ w0).grown hgb (Nat.le_refl _) (fun k e => by cases e)
  obtain ⟨sb, hsb⟩ : ∃ sb, sb = w0.heap.size := ⟨_, rfl⟩
  have hSe : SeenAt w3 w0.heap.size sb s.made.length [] := by
    unfold SeenAt
    have e : (madeCells (Value.bool false).cells (s.made.length * 1)).toList = marks s.made.length [] := by
      rw [Nat.mul_one]
      refine (toList_madeCells_one _ _).trans ?_
      unfold marks
      simp
      rw [List.map_const', List.length_range]
    rw [← hsb] at hob
    rw [e] at hob
    rw [← hsb]
    exact hob
  rw [← hsb] at hmr
  have HSe := Lib.hid hSe
  have HB3 := Lib.hid hB3
  clear hob hgb hSe hB3 hsb
  go_wp2
  clear c0 c1 c2 c3
  go_loopw [4, 5, 6] (fun s4 s5 s6 wr => ∃ (i : Nat) (v5 v6 : Value), i ≤ s.hooks.length ∧ s4 = .int .i64 (i : Int) ∧ v5 = s5 ∧ v6 = s6 ∧ Hid (∀ h ∈ s.hooks.take i, hookOk h = true) ∧ Hid (risB ltH (s.hooks.take i) = true) ∧ Hid (good s.made.length (heldKB (s.hooks.take i))) ∧ Hid (SeenAt wr w0.heap.size sb s.made.length (heldKB (s.hooks.take i))) ∧ Below w0.heap.size w0 wr) (fun s4 _ _ _ => s.hooks.length - (intOf s4).toNat)
  case atStart => exact ⟨0, _, _, Nat.zero_le _, rfl, rfl, rfl, (fun h hh => by simp at hh), (by simp [Hid, risB]), ⟨fun x hx => by simp [heldKB] at hx, by simp [heldKB]⟩, HSe, HB3.out⟩
  case round =>
    obtain ⟨i, v5, v6, hi, rfl, rfl, rfl, H, HRi, HG, HSe, hbw⟩ := hrel
    have hbww : Below w.heap.size w wr := HAl.out.trans (hbw.mono (by omega))
    obtain ⟨c0, c1, c2, c3⟩ := HCS.out wr (hbw.mono (by omega))
    by_cases hlt : i < s.hooks.length
    case pos =>
      obtain ⟨b, off, h, A', C', hA, hB, hr, q0, q1, q2, hC, hsi⟩ := HS.out.hooks.at_ hlt
      have d0 := (bcell hbww hB _).trans q0
      have d1 := (bcell hbww hB _).trans q1
      have d2 := (bcell hbww hB _).trans q2
      have hmem := List.mem_of_getElem? hr
      have hwh := HW.out.1 h hmem
      have HSi := Lib.hid (hsi.below hbww)
      have HBad : Hid (hookOk h = false → bedE s = 8) := fun hh => bed_hook hmem hh
      have HR := Lib.hid hr
      have HN := Lib.hid (fun w => rat_any h.at_ w)
      have HB := Lib.hid hbww
      have hbz := hbw.size
      have HA := Lib.hid hA
      have HSi0 := Lib.hid hsi
      have HR0 := Lib.hid (show _ ∧ _ from ⟨hB, hlt⟩)
      rw [hA] at c1
      clear q0 q1 q2 hr hmem hsi hA
      by_cases g1 : 1 < h.bed
      · have HF : Hid (bedE s = 8) := HBad.out (by unfold hookOk; exact decide_eq_false (fun ⟨hh, _⟩ => by omega))
        exact absurd (HF.out.symm.trans HE0.out) (by decide)
      by_cases g2 : needleP h.at_
      case neg =>
        have HF : Hid (bedE s = 8) := HBad.out (by unfold hookOk; exact decide_eq_false (fun hh => g2 hh.2.1))
        exact absurd (HF.out.symm.trans HE0.out) (by decide)
      case pos =>
        have HNe := Lib.hid g2
        rw [decide_eq_true g2] at HN
        clear g2
        by_cases g3 : h.loops.length = 0
        · have HF : Hid (bedE s = 8) := HBad.out (by unfold hookOk; exact decide_eq_false (fun ⟨_, _, hh, _⟩ => by omega))
          exact absurd (HF.out.symm.trans HE0.out) (by decide)
        by_cases g4 : 6 < h.loops.length
        · have HF : Hid (bedE s = 8) := HBad.out (by unfold hookOk; exact decide_eq_false (fun ⟨_, _, _, hh⟩ => by omega))
          exact absurd (HF.out.symm.trans HE0.out) (by decide)
        have hok : hookOk h = true := by unfold hookOk; exact decide_eq_true ⟨by omega, HNe.out, by omega, by omega⟩
        have HQ := Lib.hid (all_snoc HR.out H.out hok)
        have g3' : (((h.loops.length : Nat) : Int) == 0) = false := beq_eq_false_iff_ne.2 (by omega)
        clear HBad H hok g3 HNe
        go_upto_region 10 with (go_at_call 32; refine (HN.out _).mono ?_; rintro e wn ⟨rfl, rfl⟩)
        obtain ⟨bx, hbx⟩ : ∃ bx, bx = wr.heap.size := ⟨_, rfl⟩
        refine abs_world (Q := fun W => Code.wp _ _ _ _ W) (F := InR w0 sb wr.heap.size s.made.length h (.slice A' h.loops.length C') (heldKB (s.hooks.take i))) _ ?_ ?_
        · exact ⟨hbw.alloc hbz _, ⟨cell_new rfl rfl rfl, cell_new rfl rfl rfl, cell_new rfl rfl rfl⟩, HSe.out.to ((Below.refl _ _).alloc (Nat.le_refl _) _), fun e => by have := (World.ownsRow.lt HSe.out sb rfl).2; omega, (World.ownsRow.lt HSe.out sb rfl).1⟩
        rintro W1 hI
        rw [← hbx] at hI ⊢
        obtain ⟨x0, x1, x2⟩ := hI.box
        have hb1 := hI.below
        have hbw1 : Below w.heap.size w W1 := HAl.out.trans (hb1.mono (by omega))
        obtain ⟨f0, f1, f2, f3⟩ := HCS.out W1 (hb1.mono (by omega))
        have HB1 := Lib.hid hbw1
        rw [HA.out] at f1
        clear hbx c0 c1 c2 c3 d0 d1 d2 HSe hbw hbz hbww HB HSi
        have hprev : ∀ m, i = m + 1 → ∃ h0 : Hk, s.hooks[m]? = some h0 ∧ W1.cell? ⟨b, off + m * 3, none⟩ = some (.int .u8 h0.bed) ∧ W1.cell? ⟨b, off + m * 3 + 1, none⟩ = some (.int .i64 h0.at_) := fun m e => by
          obtain ⟨b', off', h0, A0, C0, hA0, hB0, hr0, p0, p1, _, _, _⟩ := HS.out.hooks.at_ (show m < s.hooks.length by have := HR0.out.2; omega)
          rw [HA.out] at hA0
          cases hA0
          exact ⟨h0, hr0, (bcell hbw1 hB0 _).trans p0, (bcell hbw1 hB0 _).trans p1⟩
        have HPr := Lib.hid hprev
        have HRn : Hid (∀ m h0, i = m + 1 → s.hooks[m]? = some h0 → risB ltH (s.hooks.take (i + 1)) = ltH h0 h) := fun m h0 e hr0 => by
          subst e
          exact ris_take hr0 HR.out HRi.out
        have HRz : Hid (i = 0 → risB ltH (s.hooks.take (i + 1)) = true) := fun e => by
          subst e
          cases hh : s.hooks with
          | nil => rfl
          | cons a t => rfl
        have HRb : Hid (risB ltH (s.hooks.take (i + 1)) = false → bedE s = 8) := fun e => ris_bad (ris_not e)
        have him := HR0.out.2
        clear hprev HRi
        by_cases hbad : ∃ m h0, i = m + 1 ∧ s.hooks[m]? = some h0 ∧ ltH h0 h = false
        case pos =>
          obtain ⟨m, h0, rfl, hr0, hlt0⟩ := hbad
          obtain ⟨h0', hr0', p0, p1⟩ := HPr.out m rfl
          rw [hr0] at hr0'
          obtain rfl : h0 = h0' := by simpa using hr0'
          have HF : Hid (bedE s = 8) := HRb.out ((HRn.out m h0 rfl hr0).trans hlt0)
          exact absurd (HF.out.symm.trans HE0.out) (by decide)
        case neg =>
          have HRt : Hid (risB ltH (s.hooks.take (i + 1)) = true) := by
            by_cases hz : i = 0
            · exact HRz.out hz
            · obtain ⟨h0, hr0, _⟩ := HPr.out (i - 1) (by omega)
              have := HRn.out (i - 1) h0 (by omega) hr0
              cases hq : ltH h0 h with
              | true => exact this.trans hq
              | false => exact absurd ⟨i - 1, h0, by omega, hr0, hq⟩ hbad
          have HI := Lib.hid hI
          clear HRb HRz hb1 hI
          go_cut [100] (fun s100 wr => s100 = .bool false ∧ Hid (InR w0 sb bx s.made.length h (.slice A' h.loops.length C') (heldKB (s.hooks.take i)) wr))
          case first =>
            clear HG HQ HRt HS
            have HN : Hid (∀ nq, InR w0 sb bx s.made.length h (.slice A' h.loops.length C') (heldKB (s.hooks.take i)) (W1.drewN nq)) := fun nq => HI.out.to (below_drewN (Below.refl _ _) nq)
            by_cases hi0 : i = 0
            · subst hi0
              clear HPr HRn hbad HI
              go_quiet (fail)
              go_wp2_with fail
              go_meet
              exact ⟨rfl, HN.out _⟩
            · obtain ⟨m, rfl⟩ : ∃ m, i = m + 1 := ⟨i - 1, by omega⟩
              obtain ⟨h0, hr0, p0, p1⟩ := HPr.out m rfl
              have hlt0 : ltH h0 h = true := by
                cases hq : ltH h0 h with
                | true => rfl
                | false => exact absurd ⟨m, h0, rfl, hr0, hq⟩ hbad
              unfold ltH at hlt0
              have hlt1 := of_decide_eq_true hlt0
              have hid : decide (0 < (m : Int) + 1) = true := decide_eq_true (by omega)
              have hid2 : decide (0 < m + 1) = true := decide_eq_true (by omega)
              have hml : (m : Int) < (s.hooks.length : Int) := by omega
              have hm0 : (0 : Int) ≤ (m : Int) := by omega
              have hd0 : decide (h.bed < h0.bed) = false := decide_eq_false (by omega)
              clear HPr HRn hbad HI hr0 hlt0 hi0
              by_cases hbe : h0.bed = h.bed
              · have hd1 : (h0.bed == h.bed) = true := by simp [hbe]
                have hd2 : decide (h.at_ ≤ h0.at_) = false := decide_eq_false (by omega)
                clear hlt1 hbe
                go_quiet (fail)
                go_wp2_with fail
                go_meet
                exact ⟨rfl, HN.out _⟩
              · have hd1 : (h0.bed == h.bed) = false := beq_eq_false_iff_ne.2 hbe
                clear hlt1 hbe
                go_quiet (fail)
                go_wp2_with fail
                go_meet
                exact ⟨rfl, HN.out _⟩
          case rest =>
            obtain ⟨rfl, HI2⟩ := hcut
            clear HPr HRn hbad HI x0 x1 x2 f0 f1 f2 f3 HB1 hbw1
            obtain ⟨x0, x1, x2⟩ := HI2.out.box
            have hbc := HI2.out.below
            have hbwc : Below w.heap.size w wc := HAl.out.trans (hbc.mono (by omega))
            go_wp2
            go_loopw [6] (fun s6 wr => ∃ k : Nat, k ≤ h.loops.length ∧ s6 = .int .i64 (k : Int) ∧ Hid (good s.made.length (heldKB (s.hooks.take i) ++ h.loops.take k)) ∧ Hid (InR w0 sb bx s.made.length h (.slice A' h.loops.length C') (heldKB (s.hooks.take i) ++ h.loops.take k) wr)) (fun s6 _ => h.loops.length - (intOf s6).toNat)
            case atStart => exact ⟨0, Nat.zero_le _, rfl, by rw [List.take_zero, List.append_nil]; exact HG.out, by rw [List.take_zero, List.append_nil]; exact HI2.out⟩
            case round =>
              obtain ⟨k, hk, rfl, HGk, HIk⟩ := hrel
              clear HI2 x0 x1 x2
              obtain ⟨y0, y1, y2⟩ := HIk.out.box
              have hbk := HIk.out.below
              have hbwk : Below w.heap.size w wr := HAl.out.trans (hbk.mono (by omega))
              obtain ⟨e0, e1, e2, e3⟩ := HCS.out wr (hbk.mono (by omega))
              by_cases hkl : k < h.loops.length
              case pos =>
                obtain ⟨b2, off2, x, hA2, hB2, hx, hcx⟩ := HSi0.out.at_ hkl
                have g0 := (bcell hbwk hB2 _).trans hcx
                rw [hA2] at y2
                have hin : x ∈ heldL s := by
                  rw [heldL_all, heldK_split HR.out]
                  exact List.mem_append_right _ (List.mem_append_left _ (List.mem_of_getElem? hx))
                have HT : Hid (heldKB (s.hooks.take i) ++ h.loops.take (k + 1) = (heldKB (s.hooks.take i) ++ h.loops.take k) ++ [x]) := by
                  obtain ⟨hk', e⟩ := List.getElem?_eq_some_iff.1 hx
                  unfold Hid
                  rw [List.take_succ_eq_append_getElem hk', e, List.append_assoc]
                have HTw : Hid (x ∈ heldKB (s.hooks.take i) ++ h.loops.take k → bedE s = 8) := fun hm => by
                  obtain ⟨hk', e⟩ := List.getElem?_eq_some_iff.1 hx
                  refine dist_twice (P := heldKB (s.hooks.take i) ++ h.loops.take k) (Q := h.loops.drop (k + 1) ++ heldKB (s.hooks.drop (i + 1))) ?_ hm
                  have hl : h.loops = h.loops.take k ++ x :: h.loops.drop (k + 1) := by
                    rw [← e, ← List.drop_eq_getElem_cons hk', List.take_append_drop]
                  rw [heldL_all, heldK_split HR.out]
                  conv => lhs; rw [hl]
                  simp
                have HBk := Lib.hid hbwk
                by_cases x1 : x < 0
                · have HF : Hid (bedE s = 8) := dist_range hin (by omega)
                  exact absurd (HF.out.symm.trans HE0.out) (by decide)
                have hdx : decide (x < 0) = false := decide_eq_false x1
                by_cases x2 : (s.made.length : Int) ≤ x
                · have HF : Hid (bedE s = 8) := dist_range hin (by omega)
                  exact absurd (HF.out.symm.trans HE0.out) (by decide)
                have hdy : decide ((s.made.length : Int) ≤ x) = false := decide_eq_false x2
                obtain ⟨xn, rfl⟩ := Int.eq_ofNat_of_zero_le (show 0 ≤ x by omega)
                have hdz : decide (s.made.length ≤ xn) = false := decide_eq_false (by omega)
                have hxn : xn < s.made.length := by omega
                have hsc := HIk.out.seen.cell hxn
                have hsf := World.ownsRow.frozenAt HIk.out.seen xn
                by_cases hm : (xn : Int) ∈ heldKB (s.hooks.take i) ++ h.loops.take k
                · have HF : Hid (bedE s = 8) := HTw.out hm
                  exact absurd (HF.out.symm.trans HE0.out) (by decide)
                · rw [decide_eq_false hm] at hsc
                  have HGn := Lib.hid (good_snoc HGk.out ⟨by omega, by omega⟩ hm)
                  rw [← HT.out] at HGn
                  have HIm : Hid (∀ nq, InR w0 sb bx s.made.length h (.slice A' h.loops.length C') (heldKB (s.hooks.take i) ++ h.loops.take (k + 1)) ((wr.drewN nq).setCell ⟨sb, xn, none⟩ (.bool true))) := fun nq => by
                    rw [HT.out]; exact (HIk.out.to (below_drewN (Below.refl _ _) nq)).mark xn
                  clear HT HTw HGk HIk hin hx hm
                  go_wp2
                  go_quiet (fail)
                  go_wp2
                  go_roundw
                  case rel => exact ⟨k + 1, by omega, by go_num, HGn, HIm.out _⟩
                  case measure => simp [intOf]; omega
              case neg =>
                obtain rfl : k = h.loops.length := by omega
                have HE : Hid (heldKB (s.hooks.take (i + 1)) = heldKB (s.hooks.take i) ++ h.loops) := heldK_snoc HR.out
                have HG2 : Hid (good s.made.length (heldKB (s.hooks.take (i + 1)))) := by have := HGk.out; rw [List.take_length] at this; rw [HE.out]; exact this
                have HS2 : Hid (SeenAt wr w0.heap.size sb s.made.length (heldKB (s.hooks.take (i + 1)))) := by have := HIk.out.seen; rw [List.take_length] at this; rw [HE.out]; exact this
                clear HGk HIk HE hkl
                go_wp2
                go_roundw
                case rel => exact ⟨i + 1, _, _, by have := HR0.out.2; omega, by go_num, rfl, rfl, HQ, HRt, HG2, HS2, hbk⟩
                case measure => have := HR0.out.2; simp [intOf]; omega
    case neg =>
      have hie : i = s.hooks.length := by omega
      subst hie
      have HHk : Hid (∀ h ∈ s.hooks, hookOk h = true) := by have := H.out; rwa [List.take_length] at this
      have HRh : Hid (risB ltH s.hooks = true) := by have := HRi.out; rwa [List.take_length] at this
      have HDi : Hid (distB (heldL s) s.made.length = true) := by
        have := HG.out
        rw [List.take_length] at this
        unfold Hid distB
        rw [heldL_all, decide_eq_true this.1, decide_eq_true this.2]; rfl
      clear H HRi HG HSe hi hlt hmr HB3 hbww
      go_wp2
      go_loopw [7, 8] (fun s7 s8 wr => ∃ (i : Nat) (v8 : Value), i ≤ s.feeds.length ∧ s7 = .int .i64 (i : Int) ∧ v8 = s8 ∧ Hid (∀ f ∈ s.feeds.take i, feedOk f = true) ∧ Hid (risB ltF (s.feeds.take i) = true) ∧ Below w0.heap.size w0 wr) (fun s7 _ _ => s.feeds.length - (intOf s7).toNat)
      case atStart => exact ⟨0, _, Nat.zero_le _, rfl, rfl, (fun h hh => by simp at hh), (by simp [Hid, risB]), hbw⟩
      case round =>
        obtain ⟨i, v8, hi, rfl, rfl, H, HRi, hbw⟩ := hrel
        have hbww : Below w.heap.size w wr := HAl.out.trans (hbw.mono (by omega))
        obtain ⟨c0, c1, c2, c3⟩ := HCS.out wr (hbw.mono (by omega))
        by_cases hlt : i < s.feeds.length
        case pos =>
          obtain ⟨b, off, f, hA, hB, hr, q0, q1, q2⟩ := HS.out.feeds.at_ hlt
          have d0 := (bcell hbww hB _).trans q0
          have d1 := (bcell hbww hB _).trans q1
          have d2 := (bcell hbww hB _).trans q2
          have HBad : Hid (feedOk f = false → bedE s = 8) := fun hh => bed_feed (List.mem_of_getElem? hr) hh
          have HR := Lib.hid hr
          have HB := Lib.hid hbww
          have hbz := hbw.size
          have HA := Lib.hid hA
          rw [hA] at c2
          clear q0 q1 q2 hr hA
          go_upto_region 22 with fail
          obtain ⟨bx, hbx⟩ : ∃ bx, bx = wr.heap.size := ⟨_, rfl⟩
          refine abs_world (Q := fun W => Code.wp _ _ _ _ W) (F := fun W => Below w0.heap.size w0 W ∧ W.cell? ⟨wr.heap.size, 0, none⟩ = some (.int .i64 f.car) ∧ W.cell? ⟨wr.heap.size, 1, none⟩ = some (.bool f.fresh) ∧ W.cell? ⟨wr.heap.size, 2, none⟩ = some (.int .i64 f.place)) _ ?_ ?_
          · exact ⟨hbw.alloc hbz _, cell_new rfl rfl rfl, cell_new rfl rfl rfl, cell_new rfl rfl rfl⟩
          rintro W1 ⟨hb1, x0, x1, x2⟩
          rw [← hbx] at x0 x1 x2 ⊢
          have hbw1 : Below w.heap.size w W1 := HAl.out.trans (hb1.mono (by omega))
          obtain ⟨f0, f1, f2, f3⟩ := HCS.out W1 (hb1.mono (by omega))
          have hxl := lt_of_cell x0
          have HX := Lib.hid (show _ ∧ _ ∧ _ from ⟨x0, x1, x2⟩)
          have HB1 := Lib.hid hbw1
          have HB0 := Lib.hid hb1
          rw [HA.out] at f2
          have hprev : ∀ m, i = m + 1 → ∃ g0 : Fd, s.feeds[m]? = some g0 ∧ W1.cell? ⟨b, off + m * 3, none⟩ = some (.int .i64 g0.car) := fun m e => by
            obtain ⟨b', off', g0, hA0, hB0, hr0, p0, _, _⟩ := HS.out.feeds.at_ (show m < s.feeds.length by omega)
            rw [HA.out] at hA0
            cases hA0
            exact ⟨g0, hr0, (bcell hbw1 hB0 _).trans p0⟩
          have HPr := Lib.hid hprev
          have HRn : Hid (∀ m g0, i = m + 1 → s.feeds[m]? = some g0 → risB ltF (s.feeds.take (i + 1)) = ltF g0 f) := fun m g0 e hr0 => by
            subst e
            exact ris_take hr0 HR.out HRi.out
          have HRz : Hid (i = 0 → risB ltF (s.feeds.take (i + 1)) = true) := fun e => by
            subst e
            cases hh : s.feeds with
            | nil => rfl
            | cons a t => rfl
          have HRb : Hid (risB ltF (s.feeds.take (i + 1)) = false → bedE s = 8) := fun e => risF_bad (ris_not e)
          have HN := Lib.hid (fun w => rfeed_any f.car w)
          clear hbx c0 c1 c2 c3 d0 d1 d2 hbw hbz hbww HB hprev HRi hb1 hbw1
          by_cases hcp : carP f.car
          case neg =>
            have HF : Hid (bedE s = 8) := HBad.out (by unfold feedOk; rw [decide_eq_false hcp]; rfl)
            exact absurd (HF.out.symm.trans HE0.out) (by decide)
          case pos =>
            have HCp := Lib.hid hcp
            rw [decide_eq_true hcp] at HN
            clear hcp
            by_cases hbad : ∃ m g0, i = m + 1 ∧ s.feeds[m]? = some g0 ∧ ltF g0 f = false
            case pos =>
              obtain ⟨m, g0, rfl, hr0, hlt0⟩ := hbad
              obtain ⟨g0', hr0', p0⟩ := HPr.out m rfl
              rw [hr0] at hr0'
              obtain rfl : g0 = g0' := by simpa using hr0'
              have HF : Hid (bedE s = 8) := HRb.out ((HRn.out m g0 rfl hr0).trans hlt0)
              exact absurd (HF.out.symm.trans HE0.out) (by decide)
            case neg =>
              have HRt : Hid (risB ltF (s.feeds.take (i + 1)) = true) := by
                by_cases hz : i = 0
                · exact HRz.out hz
                · obtain ⟨g0, hr0, _⟩ := HPr.out (i - 1) (by omega)
                  have := HRn.out (i - 1) g0 (by omega) hr0
                  cases hq : ltF g0 f with
                  | true => exact this.trans hq
                  | false => exact absurd ⟨i - 1, g0, by omega, hr0, hq⟩ hbad
              clear HRb HRz
              go_cut [173] (fun s173 wr => s173 = .bool false ∧ Hid (∃ nq, wr = W1.drewN nq))
              case first =>
                clear H HRt HS HBad
                by_cases hi0 : i = 0
                · have hid : decide (0 < (i : Int)) = false := decide_eq_false (by omega)
                  have hid2 : decide (0 < i) = false := decide_eq_false (by omega)
                  clear HPr HRn hbad hi0
                  go_quiet ((go_at_call 33; exact quiet_left (HN.out _)))
                  go_wp2_with fail
                  go_meet
                  exact ⟨rfl, _, rfl⟩
                · obtain ⟨m, rfl⟩ : ∃ m, i = m + 1 := ⟨i - 1, by omega⟩
                  obtain ⟨g0, hr0, p0⟩ := HPr.out m rfl
                  have hlt0 : ltF g0 f = true := by
                    cases hq : ltF g0 f with
                    | true => rfl
                    | false => exact absurd ⟨m, g0, rfl, hr0, hq⟩ hbad
                  unfold ltF at hlt0
                  have hlt1 := of_decide_eq_true hlt0
                  have hid : decide (0 < (m : Int) + 1) = true := decide_eq_true (by omega)
                  have hid2 : decide (0 < m + 1) = true := decide_eq_true (by omega)
                  have hml : (m : Int) < (s.feeds.length : Int) := by omega
                  have hm0 : (0 : Int) ≤ (m : Int) := by omega
                  have hd0 : decide (f.car ≤ g0.car) = false := decide_eq_false (by omega)
                  clear HPr HRn hbad hr0 hlt0 hlt1 hi0
                  go_quiet ((go_at_call 33; exact quiet_left (HN.out _)))
                  go_wp2_with fail
                  go_meet
                  exact ⟨rfl, _, rfl⟩
              case rest =>
                obtain ⟨rfl, nq, rfl⟩ := hcut
                have x0 : (W1.drewN nq).cell? ⟨bx, 0, none⟩ = some (.int .i64 f.car) := HX.out.1
                have x1 : (W1.drewN nq).cell? ⟨bx, 1, none⟩ = some (.bool f.fresh) := HX.out.2.1
                have x2 : (W1.drewN nq).cell? ⟨bx, 2, none⟩ = some (.int .i64 f.place) := HX.out.2.2
                have HBd := Lib.hid (below_drewN HB1.out nq)
                have HBe := Lib.hid (below_drewN HB0.out nq)
                generalize W1.drewN nq = W2 at x0 x1 x2 HBd HBe ⊢
                have HO : Hid (feedOk f = (if f.fresh then decide (f.place = 0) else decide (f.place % 2 = 1 ∧ -217 ≤ f.place ∧ f.place ≤ 217))) := by unfold Hid feedOk; rw [decide_eq_true HCp.out, Bool.true_and]
                have HQ : Hid (feedOk f = true → ∀ g ∈ s.feeds.take (i + 1), feedOk g = true) := fun hok => all_snoc HR.out H.out hok
                have hbe := HBe.out
                clear HPr HRn hbad HX HB1 HB0 f0 f1 f2 f3 H HN
                generalize f.place = fp at x2 HO
                cases hff : f.fresh with
                | true =>
                  rw [hff] at x1 HO
                  by_cases f3 : fp = 0
                  · have hok : feedOk f = true := by rw [HO.out, f3]; rfl
                    have HQ2 := Lib.hid (HQ.out hok)
                    have e3 : (fp != 0) = false := by simp [f3]
                    have e4 : (fp == 0) = true := by simp [f3]
                    clear HBad HO hok f3 HQ hff
                    go_wp2
                    go_roundw
                    case rel => exact ⟨i + 1, _, by omega, by go_num, rfl, HQ2, HRt, hbe⟩
                    case measure => simp [intOf]; omega
                  · have HF : Hid (bedE s = 8) := HBad.out (by rw [HO.out, if_pos rfl, decide_eq_false f3])
                    exact absurd (HF.out.symm.trans HE0.out) (by decide)
                | false =>
                  rw [hff] at x1 HO
                  have ht := tmod2 fp
                  by_cases n0 : fp % 2 = 0
                  · have HF : Hid (bedE s = 8) := HBad.out (by rw [HO.out, if_neg (by simp), decide_eq_false (by omega)])
                    exact absurd (HF.out.symm.trans HE0.out) (by decide)
                  · rw [decide_eq_false n0] at ht
                    have ht2 : (fp % 2 == 0) = false := beq_eq_false_iff_ne.2 n0
                    by_cases n1 : fp < -217
                    · have HF : Hid (bedE s = 8) := HBad.out (by rw [HO.out, if_neg (by simp), decide_eq_false (by omega)])
                      exact absurd (HF.out.symm.trans HE0.out) (by decide)
                    by_cases n2 : 217 < fp
                    · have HF : Hid (bedE s = 8) := HBad.out (by rw [HO.out, if_neg (by simp), decide_eq_false (by omega)])
                      exact absurd (HF.out.symm.trans HE0.out) (by decide)
                    · have hok : feedOk f = true := by rw [HO.out, if_neg (by simp), decide_eq_true (by omega)]
                      have HQ2 := Lib.hid (HQ.out hok)
                      clear HBad HO hok n0 HQ hff
                      go_wp2
                      go_roundw
                      case rel => exact ⟨i + 1, _, by omega, by go_num, rfl, HQ2, HRt, hbe⟩
                      case measure => simp [intOf]; omega
        case neg =>
          have hie : i = s.feeds.length := by omega
          subst hie
          have HFd : Hid (∀ f ∈ s.feeds, feedOk f = true) := by have := H.out; rwa [List.take_length] at this
          have HRf : Hid (risB ltF s.feeds = true) := by have := HRi.out; rwa [List.take_length] at this
          have HE : Hid (bedE s = if madeAll 0 s.made then 0 else 8) := by
            have e1 : s.hooks.all hookOk = true := List.all_eq_true.2 HHk.out
            have e2 : s.feeds.all feedOk = true := List.all_eq_true.2 HFd.out
            unfold Hid bedE bedOk
            rw [HTop.out, e1, e2, HRh.out, HRf.out, HDi.out]
            simp
          clear H HRi HHk HRh HDi HFd HRf hi hlt hbww
          go_wp2
          clear c0 c1 c2 c3
          go_loopw [9, 10, 11] (fun s9 s10 s11 wr => ∃ (i : Nat) (v10 v11 : Value), i ≤ s.made.length ∧ s9 = .int .i64 (i : Int) ∧ v10 = s10 ∧ v11 = s11 ∧ Hid (∀ j m, j < i → s.made[j]? = some m → madeOk j m = true) ∧ Below w0.heap.size w0 wr) (fun s9 _ _ _ => s.made.length - (intOf s9).toNat)
          case atStart => exact ⟨0, _, _, Nat.zero_le _, rfl, rfl, rfl, (fun j m hj => absurd hj (Nat.not_lt_zero j)), hbw⟩
          case round =>
            obtain ⟨i, v10, v11, hi, rfl, rfl, rfl, H, hbw⟩ := hrel
            have hbww : Below w.heap.size w wr := HAl.out.trans (hbw.mono (by omega))
            obtain ⟨c0, c1, c2, c3⟩ := HCS.out wr (hbw.mono (by omega))
            by_cases hlt : i < s.made.length
            case pos =>
              obtain ⟨b, off, m, A', C', hA, hB, hr, q0, q1, q2, q3, hC, hsi⟩ := HS.out.made.at_ hlt
              have d0 := (bcell hbww hB _).trans q0
              have d1 := (bcell hbww hB _).trans q1
              have d2 := (bcell hbww hB _).trans q2
              have d3 := (bcell hbww hB _).trans q3
              have hmw := HW.out.2 m (List.mem_of_getElem? hr)
              have HBad : Hid (madeOk i m = false → bedE s = 8) := fun hh => bed_made hr hh
              have HOk : Hid (madeOk i m = true → ∀ j x, j < i + 1 → s.made[j]? = some x → madeOk j x = true) := fun hok j x hj hx => by
                by_cases e : j = i
                · subst e; rw [hr] at hx; cases hx; exact hok
                · exact H.out j x (by omega) hx
              have HN := Lib.hid (fun w => rat_any m.at_ w)
              have HC := Lib.hid (fun w => rfeed_any m.car w)
              have HB := Lib.hid hbww
              have HSi := Lib.hid hsi
              have hbz := hbw.size
              rw [hA] at c3
              clear q0 q1 q2 q3 hr hA hsi H
              by_cases g1 : 1 < m.bed
              · have HF : Hid (bedE s = 8) := HBad.out (by unfold madeOk; rw [decide_eq_false (fun h => by omega)]; rfl)
                exact absurd (HF.out.symm.trans HE0.out) (by decide)
              by_cases g2 : needleP m.at_
              case neg =>
                have HF : Hid (bedE s = 8) := HBad.out (by unfold madeOk; rw [decide_eq_false (fun h => g2 h.2.1)]; rfl)
                exact absurd (HF.out.symm.trans HE0.out) (by decide)
              case pos =>
                have HG2 := Lib.hid g2
                rw [decide_eq_true g2] at HN
                clear g2
                by_cases g3 : carP m.car
                case neg =>
                  have HF : Hid (bedE s = 8) := HBad.out (by unfold madeOk; rw [decide_eq_false (fun h => g3 h.2.2.1)]; rfl)
                  exact absurd (HF.out.symm.trans HE0.out) (by decide)
                case pos =>
                  have HG3 := Lib.hid g3
                  rw [decide_eq_true g3] at HC
                  clear g3
                  by_cases g4 : 6 < m.parents.length
                  · have HF : Hid (bedE s = 8) := HBad.out (by unfold madeOk; rw [decide_eq_false (fun h => by omega)]; rfl)
                    exact absurd (HF.out.symm.trans HE0.out) (by decide)
                  have HO : Hid (madeOk i m = distB m.parents i) := by unfold Hid madeOk; rw [decide_eq_true ⟨by omega, HG2.out, HG3.out, by omega⟩, Bool.true_and]
                  clear HG2 HG3
                  go_upto_region 32 with (first | (go_at_call 32; refine (HN.out _).mono ?_; rintro e wn ⟨rfl, rfl⟩) | (go_at_call 33; refine (HC.out _).mono ?_; rintro e wn ⟨rfl, rfl⟩))
                  obtain ⟨bx, hbx⟩ : ∃ bx, bx = wr.heap.size := ⟨_, rfl⟩
                  refine abs_world (Q := fun W => Code.wp _ _ _ _ W) (F := fun W => Below w0.heap.size w0 W ∧ W.cell? ⟨wr.heap.size, 0, none⟩ = some (.slice A' m.parents.length C') ∧ wr.heap.size < W.heap.size) _ ?_ ?_
                  · exact ⟨hbw.alloc hbz _, cell_new rfl rfl rfl, by simp⟩
                  rintro W1 ⟨hb1, x0, hxl⟩
                  rw [← hbx] at x0 hxl ⊢
                  have HX := Lib.hid x0
                  have HB1 := Lib.hid hb1
                  clear hbx c0 c1 c2 c3 d0 d1 d2 d3 hbw hbz hbww HB hb1 HN HC hmw
                  go_wp2
                  clear x0
                  go_loopw [11] (fun s11 wr => ∃ (k : Nat), k ≤ m.parents.length ∧ s11 = .int .i64 (k : Int) ∧ Hid ((∀ x ∈ m.parents.take k, 0 ≤ x ∧ x < (i : Int)) ∧ (m.parents.take k).Nodup) ∧ Hid (Below w0.heap.size w0 wr) ∧ Hid (wr.cell? ⟨bx, 0, none⟩ = some (.slice A' m.parents.length C'))) (fun s11 _ => m.parents.length - (intOf s11).toNat)
                  case atStart => exact ⟨0, Nat.zero_le _, rfl, by simp [Hid], HB1, HX⟩
                  case round =>
                    obtain ⟨k, hk, rfl, HD, HBd, HX⟩ := hrel
                    have x0 : wr.cell? ⟨bx, 0, none⟩ = some (.slice A' m.parents.length C') := HX.out
                    have hbwd : Below w.heap.size w wr := HAl.out.trans (HBd.out.mono (by omega))
                    by_cases hkl : k < m.parents.length
                    case pos =>
                      obtain ⟨b2, off2, x, hA2, hB2, hx, hcx⟩ := HSi.out.at_ hkl
                      have g0 := (bcell hbwd hB2 _).trans hcx
                      have HHs := Lib.hid (fun n => rhas_any A' C' (m.parents.take k) x (by rw [List.length_take]; omega) (wr.drewN n) (slI_take ((HSi.out.below (below_drewN hbwd n)).more (below_drewN hbwd n).size) k))
                      have hlk : (m.parents.take k).length = k := by rw [List.length_take]; omega
                      rw [hlk, hA2] at HHs
                      rw [hA2] at x0
                      have HT : Hid (m.parents.take (k + 1) = m.parents.take k ++ [x]) := by
                        obtain ⟨hk', e⟩ := List.getElem?_eq_some_iff.1 hx
                        unfold Hid
                        rw [List.take_succ_eq_append_getElem hk', e]
                      have HR : Hid (¬ (0 ≤ x ∧ x < (i : Int)) → bedE s = 8) := fun hh => HBad.out (by
                        rw [HO.out]; unfold distB
                        rw [decide_eq_false (fun h => hh (h x (List.mem_of_getElem? hx)))]; rfl)
                      have HTw : Hid (x ∈ m.parents.take k → bedE s = 8) := fun hm => HBad.out (by
                        rw [HO.out]; unfold distB
                        have hn : ¬ m.parents.Nodup := fun hn => by
                          have h2 := hn.sublist (List.take_sublist (k + 1) m.parents)
                          rw [HT.out, List.nodup_append] at h2
                          exact h2.2.2 x hm x (by simp) rfl
                        rw [decide_eq_false hn, Bool.and_false])
                      have HBw := Lib.hid hbwd
                      have hk0 : (0 : Int) ≤ (k : Int) := by omega
                      have hkn : (k : Int) < (m.parents.length : Int) := by omega
                      have hkc : (k : Int) ≤ (C' : Int) := by omega
                      have hkc2 : k ≤ C' := by omega
                      have hsz := hbwd.size
                      clear hx hcx hbwd hlk hA2
                      by_cases x1 : x < 0
                      · have HF : Hid (bedE s = 8) := HR.out (by omega)
                        exact absurd (HF.out.symm.trans HE0.out) (by decide)
                      have hdx : decide (x < 0) = false := decide_eq_false x1
                      by_cases x2 : (i : Int) ≤ x
                      · have HF : Hid (bedE s = 8) := HR.out (by omega)
                        exact absurd (HF.out.symm.trans HE0.out) (by decide)
                      have hdy : decide ((i : Int) ≤ x) = false := decide_eq_false x2
                      by_cases hm : x ∈ m.parents.take k
                      · have HF : Hid (bedE s = 8) := HTw.out hm
                        exact absurd (HF.out.symm.trans HE0.out) (by decide)
                      · have hany : ((m.parents.take k).any fun y => decide (y = x)) = false := List.any_eq_false.2 (fun y hy => by simp; intro e; subst e; exact hm hy)
                        rw [hany] at HHs
                        have HDn : Hid ((∀ y ∈ m.parents.take (k + 1), 0 ≤ y ∧ y < (i : Int)) ∧ (m.parents.take (k + 1)).Nodup) := by
                          have := good_snoc (n := i) (P := m.parents.take k) (x := x) HD.out ⟨by omega, by omega⟩ hm
                          rw [HT.out]; exact this
                        clear HR HTw HT HD HOk HBad HO hany hm
                        go_wp2
                        go_quiet ((go_at_call 34; exact quiet_left (HHs.out _)))
                        go_wp2
                        go_roundw
                        case rel => exact ⟨k + 1, by omega, by go_num, HDn, below_drewN HBd.out _, HX.out⟩
                        case measure => simp [intOf]; omega
                    case neg =>
                      have hke : k = m.parents.length := by omega
                      subst hke
                      have hok : madeOk i m = true := by
                        rw [HO.out]; unfold distB
                        have := HD.out
                        rw [List.take_length] at this
                        rw [decide_eq_true this.1, decide_eq_true this.2]; rfl
                      have HOk2 := Lib.hid (HOk.out hok)
                      have hbd := HBd.out
                      clear HOk hok HD HBad HO hkl
                      go_wp2
                      go_roundw
                      case rel => exact ⟨i + 1, _, _, by omega, by go_num, rfl, rfl, HOk2, hbd⟩
                      case measure => simp [intOf]; omega
            case neg =>
              have hie : i = s.made.length := by omega
              subst hie
              have HF : Hid (bedE s = 0) := by
                rw [Hid, HE.out, if_pos (madeAll_true (i := 0) (fun k m hk => by rw [Nat.zero_add]; exact H.out k m (List.getElem?_eq_some_iff.1 hk).1 hk))]
              have HBw := Lib.hid hbww
              clear H HE hlt hi
              go_wp2
              go_ret
              exact RetB8.mk' HF.out HBw.out
end Go.Proofs.YtbnddpknejgmhaaGreat
