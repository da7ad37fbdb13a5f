/- BedDoes, walked: Instr, Check and Do return what the reference returns. -/
import Derived.Test.YtjoglkamhjcmhaaKRdo
import Derived.Test.YtjoglkamhjcmhaaKValid
namespace Go.Proofs.Ytjoglkamhjcmhaa
open Go.RowKit Go.Shelf Go.Sort
set_option maxRecDepth 100000

structure Vl2 (w : World) (s : BedS) (p : BedP) (i : Ins) (b1 b2 : Nat) (t : BedS) (q1 q2 : BedP) (W : World) : Prop where
  a : VlA w s p i W
  s1 : Bx W b1 t q1
  s2 : Bx W b2 t q2
theorem Vl2.to {w W W' : World} {s t : BedS} {p q1 q2 : BedP} {i : Ins} {b1 b2 : Nat} (h : Vl2 w s p i b1 b2 t q1 q2 W) (hb : Below W.heap.size W W') : Vl2 w s p i b1 b2 t q1 q2 W' := ⟨h.a.to hb, h.s1.to hb, h.s2.to hb⟩
theorem good_fits {t : BedS} (h : Good t) : (t.hooks.length ≤ 9000 ∧ t.feeds.length ≤ 9000 ∧ t.made.length ≤ 9000) ∧ (∀ x ∈ t.hooks, x.loops.length ≤ 6) ∧ ∀ m ∈ t.made, m.parents.length ≤ 6 :=
  ⟨⟨by have := h.seek.1; omega, by have := h.fd.len; omega, by have := h.len; omega⟩, fun x hx => (bed_loops h.err x hx).2, bed_parents h.err⟩
theorem bed0_fits : (bed0.hooks.length ≤ 9000 ∧ bed0.feeds.length ≤ 9000 ∧ bed0.made.length ≤ 9000) ∧ (∀ x ∈ bed0.hooks, x.loops.length ≤ 6) ∧ ∀ m ∈ bed0.made, m.parents.length ≤ 6 :=
  ⟨⟨by decide, by decide, by decide⟩, fun _ h => absurd h List.not_mem_nil, fun _ h => absurd h List.not_mem_nil⟩
theorem doS_fits {s : BedS} (hwf : s.wf) {i : Ins} (hwi : i.wf) : ((doS s i).1.hooks.length ≤ 9000 ∧ (doS s i).1.feeds.length ≤ 9000 ∧ (doS s i).1.made.length ≤ 9000) ∧ (∀ x ∈ (doS s i).1.hooks, x.loops.length ≤ 6) ∧ ∀ m ∈ (doS s i).1.made, m.parents.length ≤ 6 := by
  by_cases h : (doS s i).2 = 0
  · exact good_fits (doS_ok hwf hwi h).2.2.1
  · rw [show (doS s i).1 = bed0 from congrArg Prod.fst (doS_bad h)]
    exact bed0_fits
theorem limb19 {a b c d e f g h i j k l m n o p q r s Q : Prop} (H : a ∧ b ∧ c ∧ d ∧ e ∧ f ∧ g ∧ h ∧ i ∧ j ∧ k ∧ l ∧ m ∧ n ∧ o ∧ p ∧ q ∧ r ∧ s ∧ Q) : Q := H.2.2.2.2.2.2.2.2.2.2.2.2.2.2.2.2.2.2.2
set_option maxHeartbeats 16000000 in
theorem does_walk (s : BedS) (p : BedP) (hwf : s.wf) (i : Ins) (hwi : i.wf) (w : World) (hs : BedAt w w.heap.size p s) :
    Calls Try.prog 4 #[s.val p, i.val] w fun e w' => e = .returned (.bool true) ∧ Below w.heap.size w w' := by
  have HG := Lib.hid (fun w => rgreat_bed s p w)
  have HV0 := Lib.hid (VlA.new hs i)
  have al : ∀ (W : World) (o : Obj), Below W.heap.size W (W.alloc o) := fun W o => (Below.refl _ W).alloc (Nat.le_refl _) o
  have HAl := Lib.hid al
  clear al
  cases hg : greatB s with
  | true =>
    rw [hg] at HG
    obtain ⟨c0, c1, c2, c3⟩ := HV0.out.st.cells
    unfold BedS.val at HG ⊢
    unfold Ins.val
    clear hs hg
    go_enter Try.func4, Try.ntmps4
    go_wp2_with fail
    refine (HG.out _).mono ?_
    rintro e w2 ⟨rfl, hb2⟩
    have HV2 := Lib.hid (HV0.out.to hb2)
    clear hb2 c0 c1 c2 c3
    go_wp2
    go_ret
    exact ⟨rfl, HV2.out.lo⟩
  | false =>
    rw [hg] at HG
    have hn := great_len hg
    have HDo : Hid (∀ W, VlA w s p i W → Calls Try.prog 18 #[s.val p, i.val] W fun e w' => ∃ q : BedP, e = .returned (.tuple #[(doS s i).1.val q, .int .i64 (doS s i).2]) ∧ BedAt w' w'.heap.size q (doS s i).1 ∧ Below W.heap.size W w') := fun W hv => by
      refine (bdo_any s p hwf hn (fun he => by have := great_small hg he; omega) i hwi W hv.st.state).mono ?_
      rintro e w' ⟨q, he, hf, hb⟩
      exact ⟨q, he, hf.at_, hb⟩
    have HRo : Hid (∀ W, VlA w s p i W → Calls Try.prog 19 #[s.val p, i.val] W fun e w' => ∃ q : BedP, e = .returned (.tuple #[(doS s i).1.val q, .int .i64 (doS s i).2]) ∧ BedAt w' w'.heap.size q (doS s i).1 ∧ Below W.heap.size W w') := fun W hv => by
      refine (rdo_any s p hwf hn i hwi W hv.st.state).mono ?_
      rintro e w' ⟨q, he, hf, hb⟩
      exact ⟨q, he, hf.at_, hb⟩
    have hfit := doS_fits hwf hwi (s := s) (i := i)
    obtain ⟨t, ht⟩ : ∃ t, t = (doS s i).1 := ⟨_, rfl⟩
    obtain ⟨x, hx⟩ : ∃ x, x = (doS s i).2 := ⟨_, rfl⟩
    rw [← ht] at HDo HRo hfit
    rw [← hx] at HDo HRo
    have HSm : Hid (∀ b1 b2 q1 q2 W, Vl2 w s p i b1 b2 t q1 q2 W → Calls Try.prog 24 #[t.val q1, t.val q2] W fun e w' => e = .returned (.bool true) ∧ Below W.heap.size W w') := fun b1 b2 q1 q2 W hv => rsame_any t q1 q2 hfit.1 hfit.2 W hv.s1.state hv.s2.state
    have HC1 : Hid (∀ W, VlA w s p i W → Calls Try.prog 22 #[s.val p] W fun e w' => e = .returned (.int .i64 (bedE s)) ∧ Below W.heap.size W w') := fun W hv => bcheck_any s p hwf ⟨by omega, by omega, by omega⟩ W hv.st.state
    have HC2 : Hid (∀ W, VlA w s p i W → Calls Try.prog 23 #[s.val p] W fun e w' => e = .returned (.int .i64 (bedE s)) ∧ Below W.heap.size W w') := fun W hv => rbcheck_any s p hwf ⟨by omega, by omega, by omega⟩ W hv.st.state
    have HI1 := Lib.hid (fun W => instr_any i W)
    have HI2 := Lib.hid (fun W => rinstr_any i W)
    unfold BedS.val at HG HDo HRo HSm HC1 HC2 ⊢
    unfold Ins.val at HDo HRo HI1 HI2 ⊢
    obtain ⟨y, hy⟩ : ∃ y, y = i.err := ⟨_, rfl⟩
    obtain ⟨z, hz⟩ : ∃ z, z = bedE s := ⟨_, rfl⟩
    rw [← hy] at HI1 HI2
    rw [← hz] at HC1 HC2
    obtain ⟨c0, c1, c2, c3⟩ := HV0.out.st.cells
    clear hs hg hn hfit ht hx hy hz
    go_enter Try.func4, Try.ntmps4
    go_wp2_with fail
    refine (HG.out _).mono ?_
    rintro e w2 ⟨rfl, hb2⟩
    have HV2 := Lib.hid (HV0.out.to hb2)
    clear hb2 c0 c1 c2 c3
    obtain ⟨c0, c1, c2, c3⟩ := HV2.out.st.cells
    obtain ⟨x0, x1, x2, x3, x4, x5, x6⟩ := HV2.out.ins
    go_wp2_with fail
    refine (HDo.out _ HV2.out).mono ?_
    rintro e w3 ⟨q1, rfl, hs3, hb3⟩
    have HV3 : Hid (VlB w s p i w3.heap.size t q1 (w3.alloc (bedBox t q1))) := ⟨(HV2.out.to hb3).to (HAl.out _ _), Bx.new hs3⟩
    clear hb3 hs3 c0 c1 c2 c3 x0 x1 x2 x3 x4 x5 x6
    obtain ⟨c0, c1, c2, c3⟩ := HV3.out.a.st.cells
    obtain ⟨x0, x1, x2, x3, x4, x5, x6⟩ := HV3.out.a.ins
    go_wp2_with fail
    refine (HRo.out _ HV3.out.a).mono ?_
    rintro e w4 ⟨q2, rfl, hs4, hb4⟩
    have hV4 : Vl2 w s p i w3.heap.size w4.heap.size t q1 q2 (w4.alloc (bedBox t q2)) := ⟨(HV3.out.a.to hb4).to (HAl.out _ _), (HV3.out.st.to hb4).to (HAl.out _ _), Bx.new hs4⟩
    clear hb4 hs4 c0 c1 c2 c3 x0 x1 x2 x3 x4 x5 x6 HV3 HV2 HV0
    go_upto_region 5 with fail
    obtain ⟨b1, hb1⟩ : ∃ b1, b1 = w3.heap.size := ⟨_, rfl⟩
    refine abs_world (Q := fun W => Code.wp _ _ _ _ W) (F := Vl2 w s p i w3.heap.size w4.heap.size t q1 q2) _ hV4 ?_
    obtain ⟨b2, hb2⟩ : ∃ b2, b2 = w4.heap.size := ⟨_, rfl⟩
    rw [← hb1, ← hb2]
    clear hb1 hb2 hV4
    intro W hV
    have HV := Lib.hid hV
    clear hV
    have hbD : Below W.heap.size W W.drew := Below.drew (Below.refl _ _)
    have HSb : Hid (∀ W', Below W.heap.size W W' → W'.cell? ⟨w.heap.size, 0, none⟩ = some (.int .i64 s.rack) ∧ W'.cell? ⟨w.heap.size, 1, none⟩ = some (.slice p.ah s.hooks.length p.ch) ∧ W'.cell? ⟨w.heap.size, 2, none⟩ = some (.slice p.af s.feeds.length p.cf) ∧ W'.cell? ⟨w.heap.size, 3, none⟩ = some (.slice p.am s.made.length p.cm) ∧
        W'.cell? ⟨w.heap.size + 1, 0, none⟩ = some (.int .u8 i.op) ∧ W'.cell? ⟨w.heap.size + 1, 1, none⟩ = some (.bool i.right) ∧ W'.cell? ⟨w.heap.size + 1, 2, none⟩ = some (.int .u8 i.bed) ∧ W'.cell? ⟨w.heap.size + 1, 3, none⟩ = some (.int .i64 i.at_) ∧ W'.cell? ⟨w.heap.size + 1, 4, none⟩ = some (.int .i64 i.to_) ∧ W'.cell? ⟨w.heap.size + 1, 5, none⟩ = some (.int .i64 i.car) ∧ W'.cell? ⟨w.heap.size + 1, 6, none⟩ = some (.int .i64 i.rack) ∧
        W'.cell? ⟨b1, 0, none⟩ = some (.int .i64 t.rack) ∧ W'.cell? ⟨b1, 1, none⟩ = some (.slice q1.ah t.hooks.length q1.ch) ∧ W'.cell? ⟨b1, 2, none⟩ = some (.slice q1.af t.feeds.length q1.cf) ∧ W'.cell? ⟨b1, 3, none⟩ = some (.slice q1.am t.made.length q1.cm) ∧
        W'.cell? ⟨b2, 0, none⟩ = some (.int .i64 t.rack) ∧ W'.cell? ⟨b2, 1, none⟩ = some (.slice q2.ah t.hooks.length q2.ch) ∧ W'.cell? ⟨b2, 2, none⟩ = some (.slice q2.af t.feeds.length q2.cf) ∧ W'.cell? ⟨b2, 3, none⟩ = some (.slice q2.am t.made.length q2.cm) ∧ Below W.heap.size W W') := fun W' hb => by
      have h := HV.out.to hb
      obtain ⟨a0, a1, a2, a3⟩ := h.a.st.cells
      obtain ⟨e0, e1, e2, e3, e4, e5, e6⟩ := h.a.ins
      obtain ⟨f0, f1, f2, f3⟩ := h.s1.cells
      obtain ⟨g0, g1, g2, g3⟩ := h.s2.cells
      exact ⟨a0, a1, a2, a3, e0, e1, e2, e3, e4, e5, e6, f0, f1, f2, f3, g0, g1, g2, g3, hb⟩
    go_cut [4] (fun s44 wr => s44 = .bool true ∧ Hid (Below W.heap.size W wr))
    case first =>
      go_region_held3 (fun W' => W'.cell? ⟨w.heap.size, 0, none⟩ = some (.int .i64 s.rack) ∧ W'.cell? ⟨w.heap.size, 1, none⟩ = some (.slice p.ah s.hooks.length p.ch) ∧ W'.cell? ⟨w.heap.size, 2, none⟩ = some (.slice p.af s.feeds.length p.cf) ∧ W'.cell? ⟨w.heap.size, 3, none⟩ = some (.slice p.am s.made.length p.cm) ∧
        W'.cell? ⟨w.heap.size + 1, 0, none⟩ = some (.int .u8 i.op) ∧ W'.cell? ⟨w.heap.size + 1, 1, none⟩ = some (.bool i.right) ∧ W'.cell? ⟨w.heap.size + 1, 2, none⟩ = some (.int .u8 i.bed) ∧ W'.cell? ⟨w.heap.size + 1, 3, none⟩ = some (.int .i64 i.at_) ∧ W'.cell? ⟨w.heap.size + 1, 4, none⟩ = some (.int .i64 i.to_) ∧ W'.cell? ⟨w.heap.size + 1, 5, none⟩ = some (.int .i64 i.car) ∧ W'.cell? ⟨w.heap.size + 1, 6, none⟩ = some (.int .i64 i.rack) ∧
        W'.cell? ⟨b1, 0, none⟩ = some (.int .i64 t.rack) ∧ W'.cell? ⟨b1, 1, none⟩ = some (.slice q1.ah t.hooks.length q1.ch) ∧ W'.cell? ⟨b1, 2, none⟩ = some (.slice q1.af t.feeds.length q1.cf) ∧ W'.cell? ⟨b1, 3, none⟩ = some (.slice q1.am t.made.length q1.cm) ∧
        W'.cell? ⟨b2, 0, none⟩ = some (.int .i64 t.rack) ∧ W'.cell? ⟨b2, 1, none⟩ = some (.slice q2.ah t.hooks.length q2.ch) ∧ W'.cell? ⟨b2, 2, none⟩ = some (.slice q2.af t.feeds.length q2.cf) ∧ W'.cell? ⟨b2, 3, none⟩ = some (.slice q2.am t.made.length q2.cm) ∧ Below W.heap.size W W')
        (first | (with_reducible exact HSb.out _ (by assumption)) | fail)
        (first | (go_at_call 20; have hp := limb19 (by assumption); refine (HI1.out _).mono ?_; rintro e wd ⟨rfl, hbd⟩; have hbw := hp.trans (hbd.mono hp.size); clear hp) | (go_at_call 21; have hp := limb19 (by assumption); refine (HI2.out _).mono ?_; rintro e wd ⟨rfl, hbd⟩; have hbw := hp.trans (hbd.mono hp.size); clear hp) | (go_at_call 22; have hp := limb19 (by assumption); refine (HC1.out _ (HV.out.a.to hp)).mono ?_; rintro e wd ⟨rfl, hbd⟩; have hbw := hp.trans (hbd.mono hp.size); clear hp) | (go_at_call 23; have hp := limb19 (by assumption); refine (HC2.out _ (HV.out.a.to hp)).mono ?_; rintro e wd ⟨rfl, hbd⟩; have hbw := hp.trans (hbd.mono hp.size); clear hp) | (go_at_call 24; have hp := limb19 (by assumption); refine (HSm.out _ _ _ _ _ (HV.out.to hp)).mono ?_; rintro e wd ⟨rfl, hbd⟩; have hbw := hp.trans (hbd.mono hp.size); clear hp) | fail)
      all_goals
        go_wp2_with fail
        go_meet
        exact ⟨rfl, by assumption⟩
    case rest =>
      obtain ⟨rfl, HB⟩ := hcut
      have HO := Lib.hid (HV.out.a.to HB.out).lo
      clear HSb hbD HB HV
      go_wp2
      go_ret
      exact ⟨rfl, HO.out⟩
end Go.Proofs.Ytjoglkamhjcmhaa
