/- BedElse, walked. -/
import Derived.Test.YtjoglkamhjcmhaaKElse
namespace Go.Proofs.Ytjoglkamhjcmhaa
open Go.RowKit Go.Shelf Go.Sort
set_option maxRecDepth 100000

theorem feedR_ok {s : BedS} (h : Good s) {c : Int} (hc : carP c) : feedR s c = (match feedAt s.feeds c with | some f => (f, true, 0) | none => (defF, false, 0)) := by
  unfold feedR
  rw [if_neg (by rw [h.err]; simp), if_neg (by simpa using hc)]
  cases feedAt s.feeds c <;> rfl
theorem feedR_zero {s : BedS} (h : Good s) {c : Int} (hc : carP c) : (feedR s c).2.2 = 0 := by
  rw [feedR_ok h hc]
  split <;> rfl
theorem onR_ok {s : BedS} (h : Good s) {b n : Int} (hb : b ≤ 1) (hn : needleP n) : onR s b n = (heldAt s.hooks b n, 0) := by
  unfold onR
  rw [if_neg (by rw [h.err]; simp), if_neg (by simpa using And.intro hb hn)]
theorem Good.sizes {s : BedS} (h : Good s) : s.hooks.length ≤ 9000 ∧ s.feeds.length ≤ 9000 ∧ s.made.length ≤ 9000 := ⟨h.seek.1, h.fd.len, by have := h.len; omega⟩
theorem Good.parents {s : BedS} (h : Good s) : ∀ m ∈ s.made, m.parents.length ≤ 6 := bed_parents h.err
theorem fdBox_new (w : World) (f : Fd) : (w.alloc (.cells #[.int .i64 f.car, .bool f.fresh, .int .i64 f.place] 35)).cell? ⟨w.heap.size, 0, none⟩ = some (.int .i64 f.car) ∧ (w.alloc (.cells #[.int .i64 f.car, .bool f.fresh, .int .i64 f.place] 35)).cell? ⟨w.heap.size, 1, none⟩ = some (.bool f.fresh) ∧ (w.alloc (.cells #[.int .i64 f.car, .bool f.fresh, .int .i64 f.place] 35)).cell? ⟨w.heap.size, 2, none⟩ = some (.int .i64 f.place) :=
  ⟨cell_new rfl rfl rfl, cell_new rfl rfl rfl, cell_new rfl rfl rfl⟩
set_option maxHeartbeats 32000000 in
theorem else_walk (s : BedS) (p : BedP) (hwf : s.wf) (i : Ins) (hwi : i.wf) (b n : Int) (hb : 0 ≤ b ∧ b ≤ 255) (w : World) (hs : BedAt w w.heap.size p s) :
    Calls Try.prog 11 #[s.val p, i.val, .int .u8 b, .int .i64 n] w fun e w' => e = .returned (.bool true) ∧ Below w.heap.size w w' := by
  have HG := Lib.hid (fun w => rgreat_bed s p w)
  have HA := Lib.hid (fun w => alive_any w)
  have HV0 := Lib.hid (VlA.new hs i)
  have al : ∀ (W : World) (o : Obj), Below W.heap.size W (W.alloc o) := fun W o => (Below.refl _ W).alloc (Nat.le_refl _) o
  have HAl := Lib.hid al
  clear al
  cases hg : greatB s with
  | true => as_aux_lemma =>
    rw [hg] at HG
    unfold BedS.val at HG ⊢
    unfold Ins.val
    clear hs hg
    go_enter Try.func11, Try.ntmps11
    go_wp2_with fail
    refine (HA.out _).mono ?_
    rintro e w1 ⟨rfl, hb1⟩
    have HV1 := Lib.hid (HV0.out.to hb1)
    obtain ⟨c0, c1, c2, c3⟩ := HV1.out.st.cells
    clear hb1
    go_wp2_with fail
    refine (HG.out _).mono ?_
    rintro e w2 ⟨rfl, hb2⟩
    have HV2 := Lib.hid (HV1.out.to hb2)
    clear hb2 c0 c1 c2 c3
    go_wp2
    go_ret
    exact ⟨rfl, HV2.out.lo⟩
  | false =>
    rw [hg] at HG
    have hn := great_len hg
    have HDo : Hid (∀ W, VlA w s p i W → Calls Try.prog 18 #[s.val p, i.val] W fun e w' => bedOut (doS s i) W e w') := fun W hv => bdo_any s p hwf hn (fun he => by have := great_small hg he; omega) i hwi W hv.st.state
    by_cases hz : (doS s i).2 = 0
    case neg => as_aux_lemma =>
      have HDx : Hid (∀ W, VlA w s p i W → Calls Try.prog 18 #[s.val p, i.val] W fun e w' => ∃ q : BedP, e = .returned (.tuple #[.agg #[.int .i64 0, .slice q.ah 0 q.ch, .slice q.af 0 q.cf, .slice q.am 0 q.cm], .int .i64 (doS s i).2]) ∧ Below W.heap.size W w') := fun W hv => by
        refine (HDo.out W hv).mono ?_
        intro e w' h
        rw [doS_bad hz] at h
        obtain ⟨q, he, -, hb⟩ := h
        rw [doS_bad hz]
        exact ⟨q, he, hb⟩
      have e1 : ((doS s i).2 == 0) = false := by simp [hz]
      have e2 : ((doS s i).2 != 0) = true := by simp [hz]
      unfold BedS.val at HG HDx ⊢
      unfold Ins.val at HDx ⊢
      generalize (doS s i).2 = x at HDx e1 e2
      clear hs hg hz HDo hn
      go_enter Try.func11, Try.ntmps11
      go_wp2_with fail
      refine (HA.out _).mono ?_
      rintro e w1 ⟨rfl, hb1⟩
      have HV1 := Lib.hid (HV0.out.to hb1)
      obtain ⟨c0, c1, c2, c3⟩ := HV1.out.st.cells
      clear hb1
      go_wp2_with fail
      refine (HG.out _).mono ?_
      rintro e w2 ⟨rfl, hb2⟩
      have HV2 := Lib.hid (HV1.out.to hb2)
      clear hb2 c0 c1 c2 c3
      obtain ⟨c0, c1, c2, c3⟩ := HV2.out.st.cells
      obtain ⟨x0, x1, x2, x3, x4, x5, x6⟩ := HV2.out.ins
      go_wp2_with fail
      refine (HDx.out _ HV2.out).mono ?_
      rintro e w3 ⟨q, rfl, hb3⟩
      have HV3 := Lib.hid ((HV2.out.to hb3).to (HAl.out _ (.cells #[.int .i64 0, .slice q.ah 0 q.ch, .slice q.af 0 q.cf, .slice q.am 0 q.cm] 26)))
      clear hb3 c0 c1 c2 c3 x0 x1 x2 x3 x4 x5 x6
      go_wp2
      go_ret
      exact ⟨rfl, HV3.out.lo⟩
    case pos =>
      obtain ⟨hgs, hie, hgt, hdo, l, hml, -⟩ := doS_ok hwf hwi hz
      have HDx : Hid (∀ W, VlA w s p i W → Calls Try.prog 18 #[s.val p, i.val] W fun e w' => ∃ q : BedP, e = .returned (.tuple #[(doS s i).1.val q, .int .i64 0]) ∧ BedAt w' w'.heap.size q (doS s i).1 ∧ Below W.heap.size W w') := fun W hv => by
        refine (HDo.out W hv).mono ?_
        rintro e w' ⟨q, he, hf, hb⟩
        rw [hz] at he
        exact ⟨q, he, hf.at_, hb⟩
      have hel := doI_else hgs hwi (Ins.good_err hie) (by rw [← hdo]; exact hz)
      rw [← hdo] at hel
      generalize (doS s i).1 = t at HDx hgt hml hel
      have HGs := Lib.hid hgs
      have HGt := Lib.hid hgt
      have HEl := Lib.hid hel
      have HMl : Hid (∀ k m, s.made[k]? = some m → t.made[k]? = some m) := fun k m hm => by
        rw [hml, List.getElem?_append_left (List.getElem?_eq_some_iff.1 hm).1]
        exact hm
      have HLe : Hid (s.made.length ≤ t.made.length) := by unfold Hid; rw [hml, List.length_append]; omega
      have HCt : Hid (∀ b q W, VlB w s p i b t q W → Calls Try.prog 23 #[t.val q] W fun e w' => e = .returned (.int .i64 0) ∧ Below W.heap.size W w') := fun b q W hv => by
        have hz := HGt.out.sizes
        have := rbcheck_any t q HGt.out.wf ⟨by omega, by omega, by omega⟩ W hv.st.state
        unfold RetB8 at this
        rwa [HGt.out.err] at this
      have HFs : Hid (∀ b q W c, VlB w s p i b t q W → Calls Try.prog 15 #[s.val p, .int .i64 c] W fun e w' => feedOut s c W e w') := fun b q W c hv => by
        have hz := HGs.out.sizes
        exact feed_any s p HGs.out.wf ⟨by omega, by omega, by omega⟩ c W hv.a.st.state
      have HFt : Hid (∀ b q W c, VlB w s p i b t q W → Calls Try.prog 15 #[t.val q, .int .i64 c] W fun e w' => feedOut t c W e w') := fun b q W c hv => by
        have hz := HGt.out.sizes
        exact feed_any t q HGt.out.wf ⟨by omega, by omega, by omega⟩ c W hv.st.state
      have HOs : Hid (∀ bb q W, VlB w s p i bb t q W → Calls Try.prog 13 #[s.val p, .int .u8 b, .int .i64 n] W fun e w' => onOut s b n W e w') := fun bb q W hv => on_any s p HGs.out.wf HGs.out.sizes b n hb.1 W hv.a.st.state
      have HOt : Hid (∀ bb q W, VlB w s p i bb t q W → Calls Try.prog 13 #[t.val q, .int .u8 b, .int .i64 n] W fun e w' => onOut t b n W e w') := fun bb q W hv => on_any t q HGt.out.wf HGt.out.sizes b n hb.1 W hv.st.state
      have HB := Lib.hid hb
      unfold BedS.val at HG HDx HCt HFs HFt HOs HOt ⊢
      unfold Ins.val at HDx ⊢
      clear hs hg hz HDo hn hgs hie hgt hml hdo hel hb
      go_enter Try.func11, Try.ntmps11
      go_wp2_with fail
      refine (HA.out _).mono ?_
      rintro e w1 ⟨rfl, hb1⟩
      have HV1 := Lib.hid (HV0.out.to hb1)
      obtain ⟨c0, c1, c2, c3⟩ := HV1.out.st.cells
      clear hb1
      go_wp2_with fail
      refine (HG.out _).mono ?_
      rintro e w2 ⟨rfl, hb2⟩
      have HV2 := Lib.hid (HV1.out.to hb2)
      clear hb2 c0 c1 c2 c3
      obtain ⟨c0, c1, c2, c3⟩ := HV2.out.st.cells
      obtain ⟨x0, x1, x2, x3, x4, x5, x6⟩ := HV2.out.ins
      go_wp2_with fail
      refine (HDx.out _ HV2.out).mono ?_
      rintro e w3 ⟨q, rfl, hs3, hb3⟩
      have HV3 : Hid (VlB w s p i w3.heap.size t q (w3.alloc (bedBox t q))) := ⟨(HV2.out.to hb3).to (HAl.out _ _), Bx.new hs3⟩
      clear hb3 hs3 c0 c1 c2 c3 x0 x1 x2 x3 x4 x5 x6
      go_wp2_with fail
      refine (HCt.out _ _ _ HV3.out).mono ?_
      rintro e w4 ⟨rfl, hb4⟩
      have HV4 := Lib.hid (HV3.out.to hb4)
      obtain ⟨bt, hbt⟩ : ∃ bt, bt = w3.heap.size := ⟨_, rfl⟩
      rw [← hbt] at HV4 ⊢
      clear hb4 HV3 hbt HG HDx HCt
      obtain ⟨d0, d1, d2, d3⟩ := HV4.out.st.cells
      obtain ⟨c0, c1, c2, c3⟩ := HV4.out.a.st.cells
      have hle : decide (t.made.length < s.made.length) = false := decide_eq_false (by have := HLe.out; omega)
      go_wp2
      clear c0 c1 c2 c3 d0 d1 d2 d3 hle
      go_loopw [12] (fun s12 wr => ∃ k : Nat, k ≤ s.made.length ∧ s12 = .int .i64 k ∧ Hid (VlB w s p i bt t q wr)) (fun s12 _ => s.made.length - (intOf s12).toNat)
      case atStart => exact ⟨0, Nat.zero_le _, rfl, HV4.out⟩
      case round =>
        obtain ⟨k, hk, rfl, HV⟩ := hrel
        clear HV4
        obtain ⟨d0, d1, d2, d3⟩ := HV.out.st.cells
        obtain ⟨c0, c1, c2, c3⟩ := HV.out.a.st.cells
        have hsz : s.made.length ≤ 9000 := HGs.out.sizes.2.2
        by_cases hlt : k < s.made.length
        · obtain ⟨b1, o1, m, A, C, hA, hB, hz, q0, q1, q2, q3, hC, hsi⟩ := HV.out.a.st.state.made.at_ hlt
          have hlt2 : k < t.made.length := by have := HLe.out; omega
          obtain ⟨b2, o2, m', A', C', hA', hB', hz', r0, r1, r2, r3, hC', hsi'⟩ := HV.out.st.state.made.at_ hlt2
          rw [HMl.out k m hz] at hz'
          obtain rfl : m = m' := by simpa using hz'
          have HC := Lib.hid (fun nn => sameQ_any A' A C' C m.parents (wr.drewN nn) ((hsi'.below (below_drewN (Below.refl _ _) nn)).more (below_drewN (Below.refl wr.heap.size wr) nn).size) ((hsi.below (below_drewN (Below.refl _ _) nn)).more (below_drewN (Below.refl wr.heap.size wr) nn).size) (by have := HGs.out.parents m (List.mem_of_getElem? hz); omega))
          have t0 : (m.bed != m.bed) = false := by simp
          have t1 : (m.at_ != m.at_) = false := by simp
          rw [hA] at c3
          rw [hA'] at d3
          clear hsi hsi' hz hz' hA hA' hC hC' hB hB'
          go_wp2
          go_quiet ((go_at_call 17; exact Calls.quiet_of (HC.out _)))
          go_wp2
          go_roundw
          case rel => exact ⟨k + 1, by omega, by go_num, HV.out.to (below_drewN (Below.refl _ _) _)⟩
          case measure => simp [intOf]; omega
        · clear HMl HLe
          go_wp2
          clear c0 c1 c2 c3 d0 d1 d2 d3 hlt hk hsz
          obtain ⟨wo, rfl⟩ : ∃ wo : World, wo = wr := ⟨_, rfl⟩
          go_loopw [13] (fun s13 wr => ∃ k : Nat, 1 ≤ k ∧ k ≤ 7 ∧ s13 = .int .i64 k ∧ Hid (VlB w s p i bt t q wr)) (fun s13 _ => 7 - (intOf s13).toNat)
          case atStart => exact ⟨1, by decide, by decide, rfl, HV.out⟩
          case round =>
            clear HV
            obtain ⟨k2, hk1, hk, rfl, HV⟩ := hrel
            obtain ⟨d0, d1, d2, d3⟩ := HV.out.st.cells
            obtain ⟨c0, c1, c2, c3⟩ := HV.out.a.st.cells
            by_cases hlt : k2 ≤ 6
            · have hlti : ((k2 : Nat) : Int) ≤ 6 := by omega
              have hcp : carP (k2 : Int) := ⟨by omega, by omega⟩
              have HF1 := Lib.hid (HFs.out bt q wr k2 HV.out)
              have HFt' := Lib.hid (fun W hv => HFt.out bt q W k2 hv)
              have HEq : Hid ((k2 : Int) ≠ i.car → feedR t k2 = feedR s k2) := fun hne => by
                rw [feedR_ok HGt.out hcp, feedR_ok HGs.out hcp, HEl.out.1 k2 (by omega) hne]
              have z1 := feedR_zero HGs.out hcp
              have z2 := feedR_zero HGt.out hcp
              unfold feedOut at HF1 HFt'
              generalize feedR s k2 = fs at HF1 HEq z1
              generalize feedR t k2 = ft at HFt' HEq z2
              obtain ⟨⟨a0, a1, a2⟩, aq, ax⟩ := fs
              obtain ⟨⟨g0, g1, g2⟩, gq, gx⟩ := ft
              simp only at z1 z2
              subst z1 z2
              simp only [Fd.val] at HF1 HFt'
              clear hcp
              go_wp2_with fail
              refine HF1.out.mono ?_
              rintro e w5 ⟨rfl, hb5⟩
              have HV5 := Lib.hid ((HV.out.to hb5).to (HAl.out w5 (.cells #[.int .i64 a0, .bool a1, .int .i64 a2] 35)))
              have HFb := Lib.hid (fdBox_new w5 ⟨a0, a1, a2⟩)
              clear hb5 HF1 c0 c1 c2 c3 d0 d1 d2 d3
              obtain ⟨d0, d1, d2, d3⟩ := HV5.out.st.cells
              go_wp2_with fail
              refine (HFt'.out _ HV5.out).mono ?_
              rintro e w6 ⟨rfl, hb6⟩
              have HV6 := Lib.hid ((HV5.out.to hb6).to (HAl.out w6 (.cells #[.int .i64 g0, .bool g1, .int .i64 g2] 35)))
              have hf0 := fdBox_keep HFb.out hb6 (by simp)
              have hf1 := lt_of_cell hf0.1
              have hf2 := fdBox_keep hf0 (HAl.out w6 (.cells #[.int .i64 g0, .bool g1, .int .i64 g2] 35)) hf1
              obtain ⟨f0, f1, f2⟩ := hf2
              clear hb6 HFt' d0 d1 d2 d3 hf0 HFb
              obtain ⟨x0, x1, x2, x3, x4, x5, x6⟩ := HV6.out.a.ins
              clear x0 x1 x2 x3 x4 x6
              by_cases hc : (k2 : Int) = i.car
              · have e1 : ((k2 : Int) != i.car) = false := by simp [hc]
                clear hc HEq
                go_wp2
                go_roundw
                case rel => exact ⟨k2 + 1, by omega, by omega, by go_num, HV6.out⟩
                case measure => simp [intOf]; omega
              · have e1 : ((k2 : Int) != i.car) = true := by simp [hc]
                have hq := HEq.out hc
                simp only [Prod.mk.injEq, Fd.mk.injEq, and_true] at hq
                obtain ⟨⟨rfl, rfl, rfl⟩, rfl⟩ := hq
                have hef := fun W => neq_fd W g0 g1 g2
                have hqq : (gq != gq) = false := by simp
                clear hc HEq
                go_wp2
                go_roundw
                case rel => exact ⟨k2 + 1, by omega, by omega, by go_num, HV6.out⟩
                case measure => simp [intOf]; omega
            · have hlti : ¬ ((k2 : Nat) : Int) ≤ 6 := by omega
              clear c0 c1 c2 c3 d0 d1 d2 d3 hk1 hk hlt HFs HFt
              obtain ⟨x0, x1, x2, x3, x4, x5, x6⟩ := HV.out.a.ins
              go_upto_region 21 with fail
              go_cut [20] (fun s20 wr => s20 = .bool (nmB i) ∧ Hid (VlB w s p i bt t q wr))
              case first => as_aux_lemma =>
                have HN : Hid (nmB i = (decide (3 ≤ i.op) && !decide (i.op = 8) && !decide (i.op = 5))) := rfl
                by_cases o3 : 3 ≤ i.op
                case neg =>
                  have f3 : decide (3 ≤ i.op) = false := decide_eq_false o3
                  have hM : Hid (nmB i = false) := by show nmB i = false; rw [HN.out, Bool.eq_iff_iff]; simp <;> omega
                  clear o3 HN
                  go_wp2_with fail
                  go_meet
                  exact ⟨by rw [hM.out], HV.out⟩
                have f3 : decide (3 ≤ i.op) = true := decide_eq_true o3
                by_cases o8 : i.op = 8
                case pos =>
                  have f8 : (i.op != 8) = false := by simp [o8]
                  have hM : Hid (nmB i = false) := by show nmB i = false; rw [HN.out, Bool.eq_iff_iff]; simp <;> omega
                  clear o3 o8 HN
                  go_wp2_with fail
                  go_meet
                  exact ⟨by rw [hM.out], HV.out⟩
                have f8 : (i.op != 8) = true := by simp [o8]
                by_cases o5 : i.op = 5
                case pos =>
                  have f5 : (i.op != 5) = false := by simp [o5]
                  have hM : Hid (nmB i = false) := by show nmB i = false; rw [HN.out, Bool.eq_iff_iff]; simp <;> omega
                  clear o3 o8 o5 HN
                  go_wp2_with fail
                  go_meet
                  exact ⟨by rw [hM.out], HV.out⟩
                have f5 : (i.op != 5) = true := by simp [o5]
                have hM : Hid (nmB i = true) := by show nmB i = true; rw [HN.out, Bool.eq_iff_iff]; simp <;> omega
                clear o3 o8 o5 HN
                go_wp2_with fail
                go_meet
                exact ⟨by rw [hM.out], HV.out⟩
              case rest =>
                obtain ⟨rfl, HV2⟩ := hcut
                obtain ⟨M, hM⟩ : ∃ M, M = nmB i := ⟨_, rfl⟩
                rw [← hM]
                have HM := Lib.hid hM
                clear hM
                clear x0 x1 x2 x3 x4 x5 x6 HV
                obtain ⟨x0, x1, x2, x3, x4, x5, x6⟩ := HV2.out.a.ins
                go_upto_region 22 with fail
                go_cut [204] (fun s204 wr => s204 = .bool (elseQ i b n) ∧ Hid (VlB w s p i bt t q wr))
                case first => as_aux_lemma =>
                  have HEq : Hid (elseQ i b n = (decide (1 < b) || decide (n < -100) || decide (100 < n) || (M && (decide (b = i.bed) && decide (n = i.at_) || (decide (i.op = 6) || decide (i.op = 7)) && !decide (b = i.bed) && decide (n = i.to_))))) := by
                    show elseQ i b n = _
                    rw [HM.out]
                    rfl
                  by_cases k1 : 1 < b
                  case pos =>
                    have fk1 : decide (1 < b) = true := decide_eq_true k1
                    have hQ : Hid (elseQ i b n = true) := by show elseQ i b n = true; rw [HEq.out, Bool.eq_iff_iff]; simp <;> omega
                    clear k1 HEq
                    as_aux_lemma =>
                      go_wp2_with fail
                      go_meet
                      exact ⟨by rw [hQ.out], HV2.out⟩
                  have fk1 : decide (1 < b) = false := decide_eq_false k1
                  by_cases k2 : n < -100
                  case pos =>
                    have fk2 : decide (n < -100) = true := decide_eq_true k2
                    have hQ : Hid (elseQ i b n = true) := by show elseQ i b n = true; rw [HEq.out, Bool.eq_iff_iff]; simp <;> omega
                    clear k2 HEq
                    as_aux_lemma =>
                      go_wp2_with fail
                      go_meet
                      exact ⟨by rw [hQ.out], HV2.out⟩
                  have fk2 : decide (n < -100) = false := decide_eq_false k2
                  by_cases k3 : 100 < n
                  case pos =>
                    have fk3 : decide (100 < n) = true := decide_eq_true k3
                    have hQ : Hid (elseQ i b n = true) := by show elseQ i b n = true; rw [HEq.out, Bool.eq_iff_iff]; simp <;> omega
                    clear k3 HEq
                    as_aux_lemma =>
                      go_wp2_with fail
                      go_meet
                      exact ⟨by rw [hQ.out], HV2.out⟩
                  have fk3 : decide (100 < n) = false := decide_eq_false k3
                  cases M with
                  | false =>
                    have hQ : Hid (elseQ i b n = false) := by show elseQ i b n = false; rw [HEq.out, Bool.eq_iff_iff]; simp <;> omega
                    clear k1 k2 k3 HEq
                    as_aux_lemma =>
                      go_wp2_with fail
                      go_meet
                      exact ⟨by rw [hQ.out], HV2.out⟩
                  | true =>
                    by_cases k4 : b = i.bed
                    case pos =>
                      have fk4 : (b == i.bed) = true := by simp [k4]
                      have gk4 : (b != i.bed) = false := by simp [k4]
                      by_cases k5 : n = i.at_
                      case pos =>
                        have fk5 : (n == i.at_) = true := by simp [k5]
                        have gk5 : (n != i.at_) = false := by simp [k5]
                        have hQ : Hid (elseQ i b n = true) := by show elseQ i b n = true; rw [HEq.out, Bool.eq_iff_iff]; simp <;> omega
                        clear k1 k2 k3 k4 k5 HEq
                        as_aux_lemma =>
                          go_wp2_with fail
                          go_meet
                          exact ⟨by rw [hQ.out], HV2.out⟩
                      have fk5 : (n == i.at_) = false := by simp [k5]
                      have gk5 : (n != i.at_) = true := by simp [k5]
                      by_cases k6 : i.op = 6
                      case pos =>
                        have fk6 : (i.op == 6) = true := by simp [k6]
                        have gk6 : (i.op != 6) = false := by simp [k6]
                        have hQ : Hid (elseQ i b n = false) := by show elseQ i b n = false; rw [HEq.out, Bool.eq_iff_iff]; simp <;> omega
                        clear k1 k2 k3 k4 k5 k6 HEq
                        as_aux_lemma =>
                          go_wp2_with fail
                          go_meet
                          exact ⟨by rw [hQ.out], HV2.out⟩
                      have fk6 : (i.op == 6) = false := by simp [k6]
                      have gk6 : (i.op != 6) = true := by simp [k6]
                      by_cases k7 : i.op = 7
                      case pos =>
                        have fk7 : (i.op == 7) = true := by simp [k7]
                        have gk7 : (i.op != 7) = false := by simp [k7]
                        have hQ : Hid (elseQ i b n = false) := by show elseQ i b n = false; rw [HEq.out, Bool.eq_iff_iff]; simp <;> omega
                        clear k1 k2 k3 k4 k5 k6 k7 HEq
                        as_aux_lemma =>
                          go_wp2_with fail
                          go_meet
                          exact ⟨by rw [hQ.out], HV2.out⟩
                      have fk7 : (i.op == 7) = false := by simp [k7]
                      have gk7 : (i.op != 7) = true := by simp [k7]
                      have hQ : Hid (elseQ i b n = false) := by show elseQ i b n = false; rw [HEq.out, Bool.eq_iff_iff]; simp <;> omega
                      clear k1 k2 k3 k4 k5 k6 k7 HEq
                      as_aux_lemma =>
                        go_wp2_with fail
                        go_meet
                        exact ⟨by rw [hQ.out], HV2.out⟩
                    have fk4 : (b == i.bed) = false := by simp [k4]
                    have gk4 : (b != i.bed) = true := by simp [k4]
                    by_cases k6 : i.op = 6
                    case pos =>
                      have fk6 : (i.op == 6) = true := by simp [k6]
                      have gk6 : (i.op != 6) = false := by simp [k6]
                      by_cases k8 : n = i.to_
                      case pos =>
                        have fk8 : (n == i.to_) = true := by simp [k8]
                        have gk8 : (n != i.to_) = false := by simp [k8]
                        have hQ : Hid (elseQ i b n = true) := by show elseQ i b n = true; rw [HEq.out, Bool.eq_iff_iff]; simp <;> omega
                        clear k1 k2 k3 k4 k6 k8 HEq
                        as_aux_lemma =>
                          go_wp2_with fail
                          go_meet
                          exact ⟨by rw [hQ.out], HV2.out⟩
                      have fk8 : (n == i.to_) = false := by simp [k8]
                      have gk8 : (n != i.to_) = true := by simp [k8]
                      have hQ : Hid (elseQ i b n = false) := by show elseQ i b n = false; rw [HEq.out, Bool.eq_iff_iff]; simp <;> omega
                      clear k1 k2 k3 k4 k6 k8 HEq
                      as_aux_lemma =>
                        go_wp2_with fail
                        go_meet
                        exact ⟨by rw [hQ.out], HV2.out⟩
                    have fk6 : (i.op == 6) = false := by simp [k6]
                    have gk6 : (i.op != 6) = true := by simp [k6]
                    by_cases k7 : i.op = 7
                    case pos =>
                      have fk7 : (i.op == 7) = true := by simp [k7]
                      have gk7 : (i.op != 7) = false := by simp [k7]
                      by_cases k8 : n = i.to_
                      case pos =>
                        have fk8 : (n == i.to_) = true := by simp [k8]
                        have gk8 : (n != i.to_) = false := by simp [k8]
                        have hQ : Hid (elseQ i b n = true) := by show elseQ i b n = true; rw [HEq.out, Bool.eq_iff_iff]; simp <;> omega
                        clear k1 k2 k3 k4 k6 k7 k8 HEq
                        as_aux_lemma =>
                          go_wp2_with fail
                          go_meet
                          exact ⟨by rw [hQ.out], HV2.out⟩
                      have fk8 : (n == i.to_) = false := by simp [k8]
                      have gk8 : (n != i.to_) = true := by simp [k8]
                      have hQ : Hid (elseQ i b n = false) := by show elseQ i b n = false; rw [HEq.out, Bool.eq_iff_iff]; simp <;> omega
                      clear k1 k2 k3 k4 k6 k7 k8 HEq
                      as_aux_lemma =>
                        go_wp2_with fail
                        go_meet
                        exact ⟨by rw [hQ.out], HV2.out⟩
                    have fk7 : (i.op == 7) = false := by simp [k7]
                    have gk7 : (i.op != 7) = true := by simp [k7]
                    have hQ : Hid (elseQ i b n = false) := by show elseQ i b n = false; rw [HEq.out, Bool.eq_iff_iff]; simp <;> omega
                    clear k1 k2 k3 k4 k6 k7 HEq
                    as_aux_lemma =>
                      go_wp2_with fail
                      go_meet
                      exact ⟨by rw [hQ.out], HV2.out⟩
                case rest =>
                  obtain ⟨rfl, HV3⟩ := hcut
                  clear x0 x1 x2 x3 x4 x5 x6 HV2
                  cases hq : elseQ i b n with
                  | true => as_aux_lemma =>
                    clear hq
                    go_wp2
                    go_ret
                    exact ⟨rfl, HV3.out.a.lo⟩
                  | false => as_aux_lemma =>
                    have hbn : b ≤ 1 ∧ needleP n := by
                      have h := hq
                      unfold elseQ at h
                      simp only [Bool.or_eq_false_iff, decide_eq_false_iff_not] at h
                      unfold needleP
                      omega
                    have hh := HEl.out.2 b n HB.out.1 hq
                    have HO1 := Lib.hid (HOs.out bt q)
                    have HO2 := Lib.hid (HOt.out bt q)
                    unfold onOut at HO1 HO2
                    rw [onR_ok HGs.out hbn.1 hbn.2] at HO1
                    rw [onR_ok HGt.out hbn.1 hbn.2, hh] at HO2
                    simp only at HO1 HO2
                    have HHl : Hid ((heldAt s.hooks b n).length ≤ 6) := HGs.out.heldLen b n
                    have HHas : Hid (((heldAt s.hooks b n).any fun y => decide (y = (s.made.length : Int))) = false) := by
                      unfold Hid
                      rw [List.any_eq_false]
                      intro y hy
                      have := (HGs.out.heldDist b n).1 y hy
                      simp; omega
                    generalize heldAt s.hooks b n = L at HO1 HO2 HHl HHas
                    clear hq hbn hh HOs HOt HEl
                    obtain ⟨c0, c1, c2, c3⟩ := HV3.out.a.st.cells
                    go_wp2_with fail
                    refine (HO1.out _ HV3.out).mono ?_
                    rintro e w5 ⟨A5, c5, rfl, hs5, hb5⟩
                    have HV5 := Lib.hid (HV3.out.to hb5)
                    have HS5 := Lib.hid hs5
                    clear hb5 hs5 c0 c1 c2 c3
                    obtain ⟨c0, c1, c2, c3⟩ := HV5.out.st.cells
                    go_wp2_with fail
                    refine (HO2.out _ HV5.out).mono ?_
                    rintro e w6 ⟨A6, c6, rfl, hs6, hb6⟩
                    have HV6 := Lib.hid (HV5.out.to hb6)
                    have HS6 := Lib.hid (show _ ∧ _ from ⟨(HS5.out.below hb6).more hb6.size, hs6⟩)
                    clear hb6 hs6 c0 c1 c2 c3 HS5
                    go_wp2_with fail
                    refine (sameQ_any A5 A6 c5 c6 L _ HS6.out.1 HS6.out.2 (by have := HHl.out; omega)).mono ?_
                    rintro e w7 ⟨rfl, m, hw7⟩
                    have hb7 : Below w6.heap.size w6 w7 := by rw [hw7]; exact below_drewN (Below.refl _ _) m
                    have HV7 := Lib.hid (HV6.out.to hb7)
                    have HS7 := Lib.hid ((HS6.out.2.below hb7).more hb7.size)
                    clear hb7 hw7 HS6
                    obtain ⟨c0, c1, c2, c3⟩ := HV7.out.a.st.cells
                    go_wp2_with fail
                    refine (rhas_any A6 c6 L (s.made.length : Int) (by have := HHl.out; omega) _ HS7.out).mono ?_
                    rintro e w8 ⟨rfl, rfl⟩
                    rw [HHas.out]
                    go_wp2
                    go_ret
                    exact ⟨rfl, HV7.out.a.lo⟩
end Go.Proofs.Ytjoglkamhjcmhaa
