/- BedNames, walked. -/
import Derived.Test.YtjoglkamhjcmhaaKNm2
namespace Go.Proofs.Ytjoglkamhjcmhaa
open Go.RowKit Go.Shelf Go.Sort
set_option maxRecDepth 100000

def ins0 : Ins := ⟨0, false, 0, 0, 0, 0, 0⟩
theorem zero_wf (n : Nat) : ∀ i ∈ List.replicate n ins0, i.wf := fun i hi => by rw [List.eq_of_mem_replicate hi]; exact ⟨by decide, by decide, by decide, by decide⟩
theorem made_slx {w' : World} {base g n : Nat} (h : w'.ownsRow base 43 7 (.slice (some ⟨g, 0, none⟩) n n) n (madeCells (Value.agg #[.int .u8 0, .bool false, .int .u8 0, .int .i64 0, .int .i64 0, .int .i64 0, .int .i64 0]).cells (n * 7)).toList) : SlX w' w'.heap.size (some ⟨g, 0, none⟩) (List.replicate n ins0) := fun _ => by
  refine ⟨g, 0, rfl, (h.lt g rfl).2, fun j cs hj i v hv => ?_⟩
  have hjn : j < n := by
    have := (List.getElem?_eq_some_iff.1 hj).1
    simpa using this
  have hcs : cs = ins0.cells := by
    rw [List.getElem?_map, List.getElem?_replicate, if_pos hjn] at hj
    simpa using hj.symm
  subst hcs
  have hi : i < 7 := (List.getElem?_eq_some_iff.1 hv).1
  have hlt : j * 7 + i < n * 7 := by omega
  rw [Nat.zero_add, h.cellAt (j * 7 + i) hlt]
  unfold madeCells
  rw [Array.getElem?_toList, Array.getElem?_map, Array.getElem?_range, if_pos hlt]
  show some ((#[.int .u8 0, .bool false, .int .u8 0, .int .i64 0, .int .i64 0, .int .i64 0, .int .i64 0] : Array Value)[(j * 7 + i) % 7]!) = some v
  rw [show (j * 7 + i) % 7 = i by omega, ← hv]
  rcases (by omega : i = 0 ∨ i = 1 ∨ i = 2 ∨ i = 3 ∨ i = 4 ∨ i = 5 ∨ i = 6) with rfl | rfl | rfl | rfl | rfl | rfl | rfl <;> rfl
theorem one14 : ∀ v ∈ ([.int .u8 8, .bool false, .int .u8 0, .int .i64 0, .int .i64 0, .int .i64 0, .int .i64 1, .int .u8 7, .bool false, .int .u8 0, .int .i64 1, .int .i64 0, .int .i64 0, .int .i64 0] : List Value), v.oneCell' = true := by
  intro v hv
  simp only [List.mem_cons, List.not_mem_nil, or_false] at hv
  rcases hv with rfl | rfl | rfl | rfl | rfl | rfl | rfl | rfl | rfl | rfl | rfl | rfl | rfl | rfl <;> rfl
set_option maxHeartbeats 64000000 in
theorem names_walk (w : World) : Calls Try.prog 6 #[] w fun e w' => e = .returned (.bool true) ∧ Below w.heap.size w w' := by
  have HK := Lib.hid (fun r n w => kn_any r n w)
  have HAv := Lib.hid (fun w => alive_any w)
  have HFu := Lib.hid (fun w => full_any w)
  have HI := Lib.hid (fun i w => instr_any i w)
  have al : ∀ (W : World) (o : Obj), Below W.heap.size W (W.alloc o) := fun W o => (Below.refl _ W).alloc (Nat.le_refl _) o
  have HAl := Lib.hid al
  clear al
  obtain ⟨i0, hi, hz0, hz1, hz2⟩ := info_parts info_ins
  go_enter Try.func6, Try.ntmps6
  go_upto_region 2 with fail
  refine abs_world (Q := fun W => Code.wp _ _ _ _ W) (F := fun W => Below w.heap.size w W ∧ SlX W W.heap.size (some ⟨w.heap.size, 0, none⟩) badL) _ ⟨HAl.out w _, lit_ins (l := badL) rfl (by decide)⟩ ?_
  rintro W1 ⟨hb1, hx1⟩
  obtain ⟨A, hA⟩ : ∃ A : Option Addr, A = some ⟨w.heap.size, 0, none⟩ := ⟨_, rfl⟩
  rw [← hA] at hx1 ⊢
  clear hA
  have HX1 := Lib.hid hx1
  have HB1 := Lib.hid hb1
  clear hb1 hx1
  go_wp2
  go_loopw [2] (fun s2 wr => ∃ k : Nat, k ≤ 11 ∧ s2 = .int .i64 (k : Int) ∧ Hid (Below W1.heap.size W1 wr)) (fun s2 _ => 11 - (intOf s2).toNat)
  case atStart => exact ⟨0, Nat.zero_le _, rfl, Below.refl _ _⟩
  case round =>
    obtain ⟨k, hk, rfl, HW⟩ := hrel
    by_cases hlt : k < 11
    case pos =>
      have hlti : (k : Int) < 11 := by omega
      obtain ⟨b, off, i, hA, hB, hz, hc⟩ := HX1.out.at_ (k := k) (show k < badL.length from hlt)
      have hm : i ∈ badL := List.mem_of_getElem? hz
      have HD := Lib.hid (fun W => nBad i hm W)
      have HE := Lib.hid (fun W => HI.out i W)
      rw [(bad_err hm).1] at HE
      have HIn := Lib.hid (fun W' (hb : Below W1.heap.size W1 W') => hc.below hb hB)
      obtain ⟨x0, x1, x2, x3, x4, x5, x6⟩ := HIn.out wr HW.out
      subst hA
      unfold Ins.val at HD HE
      clear hm hz hc hB HI
      go_wp2_with fail
      refine (HD.out _).mono ?_
      rintro e w3 ⟨q, rfl, -, hb3⟩
      simp only [bed0]
      have HW3 : Hid (Below W1.heap.size W1 (w3.alloc (.cells #[.int .i64 0, .slice q.ah 0 q.ch, .slice q.af 0 q.cf, .slice q.am 0 q.cm] 26))) := by
        have h := HW.out.trans (hb3.mono HW.out.size)
        exact h.alloc h.size _
      clear hb3 x0 x1 x2 x3 x4 x5 x6
      obtain ⟨x0, x1, x2, x3, x4, x5, x6⟩ := HIn.out _ HW3.out
      go_wp2_with fail
      refine (HE.out _).mono ?_
      rintro e w4 ⟨rfl, hb4⟩
      have HW4 := Lib.hid (HW3.out.trans (hb4.mono HW3.out.size))
      clear hb4 x0 x1 x2 x3 x4 x5 x6
      go_wp2
      go_roundw
      case rel => exact ⟨k + 1, by omega, by go_num, HW4.out⟩
      case measure => simp [intOf]; omega
    case neg =>
      obtain rfl : k = 11 := by omega
      have HB := Lib.hid (HB1.out.trans (HW.out.mono HB1.out.size))
      clear hlt hk HW HX1 HB1 HI
      go_wp2_with fail
      refine (begin_own _).mono ?_
      rintro e w3 ⟨v, rfl, hown, hb3⟩
      have HO := Lib.hid hown
      have HB3 := Lib.hid (HB.out.trans (hb3.mono HB.out.size))
      have HZ3 := Lib.hid hb3.size
      clear hown hb3
      go_wp2_with (at_builtin; refine wpList_append_own _ rfl _ _ 54 rfl wr.heap.size 43 i0 (.agg #[.int .u8 0, .bool false, .int .u8 0, .int .i64 0, .int .i64 0, .int .i64 0, .int .i64 0]) 7 40 Try.underlying54 hi hz0 hz1 hz2 rfl (by decide) _ _ _ rfl (HO.out.alloc _) ⟨w3.heap.size, 0, none⟩ 2 2 [.int .u8 8, .bool false, .int .u8 0, .int .i64 0, .int .i64 0, .int .i64 0, .int .i64 1, .int .u8 7, .bool false, .int .u8 0, .int .i64 1, .int .i64 0, .int .i64 0, .int .i64 0] rfl rfl (newsT w3 _ _ _ rfl) one14 (by unfold maxLen; omega) (by omega) (by have := HZ3.out; simp; omega) ?_; intro v' w4 hown4 hgrow4 _)
      have hb34 : Below wr.heap.size w3 w4 := ((Below.refl _ w3).alloc HZ3.out _).grown hgrow4 (by have := HZ3.out; simp; omega) (fun g e => (HO.out.lt g e).1)
      have HB4 := Lib.hid (HB3.out.trans (hb34.mono HB.out.size))
      have hown5 : w4.ownsRow wr.heap.size 43 7 v' 5 (nameL.map Ins.cells).flatten := hown4
      obtain ⟨A5, c5, rfl, hsx⟩ := row_ins hown5 rfl
      have HSx := Lib.hid hsx
      clear hown4 hgrow4 hown5 hsx hb34 HO HB3 HZ3
      go_wp2_with fail
      refine (nRun8 A5 c5 _ HSx.out).mono ?_
      rintro e w5 ⟨p, rfl, hf5, hb5⟩
      simp only [nS]
      have HN : Hid (Ng w [(w5.heap.size, nS, p)] [] (w5.alloc (bedBox nS p))) := ((⟨fun _ h => absurd h List.not_mem_nil, fun _ h => absurd h List.not_mem_nil, HB4.out.trans (hb5.mono HB4.out.size)⟩ : Ng w [] [] w5).box _).addB (Bx.new hf5.at_)
      clear hb5 hf5 HSx HB4 HB
      obtain ⟨c0, c1, c2, c3⟩ := nS_cells (HN.out.bx _ List.mem_cons_self)
      go_wp2_with fail
      refine (nOn9 p _ (HN.out.bx _ List.mem_cons_self).state).mono ?_
      rintro e w6 ⟨A6, c6, rfl, hs, hb⟩
      have HN6 := Lib.hid ((HN.out.to hb).addS hs)
      clear hb hs HN c0 c1 c2 c3
      obtain ⟨c0, c1, c2, c3⟩ := nS_cells (HN6.out.bx _ List.mem_cons_self)
      go_wp2_with fail
      refine (nDo10 p _ (HN6.out.bx _ List.mem_cons_self).state).mono ?_
      rintro e w7 ⟨q7, rfl, hf, hb⟩
      simp only [bed0]
      have HN7 := Lib.hid ((HN6.out.to hb).box (.cells #[.int .i64 0, .slice q7.ah 0 q7.ch, .slice q7.af 0 q7.cf, .slice q7.am 0 q7.cm] 26))
      clear hb hf HN6 c0 c1 c2 c3
      obtain ⟨c0, c1, c2, c3⟩ := nS_cells (HN7.out.bx _ List.mem_cons_self)
      go_wp2_with fail
      refine (nDo11 p _ (HN7.out.bx _ List.mem_cons_self).state).mono ?_
      rintro e w8 ⟨q8, rfl, hf, hb⟩
      simp only [bed0]
      have HN8 := Lib.hid ((HN7.out.to hb).box (.cells #[.int .i64 0, .slice q8.ah 0 q8.ch, .slice q8.af 0 q8.cf, .slice q8.am 0 q8.cm] 26))
      clear hb hf HN7 c0 c1 c2 c3
      obtain ⟨c0, c1, c2, c3⟩ := nS_cells (HN8.out.bx _ List.mem_cons_self)
      go_wp2_with fail
      refine (nDo12 p _ (HN8.out.bx _ List.mem_cons_self).state).mono ?_
      rintro e w9 ⟨q9, rfl, hf, hb⟩
      simp only [bed0]
      have HN9 := Lib.hid ((HN8.out.to hb).box (.cells #[.int .i64 0, .slice q9.ah 0 q9.ch, .slice q9.af 0 q9.cf, .slice q9.am 0 q9.cm] 26))
      clear hb hf HN8 c0 c1 c2 c3
      obtain ⟨c0, c1, c2, c3⟩ := nS_cells (HN9.out.bx _ List.mem_cons_self)
      go_wp2_with fail
      refine (nDo13 p _ (HN9.out.bx _ List.mem_cons_self).state).mono ?_
      rintro e w10 ⟨q10, rfl, hf, hb⟩
      simp only [bed0]
      have HN10 := Lib.hid ((HN9.out.to hb).box (.cells #[.int .i64 0, .slice q10.ah 0 q10.ch, .slice q10.af 0 q10.cf, .slice q10.am 0 q10.cm] 26))
      clear hb hf HN9 c0 c1 c2 c3
      obtain ⟨c0, c1, c2, c3⟩ := nS_cells (HN10.out.bx _ List.mem_cons_self)
      go_wp2_with fail
      refine (nDo14 p _ (HN10.out.bx _ List.mem_cons_self).state).mono ?_
      rintro e w11 ⟨q11, rfl, hf, hb⟩
      simp only [ntS]
      obtain ⟨pt, hpt⟩ : ∃ pt, pt = q11 := ⟨_, rfl⟩
      rw [← hpt] at hf ⊢
      clear hpt
      have HN11 : Hid (Ng w [(w11.heap.size, ntS, pt), (w5.heap.size, nS, p)] [(A6, [1])] (w11.alloc (.cells #[.int .i64 1, .slice pt.ah 3 pt.ch, .slice pt.af 1 pt.cf, .slice pt.am 3 pt.cm] 26))) := ((HN10.out.to hb).box (bedBox ntS pt)).addB (Bx.new hf.at_)
      clear hb hf HN10 c0 c1 c2 c3
      obtain ⟨c0, c1, c2, c3⟩ := ntS_cells (HN11.out.bx _ List.mem_cons_self)
      go_wp2_with fail
      refine (nOn15 pt _ (HN11.out.bx _ List.mem_cons_self).state).mono ?_
      rintro e w12 ⟨A12, c12, rfl, hs, hb⟩
      have HN12 := Lib.hid ((HN11.out.to hb).addS hs)
      clear hb hs HN11 c0 c1 c2 c3
      go_wp2_with fail
      refine (HK.out true 0 _).mono ?_
      rintro e w13 ⟨rfl, hb⟩
      have HN13 := Lib.hid (HN12.out.to hb)
      clear hb HN12
      go_wp2_with fail
      refine (nDo16 _).mono ?_
      rintro e w14 ⟨q14, rfl, hf, hb⟩
      simp only [bed0]
      have HN14 := Lib.hid ((HN13.out.to hb).box (.cells #[.int .i64 0, .slice q14.ah 0 q14.ch, .slice q14.af 0 q14.cf, .slice q14.am 0 q14.cm] 26))
      clear hb hf HN13
      obtain ⟨c0, c1, c2, c3⟩ := nS_cells (HN14.out.bx _ (List.mem_cons_of_mem _ List.mem_cons_self))
      go_wp2_with fail
      refine (nOn17 p _ (HN14.out.bx _ (List.mem_cons_of_mem _ List.mem_cons_self)).state).mono ?_
      rintro e w15 ⟨A15, c15, rfl, hs, hb⟩
      have HN15 := Lib.hid (HN14.out.to hb)
      clear hb hs HN14 c0 c1 c2 c3
      obtain ⟨c0, c1, c2, c3⟩ := nS_cells (HN15.out.bx _ (List.mem_cons_of_mem _ List.mem_cons_self))
      go_wp2_with fail
      refine (nOn18 p _ (HN15.out.bx _ (List.mem_cons_of_mem _ List.mem_cons_self)).state).mono ?_
      rintro e w16 ⟨A16, c16, rfl, hs, hb⟩
      have HN16 := Lib.hid (HN15.out.to hb)
      clear hb hs HN15 c0 c1 c2 c3
      obtain ⟨c0, c1, c2, c3⟩ := nS_cells (HN16.out.bx _ (List.mem_cons_of_mem _ List.mem_cons_self))
      go_wp2_with fail
      refine (nFeed19 p _ (HN16.out.bx _ (List.mem_cons_of_mem _ List.mem_cons_self)).state).mono ?_
      rintro e w17 ⟨rfl, hb⟩
      have HN17 := Lib.hid ((HN16.out.to hb).box (.cells #[.int .i64 0, .bool false, .int .i64 0] 35))
      clear hb HN16 c0 c1 c2 c3
      go_upto_region 20 with fail
      refine abs_world (Q := fun W => Code.wp _ _ _ _ W) (F := Ng w [(w11.heap.size, ntS, pt), (w5.heap.size, nS, p)] [(A12, [1]), (A6, [1])]) _ HN17.out ?_
      clear HN17
      intro W20 hW
      have HW20 := Lib.hid hW
      clear hW
      have HR20 := Lib.hid (nRun20 (some ⟨W20.heap.size, 0, none⟩) 2 (W20.alloc (.cells #[.int .u8 1, .bool false, .int .u8 0, .int .i64 0, .int .i64 0, .int .i64 1, .int .i64 0, .int .u8 1, .bool false, .int .u8 0, .int .i64 0, .int .i64 0, .int .i64 1, .int .i64 0] 43)) (lit_ins (W := W20) (l := twoL) (cs := #[.int .u8 1, .bool false, .int .u8 0, .int .i64 0, .int .i64 0, .int .i64 1, .int .i64 0, .int .u8 1, .bool false, .int .u8 0, .int .i64 0, .int .i64 0, .int .i64 1, .int .i64 0]) (t := 43) rfl (by decide)))
      go_wp2_with fail
      refine HR20.out.mono ?_
      rintro e w18 ⟨q18, rfl, hf, hb⟩
      simp only [bed0]
      have HN18 := Lib.hid (((HW20.out.box (.cells #[.int .u8 1, .bool false, .int .u8 0, .int .i64 0, .int .i64 0, .int .i64 1, .int .i64 0, .int .u8 1, .bool false, .int .u8 0, .int .i64 0, .int .i64 0, .int .i64 1, .int .i64 0] 43)).to hb).box (.cells #[.int .i64 0, .slice q18.ah 0 q18.ch, .slice q18.af 0 q18.cf, .slice q18.am 0 q18.cm] 26))
      clear hb hf HW20 HR20
      go_upto_region 21 with fail
      refine abs_world (Q := fun W => Code.wp _ _ _ _ W) (F := Ng w [(w11.heap.size, ntS, pt), (w5.heap.size, nS, p)] [(A12, [1]), (A6, [1])]) _ HN18.out ?_
      clear HN18
      intro W hW
      have HW := Lib.hid hW
      clear hW
      obtain ⟨w31, hmr, hown, hg⟩ := run_make_full (P := Try.prog) W W.heap.size 54 43 i0 _ 7 Try.underlying54 hi hz0 hz1 .i64 .i64 2001 (by rw [hz2]; omega) (by unfold maxLen; omega) (Nat.le_refl _)
      have hmr2 : (Instr.makeSlice 54 (.int .i64 2001) (.int .i64 2001)).run Try.prog W = .ok (.slice (some ⟨W.heap.size, 0, none⟩) 2001 2001) w31 := hmr
      have hB31 : Below W.heap.size W w31 := (Below.refl _ W).grown hg (Nat.le_refl _) (fun k e => by cases e)
      have HN31 := Lib.hid (HW.out.to hB31)
      have HR := Lib.hid (nRun21 (some ⟨W.heap.size, 0, none⟩) 2001 (List.replicate 2001 ins0) (List.length_replicate ..) (zero_wf _) w31 (made_slx hown))
      clear hmr hown hg hB31 HW
      go_wp2_with fail
      refine HR.out.mono ?_
      rintro e w32 ⟨q32, rfl, hf, hb⟩
      simp only [bed0]
      have HN32 := Lib.hid ((HN31.out.to hb).box (.cells #[.int .i64 0, .slice q32.ah 0 q32.ch, .slice q32.af 0 q32.cf, .slice q32.am 0 q32.cm] 26))
      clear hb hf HN31 HR hmr2
      go_wp2_with fail
      refine (HAv.out _).mono ?_
      rintro e w33 ⟨rfl, hb⟩
      have HN33 := Lib.hid (HN32.out.to hb)
      clear hb HN32
      go_wp2_with fail
      have ha := HAl.out w33 (.cells #[.int .i64 1] 3)
      refine (same1 A6 _ c6 _ 1 _ (((HN33.out.sl _ (List.mem_cons_of_mem _ List.mem_cons_self)).below ha).more ha.size) (lit_one w33 1 3)).mono ?_
      rintro e w34 ⟨rfl, n, hw⟩
      have HN34 : Hid (Ng w [(w11.heap.size, ntS, pt), (w5.heap.size, nS, p)] [(A12, [1]), (A6, [1])] w34) := by
        show Ng _ _ _ _
        rw [hw]
        exact (HN33.out.box _).to (below_drewN (Below.refl _ _) n)
      clear hw ha HN33
      go_wp2_with fail
      have ha := HAl.out w34 (.cells #[.int .i64 1] 3)
      refine (same1 A12 _ c12 _ 1 _ (((HN34.out.sl _ List.mem_cons_self).below ha).more ha.size) (lit_one w34 1 3)).mono ?_
      rintro e w35 ⟨rfl, n, hw⟩
      have HN35 : Hid (Ng w [(w11.heap.size, ntS, pt), (w5.heap.size, nS, p)] [(A12, [1]), (A6, [1])] w35) := by
        show Ng _ _ _ _
        rw [hw]
        exact (HN34.out.box _).to (below_drewN (Below.refl _ _) n)
      clear hw ha HN34
      obtain ⟨d0, d1, d2, d3⟩ := ntS_cells (HN35.out.bx _ List.mem_cons_self)
      obtain ⟨lb, lo, AL, CL, hq, hl, hs6⟩ := ntS_last (HN35.out.bx _ List.mem_cons_self)
      have HS6 := Lib.hid hs6
      rw [hq] at d3
      have l2 := lt_of_cell hl
      have l1 := lt_of_cell d0
      clear hs6 hq
      go_wp2_with fail
      have ha := HAl.out w35 (.cells #[.int .i64 1] 3)
      refine (same1 AL _ CL _ 1 _ (((HS6.out).below ha).more ha.size) (lit_one w35 1 3)).mono ?_
      rintro e w36 ⟨rfl, n, hw⟩
      have HN36 : Hid (Ng w [(w11.heap.size, ntS, pt), (w5.heap.size, nS, p)] [(A12, [1]), (A6, [1])] w36) := by
        show Ng _ _ _ _
        rw [hw]
        exact (HN35.out.box _).to (below_drewN (Below.refl _ _) n)
      clear hw ha HN35 d0 d1 d2 d3 hl l1 l2
      go_wp2_with fail
      refine (HFu.out _).mono ?_
      rintro e w37 ⟨rfl, hb⟩
      have HN37 := Lib.hid (HN36.out.to hb)
      clear hb HN36
      go_wp2
      go_ret
      exact ⟨rfl, HN37.out.lo⟩
end Go.Proofs.Ytjoglkamhjcmhaa
