/- BedRuns, walked: Run returns what the reference returns. -/
import Derived.Test.YtjoglkamhjcmhaaKRrun
import Derived.Test.YtjoglkamhjcmhaaKDoes
namespace Go.Proofs.Ytjoglkamhjcmhaa
open Go.RowKit Go.Shelf Go.Sort
set_option maxRecDepth 100000

def longB (n : Nat) : Bool := (decide (300 < n) && decide (n ≤ 2000)) || decide (2100 < n)
theorem long_any (A : Option Addr) (c n : Nat) (w : World) :
    Calls Try.prog 25 #[.slice A n c] w fun e w' => e = .returned (.bool (longB n)) ∧ w = w' := by
  go_enter Try.func25, Try.ntmps25
  go_wp2
  all_goals go_ret
  all_goals refine ⟨ret_bool ?_, rfl⟩
  all_goals (rw [Bool.eq_iff_iff]; first | (simp [longB]; done) | (simp [longB]; omega))
def Fits (t : BedS) : Prop := (t.hooks.length ≤ 9000 ∧ t.feeds.length ≤ 9000 ∧ t.made.length ≤ 9000) ∧ (∀ x ∈ t.hooks, x.loops.length ≤ 6) ∧ ∀ m ∈ t.made, m.parents.length ≤ 6
theorem runI_fits : ∀ (l : List Ins) (s : BedS) (k : Nat), Good s → (∀ i ∈ l, i.wf) → Fits (runI s k l).1
  | [], s, k, h, _ => good_fits h
  | i :: l, s, k, h, hw => by
    unfold runI
    by_cases h1 : i.err = 0
    · rw [if_neg (by simpa using h1)]
      by_cases h2 : (doI s i).2 = 0
      · rw [if_neg (by simpa using h2)]
        exact runI_fits l _ (k + 1) (doI_good h (hw i List.mem_cons_self) (Ins.good_err h1) h2).1 (fun x hx => hw x (List.mem_cons_of_mem _ hx))
      · rw [if_pos h2]; exact bed0_fits
    · rw [if_pos h1]; exact bed0_fits
theorem runS_fits {s : BedS} (hwf : s.wf) {l : List Ins} (hw : ∀ i ∈ l, i.wf) : Fits (runS s l).1 := by
  unfold runS
  by_cases he : bedE s = 0
  · rw [if_neg (by simpa using he)]
    split
    · exact bed0_fits
    · exact runI_fits l s 0 (Good.of he hwf) hw
  · rw [if_pos he]; exact bed0_fits
/-- The law's box and its list. -/
structure RnA (w : World) (s : BedS) (p : BedP) (A : Option Addr) (l : List Ins) (W : World) : Prop where
  st : Bx W w.heap.size s p
  sl : SlX W W.heap.size A l
  lo : Below w.heap.size w W
theorem RnA.to {w W W' : World} {s : BedS} {p : BedP} {A : Option Addr} {l : List Ins} (h : RnA w s p A l W) (hb : Below W.heap.size W W') : RnA w s p A l W' := ⟨h.st.to hb, (h.sl.below hb).more hb.size, h.lo.trans (hb.mono h.lo.size)⟩
theorem RnA.new {w : World} {s : BedS} {p : BedP} {A : Option Addr} {l : List Ins} (hs : BedAt w w.heap.size p s) (hx : SlX w w.heap.size A l) : RnA w s p A l (w.alloc (bedBox s p)) :=
  ⟨Bx.new hs, (hx.below ((Below.refl _ _).alloc (Nat.le_refl _) _)).more (by simp), (Below.refl _ _).alloc (Nat.le_refl _) _⟩
set_option maxHeartbeats 16000000 in
theorem runs_walk (s : BedS) (p : BedP) (hwf : s.wf) (l : List Ins) (hlw : ∀ i ∈ l, i.wf) (A : Option Addr) (c : Nat) (_ : l.length ≤ c) (_ : l.length ≤ maxLen) (w : World) (hs : BedAt w w.heap.size p s) (hx : SlX w w.heap.size A l) :
    Calls Try.prog 5 #[s.val p, .slice A l.length c] w fun e w' => e = .returned (.bool true) ∧ Below w.heap.size w w' := by
  have HG := Lib.hid (fun w => rgreat_bed s p w)
  have HL := Lib.hid (fun w => long_any A c l.length w)
  have HV0 := Lib.hid (RnA.new hs hx)
  have al : ∀ (W : World) (o : Obj), Below W.heap.size W (W.alloc o) := fun W o => (Below.refl _ W).alloc (Nat.le_refl _) o
  have HAl := Lib.hid al
  obtain ⟨c0, c1, c2, c3⟩ := HV0.out.st.cells
  clear al
  cases hg : greatB s with
  | true =>
    rw [hg] at HG
    unfold BedS.val at HG ⊢
    clear hs hg hx
    go_enter Try.func5, Try.ntmps5
    go_wp2_with fail
    refine (HG.out _).mono ?_
    rintro e w2 ⟨rfl, hb2⟩
    have HV2 := Lib.hid (HV0.out.to hb2)
    clear hb2 c0 c1 c2 c3
    go_wp2
    go_ret
    exact ⟨rfl, HV2.out.lo⟩
  | false =>
    rw [hg] at HG
    cases hlg : longB l.length with
    | true =>
      rw [hlg] at HL
      unfold BedS.val at HG ⊢
      clear hs hg hx hlg
      go_enter Try.func5, Try.ntmps5
      go_wp2_with fail
      refine (HG.out _).mono ?_
      rintro e w2 ⟨rfl, hb2⟩
      have HV2 := Lib.hid (HV0.out.to hb2)
      clear hb2 c0 c1 c2 c3
      go_wp2_with fail
      refine (HL.out _).mono ?_
      rintro e w3 ⟨rfl, rfl⟩
      go_wp2
      go_ret
      exact ⟨rfl, HV2.out.lo⟩
    | false =>
      rw [hlg] at HL
      have hn := great_len hg
      have hl2 : l.length ≤ 2100 ∧ (l.length ≤ 2000 → l.length ≤ 300) := by
        unfold longB at hlg
        simp only [Bool.or_eq_false_iff, Bool.and_eq_false_iff, decide_eq_false_iff_not] at hlg
        omega
      have hcap : bedE s = 0 → l.length ≤ 2000 → s.made.length + l.length ≤ 3999 := fun he h2 => by have := great_small hg he; have := hl2.2 h2; omega
      have HDo : Hid (∀ W, RnA w s p A l W → Calls Try.prog 26 #[s.val p, .slice A l.length c] W fun e w' => ∃ q : BedP, e = .returned (.tuple #[(runS s l).1.val q, .int .i64 (runS s l).2.1, .int .i64 (runS s l).2.2]) ∧ BedAt w' w'.heap.size q (runS s l).1 ∧ Below W.heap.size W w') := fun W hv => by
        refine (brun_any s p hwf hn l (by omega) hcap hlw A c W hv.st.state hv.sl).mono ?_
        rintro e w' ⟨q, he, hf, hb⟩
        exact ⟨q, he, hf.at_, hb⟩
      have HRo : Hid (∀ W, RnA w s p A l W → Calls Try.prog 27 #[s.val p, .slice A l.length c] W fun e w' => ∃ q : BedP, e = .returned (.tuple #[(runS s l).1.val q, .int .i64 (runS s l).2.1, .int .i64 (runS s l).2.2]) ∧ BedAt w' w'.heap.size q (runS s l).1 ∧ Below W.heap.size W w') := fun W hv => by
        refine (rrun_any s p hwf hn l (by omega) hcap hlw A c W hv.st.state hv.sl).mono ?_
        rintro e w' ⟨q, he, hf, hb⟩
        exact ⟨q, he, hf.at_, hb⟩
      have hfit := runS_fits hwf hlw (s := s) (l := l)
      obtain ⟨t, ht⟩ : ∃ t, t = (runS s l).1 := ⟨_, rfl⟩
      obtain ⟨x, hxx⟩ : ∃ x, x = (runS s l).2.1 := ⟨_, rfl⟩
      obtain ⟨y, hyy⟩ : ∃ y, y = (runS s l).2.2 := ⟨_, rfl⟩
      rw [← ht] at HDo HRo hfit
      rw [← hxx, ← hyy] at HDo HRo
      have HSm : Hid (∀ b1 b2 q1 q2 W, Bx W b1 t q1 → Bx W b2 t q2 → Calls Try.prog 24 #[t.val q1, t.val q2] W fun e w' => e = .returned (.bool true) ∧ Below W.heap.size W w') := fun b1 b2 q1 q2 W h1 h2 => rsame_any t q1 q2 hfit.1 hfit.2 W h1.state h2.state
      unfold BedS.val at HG HDo HRo HSm ⊢
      clear hs hg hn hfit ht hxx hyy hlg hl2 hcap hx
      go_enter Try.func5, Try.ntmps5
      go_wp2_with fail
      refine (HG.out _).mono ?_
      rintro e w2 ⟨rfl, hb2⟩
      have HV2 := Lib.hid (HV0.out.to hb2)
      clear hb2 c0 c1 c2 c3
      obtain ⟨c0, c1, c2, c3⟩ := HV2.out.st.cells
      go_wp2_with fail
      refine (HL.out _).mono ?_
      rintro e w2' ⟨rfl, rfl⟩
      go_wp2_with fail
      refine (HDo.out _ HV2.out).mono ?_
      rintro e w3 ⟨q1, rfl, hs3, hb3⟩
      have HV3 := Lib.hid ((HV2.out.to hb3).to (HAl.out _ (bedBox t q1)))
      have HX3 := Lib.hid (Bx.new hs3)
      clear hb3 hs3 c0 c1 c2 c3
      obtain ⟨c0, c1, c2, c3⟩ := HV3.out.st.cells
      go_wp2_with fail
      refine (HRo.out _ HV3.out).mono ?_
      rintro e w4 ⟨q2, rfl, hs4, hb4⟩
      have HV4 := Lib.hid ((HV3.out.to hb4).to (HAl.out _ (bedBox t q2)))
      have HX4 := Lib.hid ((HX3.out.to hb4).to (HAl.out _ (bedBox t q2)))
      have HX5 := Lib.hid (Bx.new hs4)
      clear hb4 hs4 c0 c1 c2 c3 HV3 HV2 HV0 HX3
      obtain ⟨c0, c1, c2, c3⟩ := HX4.out.cells
      obtain ⟨d0, d1, d2, d3⟩ := HX5.out.cells
      have l0 := lt_of_cell c0
      simp at l0
      go_wp2_with fail
      refine (HSm.out _ _ _ _ _ HX4.out HX5.out).mono ?_
      rintro e w5 ⟨rfl, hb5⟩
      have HO := Lib.hid (HV4.out.to hb5).lo
      clear hb5 c0 c1 c2 c3 d0 d1 d2 d3 HX4 HX5 HV4
      go_wp2
      go_ret
      exact ⟨rfl, HO.out⟩
end Go.Proofs.Ytjoglkamhjcmhaa
