/- BedValid, walked: states stay valid. -/
import Derived.Test.YtjoglkamhjcmhaaKPs
import Derived.Test.YtjoglkamhjcmhaaKPp
namespace Go.Proofs.Ytjoglkamhjcmhaa
open Go.RowKit Go.Shelf Go.Sort
set_option maxRecDepth 100000

theorem great_small {s : BedS} (h : greatB s = false) (he : bedE s = 0) : s.made.length ≤ 300 := by
  have := (bed_zero he).2.2.2.2
  unfold greatB at h
  simp only [Bool.or_eq_false_iff, decide_eq_false_iff_not] at h
  omega
theorem doS_bad {s : BedS} {i : Ins} (h : (doS s i).2 ≠ 0) : doS s i = (bed0, (doS s i).2) := by
  have e : (doS s i).1 = bed0 := by
    by_cases h1 : bedE s = 0
    · by_cases h2 : i.err = 0
      · have e : doS s i = doI s i := by unfold doS; rw [if_neg (by simpa using h1), if_neg (by simpa using h2)]
        rw [e] at h ⊢
        exact doI_bad h
      · unfold doS; rw [if_neg (by simpa using h1), if_pos h2]
    · unfold doS; rw [if_pos h1]
  exact Prod.ext e rfl
theorem doS_ok {s : BedS} (hwf : s.wf) {i : Ins} (hwi : i.wf) (h : (doS s i).2 = 0) : Good s ∧ i.err = 0 ∧ Good (doS s i).1 ∧ doS s i = doI s i ∧ ∃ l : List Mk, (doS s i).1.made = s.made ++ l ∧ l.length = madeN i := by
  unfold doS at h
  split at h
  · exact absurd h (by assumption)
  · rename_i h1
    split at h
    · exact absurd h (by assumption)
    · rename_i h2
      have he : bedE s = 0 := by simpa using h1
      have hi : i.err = 0 := by simpa using h2
      have e : doS s i = doI s i := by unfold doS; rw [if_neg h1, if_neg h2]
      have hg := Good.of he hwf
      obtain ⟨g, l⟩ := doI_good hg hwi (Ins.good_err hi) h
      rw [e]
      exact ⟨hg, hi, g, rfl, l⟩
theorem same0 (q : BedP) (w : World) (n : Nat) (hn : n = 0) : Calls Try.prog 24 #[.agg #[.int .i64 0, .slice q.ah n q.ch, .slice q.af n q.cf, .slice q.am n q.cm], .agg #[.int .i64 0, .slice none 0 0, .slice none 0 0, .slice none 0 0]] w fun e w' => e = .returned (.bool true) ∧ Below w.heap.size w w' := by
  subst hn
  exact rsame_any bed0 q bedP0 ⟨by decide, by decide, by decide⟩ ⟨fun _ h => absurd h List.not_mem_nil, fun _ h => absurd h List.not_mem_nil⟩ w ⟨fun h => absurd rfl h, fun h => absurd rfl h, fun h => absurd rfl h⟩ (bedAt0 _ _)
/-- The law's two boxes. -/
structure VlA (w : World) (s : BedS) (p : BedP) (i : Ins) (W : World) : Prop where
  st : Bx W w.heap.size s p
  ins : InsIn W (w.heap.size + 1) i
  lo : Below w.heap.size w W
theorem VlA.to {w W W' : World} {s : BedS} {p : BedP} {i : Ins} (h : VlA w s p i W) (hb : Below W.heap.size W W') : VlA w s p i W' := ⟨h.st.to hb, h.ins.below hb (lt_of_cell h.ins.1), h.lo.trans (hb.mono h.lo.size)⟩
theorem VlA.new {w : World} {s : BedS} {p : BedP} (hs : BedAt w w.heap.size p s) (i : Ins) : VlA w s p i ((w.alloc (bedBox s p)).alloc (insBox i)) := by
  refine ⟨(Bx.new hs).to ((Below.refl _ _).alloc (Nat.le_refl _) _), ?_, ((Below.refl _ w).alloc (Nat.le_refl _) _).alloc (by simp) _⟩
  have := InsIn.new (w.alloc (bedBox s p)) i
  simpa using this
structure VlB (w : World) (s : BedS) (p : BedP) (i : Ins) (b : Nat) (t : BedS) (q : BedP) (W : World) : Prop where
  a : VlA w s p i W
  st : Bx W b t q
theorem VlB.to {w W W' : World} {s t : BedS} {p q : BedP} {i : Ins} {b : Nat} (h : VlB w s p i b t q W) (hb : Below W.heap.size W W') : VlB w s p i b t q W' := ⟨h.a.to hb, h.st.to hb⟩
set_option maxHeartbeats 16000000 in
theorem valid_walk (s : BedS) (p : BedP) (hwf : s.wf) (i : Ins) (hwi : i.wf) (w : World) (hs : BedAt w w.heap.size p s) :
    Calls Try.prog 7 #[s.val p, i.val] w fun e w' => e = .returned (.bool true) ∧ Below w.heap.size w w' := by
  have HG := Lib.hid (fun w => rgreat_bed s p w)
  have HA := Lib.hid (fun w => alive_any w)
  have HV0 := Lib.hid (VlA.new hs i)
  have al : ∀ (W : World) (o : Obj), Below W.heap.size W (W.alloc o) := fun W o => (Below.refl _ W).alloc (Nat.le_refl _) o
  have HAl := Lib.hid al
  clear al
  cases hg : greatB s with
  | true =>
    rw [hg] at HG
    unfold BedS.val at HG ⊢
    unfold Ins.val
    clear hs hg
    go_enter Try.func7, Try.ntmps7
    go_wp2_with fail
    refine (HA.out _).mono ?_
    rintro e w1 ⟨rfl, hb1⟩
    have HV1 := Lib.hid (HV0.out.to hb1)
    obtain ⟨c0, c1, c2, c3⟩ := HV1.out.st.cells
    clear hb1
    go_wp2_with fail
    refine (HG.out _).mono ?_
    rintro e w2 ⟨rfl, hb2⟩
    have HV2 := Lib.hid (HV1.out.to hb2)
    clear hb2 c0 c1 c2 c3
    go_wp2
    go_ret
    exact ⟨rfl, HV2.out.lo⟩
  | false =>
    rw [hg] at HG
    have hn := great_len hg
    have HDo : Hid (∀ W, VlA w s p i W → Calls Try.prog 18 #[s.val p, i.val] W fun e w' => bedOut (doS s i) W e w') := fun W hv => bdo_any s p hwf hn (fun he => by have := great_small hg he; omega) i hwi W hv.st.state
    by_cases hz : (doS s i).2 = 0
    case neg =>
      have HDx : Hid (∀ W, VlA w s p i W → Calls Try.prog 18 #[s.val p, i.val] W fun e w' => ∃ q : BedP, e = .returned (.tuple #[.agg #[.int .i64 0, .slice q.ah 0 q.ch, .slice q.af 0 q.cf, .slice q.am 0 q.cm], .int .i64 (doS s i).2]) ∧ Below W.heap.size W w') := fun W hv => by
        refine (HDo.out W hv).mono ?_
        intro e w' h
        rw [doS_bad hz] at h
        obtain ⟨q, he, -, hb⟩ := h
        rw [doS_bad hz]
        exact ⟨q, he, hb⟩
      have e1 : ((doS s i).2 == 0) = false := by simp [hz]
      have e2 : ((doS s i).2 != 0) = true := by simp [hz]
      unfold BedS.val at HG HDx ⊢
      unfold Ins.val at HDx ⊢
      generalize (doS s i).2 = x at HDx e1 e2
      clear hs hg hz HDo hn
      go_enter Try.func7, Try.ntmps7
      go_wp2_with fail
      refine (HA.out _).mono ?_
      rintro e w1 ⟨rfl, hb1⟩
      have HV1 := Lib.hid (HV0.out.to hb1)
      obtain ⟨c0, c1, c2, c3⟩ := HV1.out.st.cells
      clear hb1
      go_wp2_with fail
      refine (HG.out _).mono ?_
      rintro e w2 ⟨rfl, hb2⟩
      have HV2 := Lib.hid (HV1.out.to hb2)
      clear hb2 c0 c1 c2 c3
      obtain ⟨c0, c1, c2, c3⟩ := HV2.out.st.cells
      obtain ⟨x0, x1, x2, x3, x4, x5, x6⟩ := HV2.out.ins
      go_wp2_with fail
      refine (HDx.out _ HV2.out).mono ?_
      rintro e w3 ⟨q, rfl, hb3⟩
      have HV3 := Lib.hid (HV2.out.to hb3)
      clear hb3 c0 c1 c2 c3 x0 x1 x2 x3 x4 x5 x6
      go_wp2_with fail
      refine (same0 q _ 0 rfl).mono ?_
      rintro e w4 ⟨rfl, hb4⟩
      have HV4 := Lib.hid ((HV3.out.to (HAl.out _ _)).to hb4)
      clear hb4
      go_wp2
      go_ret
      exact ⟨rfl, HV4.out.lo⟩
    case pos =>
      obtain ⟨hgs, hie, hgt, -, l, hml, hln⟩ := doS_ok hwf hwi hz
      have HDx : Hid (∀ W, VlA w s p i W → Calls Try.prog 18 #[s.val p, i.val] W fun e w' => ∃ q : BedP, e = .returned (.tuple #[(doS s i).1.val q, .int .i64 0]) ∧ BedAt w' w'.heap.size q (doS s i).1 ∧ Below W.heap.size W w') := fun W hv => by
        refine (HDo.out W hv).mono ?_
        rintro e w' ⟨q, he, hf, hb⟩
        rw [hz] at he
        exact ⟨q, he, hf.at_, hb⟩
      generalize (doS s i).1 = t at HDx hgt hml
      have HL : Hid ((t.made.length : Int) = (s.made.length : Int) + (madeN i : Nat)) := by unfold Hid; rw [hml, List.length_append, hln]; omega
      have HCs : Hid (∀ W, VlA w s p i W → Calls Try.prog 23 #[s.val p] W fun e w' => e = .returned (.int .i64 0) ∧ Below W.heap.size W w') := fun W hv => by
        have := rbcheck_any s p hwf ⟨by omega, by omega, by omega⟩ W hv.st.state
        unfold RetB8 at this
        rwa [hgs.err] at this
      have hlt : t.hooks.length ≤ 10000 ∧ t.feeds.length ≤ 10000 ∧ t.made.length ≤ 10000 := ⟨by have := hgt.seek.1; omega, by have := hgt.fd.len; omega, by have := hgt.len; omega⟩
      have HCt : Hid (∀ b q W, VlB w s p i b t q W → Calls Try.prog 23 #[t.val q] W fun e w' => e = .returned (.int .i64 0) ∧ Below W.heap.size W w') := fun b q W hv => by
        have := rbcheck_any t q hgt.wf hlt W hv.st.state
        unfold RetB8 at this
        rwa [hgt.err] at this
      have HCb : Hid (∀ b q W, VlB w s p i b t q W → Calls Try.prog 22 #[t.val q] W fun e w' => e = .returned (.int .i64 0) ∧ Below W.heap.size W w') := fun b q W hv => by
        have := bcheck_any t q hgt.wf hlt W hv.st.state
        unfold RetB8 at this
        rwa [hgt.err] at this
      have HI := Lib.hid (fun W => rinstr_any i W)
      rw [hie] at HI
      unfold BedS.val at HG HDx HCs HCt HCb ⊢
      unfold Ins.val at HDx HI ⊢
      have HN := Lib.hid (show s.made.length ≤ 9000 ∧ t.made.length ≤ 9000 from ⟨hn.2.2, by have := hgt.len; omega⟩)
      clear hs hg hz HDo hn hgs hie hgt hml hln hlt
      go_enter Try.func7, Try.ntmps7
      go_wp2_with fail
      refine (HA.out _).mono ?_
      rintro e w1 ⟨rfl, hb1⟩
      have HV1 := Lib.hid (HV0.out.to hb1)
      obtain ⟨c0, c1, c2, c3⟩ := HV1.out.st.cells
      clear hb1
      go_wp2_with fail
      refine (HG.out _).mono ?_
      rintro e w2 ⟨rfl, hb2⟩
      have HV2 := Lib.hid (HV1.out.to hb2)
      clear hb2 c0 c1 c2 c3
      obtain ⟨c0, c1, c2, c3⟩ := HV2.out.st.cells
      obtain ⟨x0, x1, x2, x3, x4, x5, x6⟩ := HV2.out.ins
      go_wp2_with fail
      refine (HDx.out _ HV2.out).mono ?_
      rintro e w3 ⟨q, rfl, hs3, hb3⟩
      have HV3 : Hid (VlB w s p i w3.heap.size t q (w3.alloc (bedBox t q))) := ⟨(HV2.out.to hb3).to (HAl.out _ _), Bx.new hs3⟩
      clear hb3 hs3 c0 c1 c2 c3 x0 x1 x2 x3 x4 x5 x6
      obtain ⟨c0, c1, c2, c3⟩ := HV3.out.a.st.cells
      have l0 := lt_of_cell c0
      simp at l0
      go_wp2_with fail
      refine (HCs.out _ HV3.out.a).mono ?_
      rintro e w4 ⟨rfl, hb4⟩
      have HV4 := Lib.hid (HV3.out.to hb4)
      clear hb4 c0 c1 c2 c3 l0
      obtain ⟨x0, x1, x2, x3, x4, x5, x6⟩ := HV4.out.a.ins
      go_wp2_with fail
      refine (HI.out _).mono ?_
      rintro e w5 ⟨rfl, hb5⟩
      have HV5 := Lib.hid (HV4.out.to hb5)
      clear hb5 x0 x1 x2 x3 x4 x5 x6
      obtain ⟨d0, d1, d2, d3⟩ := HV5.out.st.cells
      go_wp2_with fail
      refine (HCt.out _ _ _ HV5.out).mono ?_
      rintro e w6 ⟨rfl, hb6⟩
      have HV6 := Lib.hid (HV5.out.to hb6)
      clear hb6 d0 d1 d2 d3
      obtain ⟨d0, d1, d2, d3⟩ := HV6.out.st.cells
      go_wp2_with fail
      refine (HCb.out _ _ _ HV6.out).mono ?_
      rintro e w7 ⟨rfl, hb7⟩
      have HV7 := Lib.hid (HV6.out.to hb7)
      clear hb7 d0 d1 d2 d3
      obtain ⟨d0, d1, d2, d3⟩ := HV7.out.st.cells
      obtain ⟨c0, c1, c2, c3⟩ := HV7.out.a.st.cells
      obtain ⟨x0, x1, x2, x3, x4, x5, x6⟩ := HV7.out.a.ins
      obtain ⟨hn1, hn2⟩ := HN.out
      have HFin : Hid (∀ x : Int, madeN i = x → ((t.made.length : Int) == (s.made.length : Int) + x) = true) := fun x hx => by have := HL.out; rw [hx] at this; simp [this]
      by_cases o3 : i.op = 3
      · have b3 : (i.op == 3) = true := by simp [o3]
        have hf := HFin.out 1 (by unfold madeN; rw [if_pos (Or.inl o3)]; rfl)
        clear o3
        go_wp2
        go_ret
        exact ⟨rfl, HV7.out.a.lo⟩
      have b3 : (i.op == 3) = false := by simp [o3]
      by_cases o4 : i.op = 4
      · have b4 : (i.op == 4) = true := by simp [o4]
        have hf := HFin.out 1 (by unfold madeN; rw [if_pos (Or.inr (Or.inl o4))]; rfl)
        clear o3 o4
        go_wp2
        go_ret
        exact ⟨rfl, HV7.out.a.lo⟩
      have b4 : (i.op == 4) = false := by simp [o4]
      by_cases o6 : i.op = 6
      · have b6 : (i.op == 6) = true := by simp [o6]
        have hf := HFin.out 1 (by unfold madeN; rw [if_pos (Or.inr (Or.inr o6))]; rfl)
        clear o3 o4 o6
        go_wp2
        go_ret
        exact ⟨rfl, HV7.out.a.lo⟩
      have b6 : (i.op == 6) = false := by simp [o6]
      have hf := HFin.out 0 (by unfold madeN; rw [if_neg (by omega)]; rfl)
      have hf' : ((t.made.length : Int) == (s.made.length : Int)) = true := by simpa using hf
      clear o3 o4 o6
      go_wp2
      go_ret
      exact ⟨rfl, HV7.out.a.lo⟩
end Go.Proofs.Ytjoglkamhjcmhaa
