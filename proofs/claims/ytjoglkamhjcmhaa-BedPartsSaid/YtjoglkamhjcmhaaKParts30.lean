/- BedParts, walked: parts one after the other. -/
import Derived.Test.YtjoglkamhjcmhaaKBack
import Derived.Test.YtjoglkamhjcmhaaKRunP
namespace Go.Proofs.Ytjoglkamhjcmhaa
open Go.RowKit Go.Shelf Go.Sort
set_option maxRecDepth 100000

/-- The law's box, its list, and boxes of states. -/
structure Pt (w : World) (s : BedS) (p : BedP) (A : Option Addr) (l : List Ins) (bs : List (Nat × BedS × BedP)) (W : World) : Prop where
  a : VlS w s p W
  sl : SlX W W.heap.size A l
  bx : ∀ x ∈ bs, Bx W x.1 x.2.1 x.2.2
section
variable {w W W' : World} {s : BedS} {p : BedP} {A : Option Addr} {l : List Ins} {bs : List (Nat × BedS × BedP)}
theorem Pt.to (h : Pt w s p A l bs W) (hb : Below W.heap.size W W') : Pt w s p A l bs W' := ⟨h.a.to hb, (h.sl.below hb).more hb.size, fun x hx => (h.bx x hx).to hb⟩
theorem Pt.add (h : Pt w s p A l bs W) {b : Nat} {t : BedS} {q : BedP} (hx : Bx W b t q) : Pt w s p A l ((b, t, q) :: bs) W := ⟨h.a, h.sl, fun x hm => by
  rcases List.mem_cons.1 hm with rfl | hm
  · exact hx
  · exact h.bx x hm⟩
theorem Pt.newBox (h : Pt w s p A l bs W) {t : BedS} {q : BedP} (hs : BedAt W W.heap.size q t) : Pt w s p A l ((W.heap.size, t, q) :: bs) (W.alloc (bedBox t q)) := (h.to ((Below.refl _ _).alloc (Nat.le_refl _) _)).add (Bx.new hs)
theorem Pt.head {b : Nat} {t : BedS} {q : BedP} (h : Pt w s p A l ((b, t, q) :: bs) W) : Bx W b t q := h.bx _ List.mem_cons_self
theorem Pt.second {x : Nat × BedS × BedP} {b : Nat} {t : BedS} {q : BedP} (h : Pt w s p A l (x :: (b, t, q) :: bs) W) : Bx W b t q := h.bx _ (List.mem_cons_of_mem _ List.mem_cons_self)
theorem Pt.third {x y : Nat × BedS × BedP} {b : Nat} {t : BedS} {q : BedP} (h : Pt w s p A l (x :: y :: (b, t, q) :: bs) W) : Bx W b t q := h.bx _ (List.mem_cons_of_mem _ (List.mem_cons_of_mem _ List.mem_cons_self))
theorem Pt.new (hs : BedAt w w.heap.size p s) (hx : SlX w w.heap.size A l) : Pt w s p A l [] (w.alloc (bedBox s p)) :=
  ⟨VlS.new hs, (hx.below ((Below.refl _ _).alloc (Nat.le_refl _) _)).more (by simp), fun _ h => absurd h List.not_mem_nil⟩
theorem pt_a {wd : World} {lo : Nat} {t : BedS} {q : BedP} (h : Pt w s p A l bs W) (hb : Below W.heap.size W wd) (hf : BedFr lo wd q t) : Pt w s p A l ((wd.heap.size, t, q) :: bs) (wd.alloc (bedBox t q)) := (h.to hb).newBox hf.at_
theorem pt_b {wd : World} {t : BedS} {q : BedP} (h : Pt w s p A l bs W) (hbd : Below (W.alloc bedZero).drew.heap.size (W.alloc bedZero).drew wd) (hf : BedFr (W.alloc bedZero).drew.heap.size wd q t) : Pt w s p A l ((W.heap.size, t, q) :: bs) (BdIn.set wd W.heap.size t q) := by
  have h1 : Below (W.heap.size + 1) (W.alloc bedZero) wd := ((Below.refl _ _).drew).trans (hbd.mono (by simp))
  have h2 : Below W.heap.size W wd := ((Below.refl _ W).alloc (Nat.le_refl _) _).trans (h1.mono (by omega))
  exact (h.to (BdIn.kept h2 (Nat.le_refl _) _ _)).add (Bx.set hf (by simp) (zero_at W h1 (by omega)).1)
theorem pt_c {wd : World} {o : Obj} (h : Pt w s p A l bs W) (hb : Below W.heap.size W wd) : Pt w s p A l bs (wd.alloc o) := (h.to hb).to ((Below.refl _ _).alloc (Nat.le_refl _) _)
theorem pt_d {wd : World} {t : BedS} {q : BedP} (h : Pt w s p A l bs W) (hb : Below W.heap.size W wd) : Pt w s p A l bs (BdIn.set wd W.heap.size t q) := h.to (BdIn.kept hb (Nat.le_refl _) _ _)
end
set_option maxHeartbeats 16000000 in
theorem parts_out (s : BedS) (p : BedP) (hwf : s.wf) (l : List Ins) (A : Option Addr) (c : Nat) (x : Int) (hl0 : l.length ≤ 9223372036854775807) (ho : greatB s = true ∨ bedE s ≠ 0 ∨ 300 < l.length ∨ x < 0 ∨ (l.length : Int) < x) (w : World) (hs : BedAt w w.heap.size p s) (hx : SlX w w.heap.size A l) :
    Calls Try.prog 10 #[s.val p, .slice A l.length c, .int .i64 x] w fun e w' => e = .returned (.bool true) ∧ Below w.heap.size w w' := by
  have HG := Lib.hid (fun w => rgreat_bed s p w)
  have HA := Lib.hid (fun w => alive_any w)
  have HV0 := Lib.hid (Pt.new hs hx)
  have al : ∀ (W : World) (o : Obj), Below W.heap.size W (W.alloc o) := fun W o => (Below.refl _ W).alloc (Nat.le_refl _) o
  have HAl := Lib.hid al
  clear al
  have HC : Hid (∀ W, greatB s = false → VlS w s p W → Calls Try.prog 23 #[s.val p] W fun e w' => e = .returned (.int .i64 (bedE s)) ∧ Below W.heap.size W w') := fun W hg hv => by
    have hn := great_len hg
    exact rbcheck_any s p hwf ⟨by omega, by omega, by omega⟩ W hv.st.state
  unfold BedS.val at HG HC ⊢
  cases hg : greatB s with
  | true =>
    rw [hg] at HG
    clear hs hg ho
    go_enter Try.func10, Try.ntmps10
    go_wp2_with fail
    refine (HA.out _).mono ?_
    rintro e w1 ⟨rfl, hb1⟩
    have HV1 := Lib.hid (HV0.out.to hb1)
    obtain ⟨c0, c1, c2, c3⟩ := HV1.out.a.st.cells
    clear hb1
    go_wp2_with fail
    refine (HG.out _).mono ?_
    rintro e w2 ⟨rfl, hb2⟩
    have HV2 := Lib.hid (HV1.out.to hb2)
    clear hb2 c0 c1 c2 c3
    go_wp2
    go_ret
    exact ⟨rfl, HV2.out.a.lo⟩
  | false =>
    rw [hg] at HG
    replace HC := Lib.hid (fun W hv => HC.out W hg hv)
    by_cases he : bedE s = 0
    case neg =>
      have e1 : (bedE s == 0) = false := by simp [he]
      have e2 : (bedE s != 0) = true := by simp [he]
      generalize bedE s = x at HC e1 e2
      clear hs hg ho he
      go_enter Try.func10, Try.ntmps10
      go_wp2_with fail
      refine (HA.out _).mono ?_
      rintro e w1 ⟨rfl, hb1⟩
      have HV1 := Lib.hid (HV0.out.to hb1)
      obtain ⟨c0, c1, c2, c3⟩ := HV1.out.a.st.cells
      clear hb1
      go_wp2_with fail
      refine (HG.out _).mono ?_
      rintro e w2 ⟨rfl, hb2⟩
      have HV2 := Lib.hid (HV1.out.to hb2)
      clear hb2 c0 c1 c2 c3
      obtain ⟨c0, c1, c2, c3⟩ := HV2.out.a.st.cells
      go_wp2_with fail
      refine (HC.out _ HV2.out.a).mono ?_
      rintro e w3 ⟨rfl, hb3⟩
      have HV3 := Lib.hid (HV2.out.to hb3)
      clear hb3 c0 c1 c2 c3
      go_wp2
      go_ret
      exact ⟨rfl, HV3.out.a.lo⟩
    case pos =>
      rw [he] at HC
      have ho' : 300 < l.length ∨ x < 0 ∨ (l.length : Int) < x := by
        rcases ho with h | h | h
        · rw [hg] at h; cases h
        · exact absurd he h
        · exact h
      clear hs hg ho he
      by_cases k1 : 300 < l.length
      case pos =>
        have fk1_0 : decide (300 < l.length) = true := decide_eq_true (by omega)
        have fk1_1 : decide (300 < (l.length : Int)) = true := decide_eq_true (by omega)
        clear k1 ho'
        go_enter Try.func10, Try.ntmps10
        go_wp2_with fail
        refine (HA.out _).mono ?_
        rintro e w1 ⟨rfl, hb1⟩
        have HV1 := Lib.hid (HV0.out.to hb1)
        obtain ⟨c0, c1, c2, c3⟩ := HV1.out.a.st.cells
        clear hb1
        go_wp2_with fail
        refine (HG.out _).mono ?_
        rintro e w2 ⟨rfl, hb2⟩
        have HV2 := Lib.hid (HV1.out.to hb2)
        clear hb2 c0 c1 c2 c3
        obtain ⟨c0, c1, c2, c3⟩ := HV2.out.a.st.cells
        go_wp2_with fail
        refine (HC.out _ HV2.out.a).mono ?_
        rintro e w3 ⟨rfl, hb3⟩
        have HV3 := Lib.hid (HV2.out.to hb3)
        clear hb3 c0 c1 c2 c3
        go_wp2
        go_ret
        exact ⟨rfl, HV3.out.a.lo⟩
      have fk1_0 : decide (300 < l.length) = false := decide_eq_false (by omega)
      have fk1_1 : decide (300 < (l.length : Int)) = false := decide_eq_false (by omega)
      by_cases k2 : x < 0
      case pos =>
        have fk2_0 : decide (x < 0) = true := decide_eq_true (by omega)
        clear k2 ho'
        go_enter Try.func10, Try.ntmps10
        go_wp2_with fail
        refine (HA.out _).mono ?_
        rintro e w1 ⟨rfl, hb1⟩
        have HV1 := Lib.hid (HV0.out.to hb1)
        obtain ⟨c0, c1, c2, c3⟩ := HV1.out.a.st.cells
        clear hb1
        go_wp2_with fail
        refine (HG.out _).mono ?_
        rintro e w2 ⟨rfl, hb2⟩
        have HV2 := Lib.hid (HV1.out.to hb2)
        clear hb2 c0 c1 c2 c3
        obtain ⟨c0, c1, c2, c3⟩ := HV2.out.a.st.cells
        go_wp2_with fail
        refine (HC.out _ HV2.out.a).mono ?_
        rintro e w3 ⟨rfl, hb3⟩
        have HV3 := Lib.hid (HV2.out.to hb3)
        clear hb3 c0 c1 c2 c3
        go_wp2
        go_ret
        exact ⟨rfl, HV3.out.a.lo⟩
      have fk2_0 : decide (x < 0) = false := decide_eq_false (by omega)
      have k3 : (l.length : Int) < x := by omega
      have fk3_0 : decide ((l.length : Int) < x) = true := decide_eq_true (by omega)
      clear k1 k2 k3 ho'
      go_enter Try.func10, Try.ntmps10
      go_wp2_with fail
      refine (HA.out _).mono ?_
      rintro e w1 ⟨rfl, hb1⟩
      have HV1 := Lib.hid (HV0.out.to hb1)
      obtain ⟨c0, c1, c2, c3⟩ := HV1.out.a.st.cells
      clear hb1
      go_wp2_with fail
      refine (HG.out _).mono ?_
      rintro e w2 ⟨rfl, hb2⟩
      have HV2 := Lib.hid (HV1.out.to hb2)
      clear hb2 c0 c1 c2 c3
      obtain ⟨c0, c1, c2, c3⟩ := HV2.out.a.st.cells
      go_wp2_with fail
      refine (HC.out _ HV2.out.a).mono ?_
      rintro e w3 ⟨rfl, hb3⟩
      have HV3 := Lib.hid (HV2.out.to hb3)
      clear hb3 c0 c1 c2 c3
      go_wp2
      go_ret
      exact ⟨rfl, HV3.out.a.lo⟩
theorem limb4 {P0 P1 P2 P3  Q : Prop} (h : P0 ∧ P1 ∧ P2 ∧ P3 ∧ Q) : Q := h.2.2.2.2
theorem limb11 {P0 P1 P2 P3 P4 P5 P6 P7 P8 P9 P10  Q : Prop} (h : P0 ∧ P1 ∧ P2 ∧ P3 ∧ P4 ∧ P5 ∧ P6 ∧ P7 ∧ P8 ∧ P9 ∧ P10 ∧ Q) : Q := h.2.2.2.2.2.2.2.2.2.2.2
set_option maxHeartbeats 16000000 in
theorem parts_one (s : BedS) (p : BedP) (hwf : s.wf) (l : List Ins) (hwl : ∀ i ∈ l, i.wf) (A : Option Addr) (c : Nat) (hlc : l.length ≤ c) (n : Nat) (hg : greatB s = false) (he : bedE s = 0) (hl : l.length ≤ 300) (hnl : n ≤ l.length) (hf : (runS s (l.take n)).2.2 ≠ 0) (w : World) (hs : BedAt w w.heap.size p s) (hx : SlX w w.heap.size A l) :
    Calls Try.prog 10 #[s.val p, .slice A l.length c, .int .i64 (n : Int)] w fun e w' => e = .returned (.bool true) ∧ Below w.heap.size w w' := by
  have HG := Lib.hid (fun w => rgreat_bed s p w)
  have HA := Lib.hid (fun w => alive_any w)
  have HV0 := Lib.hid (Pt.new hs hx)
  have al : ∀ (W : World) (o : Obj), Below W.heap.size W (W.alloc o) := fun W o => (Below.refl _ W).alloc (Nat.le_refl _) o
  have HAl := Lib.hid al
  clear al
  have hgs := Good.of he hwf
  have hn := great_len hg
  have hm := great_small hg he
  have hlt : (l.take n).length = n := by rw [List.length_take]; omega
  have hld : (l.drop n).length = l.length - n := List.length_drop ..
  have HC : Hid (∀ W, VlS w s p W → Calls Try.prog 23 #[s.val p] W fun e w' => e = .returned (.int .i64 0) ∧ Below W.heap.size W w') := fun W hv => by
    have := rbcheck_any s p hwf ⟨by omega, by omega, by omega⟩ W hv.st.state
    unfold RetB8 at this
    rwa [he] at this
  have HR0 : Hid (∀ {bs W}, Pt w s p A l bs W → Calls Try.prog 26 #[s.val p, .slice A l.length c] W fun e w' => ∃ q, e = .returned (.tuple #[(runS s l).1.val q, .int .i64 (runS s l).2.1, .int .i64 (runS s l).2.2]) ∧ BedFr W.heap.size w' q (runS s l).1 ∧ Below W.heap.size W w') := fun {bs W} hv =>
    brun_any s p hwf hn l (by omega) (fun _ _ => by omega) hwl A c W hv.a.st.state hv.sl
  have HR1 : Hid (∀ {bs W}, Pt w s p A l bs W → Calls Try.prog 26 #[s.val p, .slice A n c] W fun e w' => ∃ q, e = .returned (.tuple #[(runS s (l.take n)).1.val q, .int .i64 (runS s (l.take n)).2.1, .int .i64 (runS s (l.take n)).2.2]) ∧ BedFr W.heap.size w' q (runS s (l.take n)).1 ∧ Below W.heap.size W w') := fun {bs W} hv => by
    have h := brun_any s p hwf hn (l.take n) (by omega) (fun _ _ => by omega) (fun i hi => hwl i (List.mem_of_mem_take hi)) A c W hv.a.st.state (hv.sl.take n)
    rw [hlt] at h
    exact h
  have hsl := run_take A l.length c n (by omega)
  have k1 : decide (300 < l.length) = false := decide_eq_false (by omega)
  have k1' : decide (300 < (l.length : Int)) = false := decide_eq_false (by omega)
  have k2 : decide ((n : Int) < 0) = false := decide_eq_false (by omega)
  have k3 : decide (l.length < n) = false := decide_eq_false (by omega)
  have k3' : decide ((l.length : Int) < (n : Int)) = false := decide_eq_false (by omega)
  rw [hg] at HG
  obtain ⟨pb1, pb2, pb3, pb4⟩ := parts_bad he hl hnl hf
  rw [pb1] at HR0
  rw [pb4] at HR0 HR1
  generalize (runS s (l.take n)).2.1 = m at HR0 HR1 pb2 pb3
  generalize (runS s (l.take n)).2.2 = f at HR0 HR1 hf
  have f1 : (f == 0) = false := by simp [hf]
  have f2 : (f != 0) = true := by simp [hf]
  have f3 : decide (0 ≤ m) = true := decide_eq_true pb2
  have f4 : decide (m < (n : Int)) = true := decide_eq_true pb3
  unfold BedS.val at HG HC HR0 HR1 ⊢
  clear hs hx hg he hl hnl hn hm hlt hld hgs pb1 pb2 pb3 pb4 hf hwl hlc hwf
  go_enter Try.func10, Try.ntmps10
  go_wp2_with fail
  refine (HA.out _).mono ?_
  rintro e w1 ⟨rfl, hb1⟩
  have HV1 := Lib.hid (HV0.out.to hb1)
  obtain ⟨c0, c1, c2, c3⟩ := HV1.out.a.st.cells
  clear hb1
  go_wp2_with fail
  refine (HG.out _).mono ?_
  rintro e w2 ⟨rfl, hb2⟩
  have HV2 := Lib.hid (HV1.out.to hb2)
  clear hb2 c0 c1 c2 c3
  obtain ⟨c0, c1, c2, c3⟩ := HV2.out.a.st.cells
  go_wp2_with fail
  refine (HC.out _ HV2.out.a).mono ?_
  rintro e w3 ⟨rfl, hb3⟩
  have HV3 := Lib.hid (HV2.out.to hb3)
  clear hb3 c0 c1 c2 c3
  obtain ⟨c0, c1, c2, c3⟩ := HV3.out.a.st.cells
  go_wp2_with fail
  refine (HR0.out HV3.out).mono ?_
  rintro e w4 ⟨q0, rfl, hf4, hb4⟩
  have HV4' := Lib.hid ((HV3.out.to hb4).newBox hf4.at_)
  clear hb4 hf4 c0 c1 c2 c3
  go_upto_region 5 with fail
  refine abs_world (Q := fun W => Code.wp _ _ _ _ W) (F := Pt w s p A l [(w4.heap.size, bed0, q0)]) _ HV4'.out ?_
  clear HV4'
  intro W hW
  have HV4 := Lib.hid hW
  clear hW
  have hb0 : Below W.heap.size W W.drew := (Below.refl _ _).drew
  have HSb : Hid (∀ W', Below W.heap.size W W' → W'.cell? ⟨w.heap.size, 0, none⟩ = some (.int .i64 s.rack) ∧ W'.cell? ⟨w.heap.size, 1, none⟩ = some (.slice p.ah s.hooks.length p.ch) ∧ W'.cell? ⟨w.heap.size, 2, none⟩ = some (.slice p.af s.feeds.length p.cf) ∧ W'.cell? ⟨w.heap.size, 3, none⟩ = some (.slice p.am s.made.length p.cm) ∧ Below W.heap.size W W') := fun W' hb => by
    have h := (HV4.out.to hb).a.st.cells
    exact ⟨h.1, h.2.1, h.2.2.1, h.2.2.2, hb⟩
  have HBa : Hid (∀ X o, Below W.heap.size W X → Below W.heap.size W (X.alloc o)) := fun X o h => h.alloc h.size o
  have HBs : Hid (∀ (X : World) (b : Nat) (x0 x1 x2 x3 : Value), W.heap.size ≤ b → Below W.heap.size W X → Below W.heap.size W ((((X.setCell ⟨b, 0, none⟩ x0).setCell ⟨b, 1, none⟩ x1).setCell ⟨b, 2, none⟩ x2).setCell ⟨b, 3, none⟩ x3)) := fun X b x0 x1 x2 x3 hz h => (((h.setCell (p := ⟨b, 0, none⟩) hz _).setCell (p := ⟨b, 1, none⟩) hz _).setCell (p := ⟨b, 2, none⟩) hz _).setCell (p := ⟨b, 3, none⟩) hz _
  have HBd : Hid (∀ o, Below W.heap.size W (W.alloc o).drew) := fun o => ((Below.refl _ W).alloc (Nat.le_refl _) o).drew
  go_cut [12, 13] (fun s12 s13 wr => s12 = .int .i64 m ∧ s13 = .int .i64 f ∧ Hid (Pt w s p A l [(w4.heap.size, bed0, q0)] wr))
  case first =>
    go_region_held3 (fun W' => W'.cell? ⟨w.heap.size, 0, none⟩ = some (.int .i64 s.rack) ∧ W'.cell? ⟨w.heap.size, 1, none⟩ = some (.slice p.ah s.hooks.length p.ch) ∧ W'.cell? ⟨w.heap.size, 2, none⟩ = some (.slice p.af s.feeds.length p.cf) ∧ W'.cell? ⟨w.heap.size, 3, none⟩ = some (.slice p.am s.made.length p.cm) ∧ Below W.heap.size W W')
      (first | (with_reducible exact HSb.out _ (by assumption)) | (with_reducible exact HSb.out _ (HBa.out _ _ (by assumption))) | (with_reducible exact HSb.out _ (HBd.out _)) | (with_reducible exact HSb.out _ (HBs.out _ _ _ _ _ _ (by omega) (by assumption))) | fail)
      (first | (go_at_call 26; have hp := limb4 (by assumption); refine (HR1.out (HV4.out.to hp)).mono ?_; rintro e wd ⟨q, rfl, hsd, hbd⟩; have hbw2 := hp.trans (hbd.mono hp.size); clear hp; obtain ⟨hdc, hdf⟩ := bcell2 hbd; have hd1 := hbd.size; (try simp at hd1)))
    all_goals
      go_wp2_with fail
      go_meet
    · exact ⟨rfl, rfl, pt_c HV4.out hbw2⟩
    · exact ⟨rfl, rfl, pt_d (t := bed0) (q := q) HV4.out hbw2⟩
  case rest =>
    obtain ⟨rfl, rfl, HV5⟩ := hcut
    go_wp2
    go_ret
    exact ⟨rfl, HV5.out.a.lo⟩
set_option maxHeartbeats 16000000 in
theorem parts_two (s : BedS) (p : BedP) (hwf : s.wf) (l : List Ins) (hwl : ∀ i ∈ l, i.wf) (A : Option Addr) (c : Nat) (hlc : l.length ≤ c) (n : Nat) (hg : greatB s = false) (he : bedE s = 0) (hl : l.length ≤ 300) (hnl : n ≤ l.length) (hf : (runS s (l.take n)).2.2 = 0) (w : World) (hs : BedAt w w.heap.size p s) (hx : SlX w w.heap.size A l) :
    Calls Try.prog 10 #[s.val p, .slice A l.length c, .int .i64 (n : Int)] w fun e w' => e = .returned (.bool true) ∧ Below w.heap.size w w' := by
  have HG := Lib.hid (fun w => rgreat_bed s p w)
  have HA := Lib.hid (fun w => alive_any w)
  have HV0 := Lib.hid (Pt.new hs hx)
  have al : ∀ (W : World) (o : Obj), Below W.heap.size W (W.alloc o) := fun W o => (Below.refl _ W).alloc (Nat.le_refl _) o
  have HAl := Lib.hid al
  clear al
  have hgs := Good.of he hwf
  have hn := great_len hg
  have hm := great_small hg he
  have hlt : (l.take n).length = n := by rw [List.length_take]; omega
  have hld : (l.drop n).length = l.length - n := List.length_drop ..
  have HC : Hid (∀ W, VlS w s p W → Calls Try.prog 23 #[s.val p] W fun e w' => e = .returned (.int .i64 0) ∧ Below W.heap.size W w') := fun W hv => by
    have := rbcheck_any s p hwf ⟨by omega, by omega, by omega⟩ W hv.st.state
    unfold RetB8 at this
    rwa [he] at this
  have HR0 : Hid (∀ {bs W}, Pt w s p A l bs W → Calls Try.prog 26 #[s.val p, .slice A l.length c] W fun e w' => ∃ q, e = .returned (.tuple #[(runS s l).1.val q, .int .i64 (runS s l).2.1, .int .i64 (runS s l).2.2]) ∧ BedFr W.heap.size w' q (runS s l).1 ∧ Below W.heap.size W w') := fun {bs W} hv =>
    brun_any s p hwf hn l (by omega) (fun _ _ => by omega) hwl A c W hv.a.st.state hv.sl
  have HR1 : Hid (∀ {bs W}, Pt w s p A l bs W → Calls Try.prog 26 #[s.val p, .slice A n c] W fun e w' => ∃ q, e = .returned (.tuple #[(runS s (l.take n)).1.val q, .int .i64 (runS s (l.take n)).2.1, .int .i64 (runS s (l.take n)).2.2]) ∧ BedFr W.heap.size w' q (runS s (l.take n)).1 ∧ Below W.heap.size W w') := fun {bs W} hv => by
    have h := brun_any s p hwf hn (l.take n) (by omega) (fun _ _ => by omega) (fun i hi => hwl i (List.mem_of_mem_take hi)) A c W hv.a.st.state (hv.sl.take n)
    rw [hlt] at h
    exact h
  have hsl := run_take A l.length c n (by omega)
  have k1 : decide (300 < l.length) = false := decide_eq_false (by omega)
  have k1' : decide (300 < (l.length : Int)) = false := decide_eq_false (by omega)
  have k2 : decide ((n : Int) < 0) = false := decide_eq_false (by omega)
  have k3 : decide (l.length < n) = false := decide_eq_false (by omega)
  have k3' : decide ((l.length : Int) < (n : Int)) = false := decide_eq_false (by omega)
  rw [hg] at HG
  obtain ⟨pg, pm, pn, pr⟩ := parts_ok hgs hm hwl hl hnl hf
  have hdo := fun i (hi : l[n]? = some i) => parts_do pg hl hi
  rw [hf, pn] at HR1
  generalize (runS s (l.take n)).1 = t at HR1 pg pm pr hdo
  obtain ⟨A2, hrd, hsl2⟩ := drop_ex hx hlc hnl
  have HSl2 : Hid (∀ {bs W}, Pt w s p A l bs W → SlX W W.heap.size A2 (l.drop n)) := fun {bs W} hv => (hsl2.below hv.a.lo).more hv.a.lo.size
  have HR2 : Hid (∀ {b q bs W}, Pt w s p A l ((b, t, q) :: bs) W → Calls Try.prog 26 #[t.val q, .slice A2 (l.length - n) (c - n)] W fun e w' => ∃ q, e = .returned (.tuple #[(runS t (l.drop n)).1.val q, .int .i64 (runS t (l.drop n)).2.1, .int .i64 (runS t (l.drop n)).2.2]) ∧ BedFr W.heap.size w' q (runS t (l.drop n)).1 ∧ Below W.heap.size W w') := fun {b q bs W} hv => by
    have h := brun_any t q pg.wf pg.sizes (l.drop n) (by omega) (fun _ _ => by omega) (fun i hi => hwl i (List.mem_of_mem_drop hi)) A2 (c - n) W hv.head.state (HSl2.out hv)
    rw [hld] at h
    exact h
  have HCt : Hid (∀ {b q bs W}, Pt w s p A l ((b, t, q) :: bs) W → Calls Try.prog 23 #[t.val q] W fun e w' => e = .returned (.int .i64 0) ∧ Below W.heap.size W w') := fun {b q bs W} hv => by
    have hz := pg.sizes
    have := rbcheck_any t q pg.wf ⟨by omega, by omega, by omega⟩ W hv.head.state
    unfold RetB8 at this
    rwa [pg.err] at this
  have HDo : Hid (∀ {b q bs W x}, l[n]? = some x → Pt w s p A l ((b, t, q) :: bs) W → Calls Try.prog 18 #[t.val q, x.val] W fun e w' => ∃ q, e = .returned (.tuple #[(doS t x).1.val q, .int .i64 (doS t x).2]) ∧ BedFr W.heap.size w' q (doS t x).1 ∧ Below W.heap.size W w') := fun {b q bs W x} hx hv =>
    bdo_any t q pg.wf pg.sizes (fun _ => by omega) x (hwl x (List.mem_of_getElem? hx)) W hv.head.state
  have hk0 : 0 ≤ (runS t (l.drop n)).2.1 ∧ (runS t (l.drop n)).2.1 ≤ 300 := by
    rw [runS_ok pg.err (by omega)]
    have h := runI_n (l.drop n) t 0
    rw [hld] at h
    by_cases hz : (runI t 0 (l.drop n)).2.2 = 0
    · have := h.1 hz; omega
    · have := h.2 hz; omega
  have hst : (runS t (l.drop n)).2.2 = 0 → (∀ h ∈ (runS t (l.drop n)).1.hooks, h.loops.length ≤ 6) ∧ (∀ m ∈ (runS t (l.drop n)).1.made, m.parents.length ≤ 6) ∧ (runS t (l.drop n)).1.hooks.length ≤ 9000 ∧ (runS t (l.drop n)).1.feeds.length ≤ 9000 ∧ (runS t (l.drop n)).1.made.length ≤ 9000 := fun hz => by
    rw [runS_ok pg.err (by omega)] at hz ⊢
    obtain ⟨g, -⟩ := runI_good (l.drop n) t 0 pg (fun i hi => hwl i (List.mem_of_mem_drop hi)) hz
    exact ⟨fun h hh => (g.hooks h hh).2.2.2, g.parents, g.sizes⟩
  rw [pr] at HR0
  generalize (runS t (l.drop n)).1 = u at HR0 HR2 hst
  generalize (runS t (l.drop n)).2.1 = k at HR0 HR2 hk0 hdo
  generalize (runS t (l.drop n)).2.2 = g at HR0 HR2 hst hdo
  have HSt := Lib.hid hst
  have HDz := Lib.hid hdo
  have HNl := Lib.hid (show n ≤ l.length ∧ l.length ≤ 300 from ⟨hnl, hl⟩)
  have HSm : Hid (g = 0 → ∀ q q' W, BedAt W W.heap.size q u → BedAt W W.heap.size q' u → Calls Try.prog 24 #[u.val q, u.val q'] W fun e w' => e = .returned (.bool true) ∧ Below W.heap.size W w') := fun hz q q' W h1 h2 => by
    obtain ⟨s1, s2, s3⟩ := HSt.out hz
    exact rsame_any u q q' s3 ⟨s1, s2⟩ W h1 h2
  obtain ⟨hk1, hk2⟩ := hk0
  unfold BedS.val at HG HC HR0 HR1 HR2 HCt HDo HSm ⊢
  clear hs hx hg he hn hm hlt hld hgs pg pm pn pr hf hwl hlc hwf hst hdo hsl2
  go_enter Try.func10, Try.ntmps10
  go_wp2_with fail
  refine (HA.out _).mono ?_
  rintro e w1 ⟨rfl, hb1⟩
  have HV1 := Lib.hid (HV0.out.to hb1)
  obtain ⟨c0, c1, c2, c3⟩ := HV1.out.a.st.cells
  clear hb1
  go_wp2_with fail
  refine (HG.out _).mono ?_
  rintro e w2 ⟨rfl, hb2⟩
  have HV2 := Lib.hid (HV1.out.to hb2)
  clear hb2 c0 c1 c2 c3
  obtain ⟨c0, c1, c2, c3⟩ := HV2.out.a.st.cells
  go_wp2_with fail
  refine (HC.out _ HV2.out.a).mono ?_
  rintro e w3 ⟨rfl, hb3⟩
  have HV3 := Lib.hid (HV2.out.to hb3)
  clear hb3 c0 c1 c2 c3
  obtain ⟨c0, c1, c2, c3⟩ := HV3.out.a.st.cells
  go_wp2_with fail
  refine (HR0.out HV3.out).mono ?_
  rintro e w4 ⟨q0, rfl, hf4, hb4⟩
  have HV4' := Lib.hid ((HV3.out.to hb4).newBox hf4.at_)
  clear hb4 hf4 c0 c1 c2 c3
  go_upto_region 5 with fail
  refine abs_world (Q := fun W => Code.wp _ _ _ _ W) (F := Pt w s p A l [(w4.heap.size, u, q0)]) _ HV4'.out ?_
  clear HV4'
  intro W hW
  have HV4 := Lib.hid hW
  clear hW
  have hb0 : Below W.heap.size W W.drew := (Below.refl _ _).drew
  have HSb : Hid (∀ W', Below W.heap.size W W' → W'.cell? ⟨w.heap.size, 0, none⟩ = some (.int .i64 s.rack) ∧ W'.cell? ⟨w.heap.size, 1, none⟩ = some (.slice p.ah s.hooks.length p.ch) ∧ W'.cell? ⟨w.heap.size, 2, none⟩ = some (.slice p.af s.feeds.length p.cf) ∧ W'.cell? ⟨w.heap.size, 3, none⟩ = some (.slice p.am s.made.length p.cm) ∧ Below W.heap.size W W') := fun W' hb => by
    have h := (HV4.out.to hb).a.st.cells
    exact ⟨h.1, h.2.1, h.2.2.1, h.2.2.2, hb⟩
  have HBa : Hid (∀ X o, Below W.heap.size W X → Below W.heap.size W (X.alloc o)) := fun X o h => h.alloc h.size o
  have HBs : Hid (∀ (X : World) (b : Nat) (x0 x1 x2 x3 : Value), W.heap.size ≤ b → Below W.heap.size W X → Below W.heap.size W ((((X.setCell ⟨b, 0, none⟩ x0).setCell ⟨b, 1, none⟩ x1).setCell ⟨b, 2, none⟩ x2).setCell ⟨b, 3, none⟩ x3)) := fun X b x0 x1 x2 x3 hz h => (((h.setCell (p := ⟨b, 0, none⟩) hz _).setCell (p := ⟨b, 1, none⟩) hz _).setCell (p := ⟨b, 2, none⟩) hz _).setCell (p := ⟨b, 3, none⟩) hz _
  have HBd : Hid (∀ o, Below W.heap.size W (W.alloc o).drew) := fun o => ((Below.refl _ W).alloc (Nat.le_refl _) o).drew
  go_cut [11, 12, 13] (fun s11 s12 s13 wr => ∃ (b11 : Nat) (q1 : BedP), s11 = .pointer (some ⟨b11, 0, none⟩) ∧ s12 = .int .i64 (n : Int) ∧ s13 = .int .i64 0 ∧ Hid (Pt w s p A l [(b11, t, q1), (w4.heap.size, u, q0)] wr))
  case first =>
    go_region_held3 (fun W' => W'.cell? ⟨w.heap.size, 0, none⟩ = some (.int .i64 s.rack) ∧ W'.cell? ⟨w.heap.size, 1, none⟩ = some (.slice p.ah s.hooks.length p.ch) ∧ W'.cell? ⟨w.heap.size, 2, none⟩ = some (.slice p.af s.feeds.length p.cf) ∧ W'.cell? ⟨w.heap.size, 3, none⟩ = some (.slice p.am s.made.length p.cm) ∧ Below W.heap.size W W')
      (first | (with_reducible exact HSb.out _ (by assumption)) | (with_reducible exact HSb.out _ (HBa.out _ _ (by assumption))) | (with_reducible exact HSb.out _ (HBd.out _)) | (with_reducible exact HSb.out _ (HBs.out _ _ _ _ _ _ (by omega) (by assumption))) | fail)
      (first | (go_at_call 26; have hp := limb4 (by assumption); refine (HR1.out (HV4.out.to hp)).mono ?_; rintro e wd ⟨q, rfl, hsd, hbd⟩; have hbw2 := hp.trans (hbd.mono hp.size); clear hp; obtain ⟨hdc, hdf⟩ := bcell2 hbd; have hd1 := hbd.size; (try simp at hd1)))
    all_goals
      go_wp2_with fail
      go_meet
    · exact ⟨_, q, rfl, rfl, rfl, pt_a HV4.out hbw2 hsd⟩
    · exact ⟨_, q, rfl, rfl, rfl, pt_b HV4.out hbd hsd⟩
  case rest =>
    obtain ⟨b11, q1, rfl, rfl, rfl, HV5⟩ := hcut
    clear HSb HBa HBs HBd HV4 hb0
    obtain ⟨c0, c1, c2, c3⟩ := HV5.out.head.cells
    go_wp2_with fail
    refine (HCt.out HV5.out).mono ?_
    rintro e w6 ⟨rfl, hb6⟩
    have HV6' := Lib.hid (HV5.out.to hb6)
    clear hb6 c0 c1 c2 c3 HV5
    go_upto_region 10 with fail
    refine abs_world (Q := fun W => Code.wp _ _ _ _ W) (F := Pt w s p A l [(b11, t, q1), (w4.heap.size, u, q0)]) _ HV6'.out ?_
    clear HV6'
    intro W2 hW
    have HV6 := Lib.hid hW
    clear hW
    have hb0 : Below W2.heap.size W2 W2.drew := (Below.refl _ _).drew
    have HSb : Hid (∀ W', Below W2.heap.size W2 W' → W'.cell? ⟨b11, 0, none⟩ = some (.int .i64 t.rack) ∧ W'.cell? ⟨b11, 1, none⟩ = some (.slice q1.ah t.hooks.length q1.ch) ∧ W'.cell? ⟨b11, 2, none⟩ = some (.slice q1.af t.feeds.length q1.cf) ∧ W'.cell? ⟨b11, 3, none⟩ = some (.slice q1.am t.made.length q1.cm) ∧ Below W2.heap.size W2 W') := fun W' hb => by
      have h := (HV6.out.to hb).head.cells
      exact ⟨h.1, h.2.1, h.2.2.1, h.2.2.2, hb⟩
    have HBa : Hid (∀ X o, Below W2.heap.size W2 X → Below W2.heap.size W2 (X.alloc o)) := fun X o h => h.alloc h.size o
    have HBs : Hid (∀ (X : World) (b : Nat) (x0 x1 x2 x3 : Value), W2.heap.size ≤ b → Below W2.heap.size W2 X → Below W2.heap.size W2 ((((X.setCell ⟨b, 0, none⟩ x0).setCell ⟨b, 1, none⟩ x1).setCell ⟨b, 2, none⟩ x2).setCell ⟨b, 3, none⟩ x3)) := fun X b x0 x1 x2 x3 hz h => (((h.setCell (p := ⟨b, 0, none⟩) hz _).setCell (p := ⟨b, 1, none⟩) hz _).setCell (p := ⟨b, 2, none⟩) hz _).setCell (p := ⟨b, 3, none⟩) hz _
    have HBd : Hid (∀ o, Below W2.heap.size W2 (W2.alloc o).drew) := fun o => ((Below.refl _ W2).alloc (Nat.le_refl _) o).drew
    go_cut [14, 15, 16] (fun s14 s15 s16 wr => ∃ (b14 : Nat) (q2 : BedP), s14 = .pointer (some ⟨b14, 0, none⟩) ∧ s15 = .int .i64 k ∧ s16 = .int .i64 g ∧ Hid (Pt w s p A l ((b14, u, q2) :: [(b11, t, q1), (w4.heap.size, u, q0)]) wr))
    case first =>
      go_region_held3 (fun W' => W'.cell? ⟨b11, 0, none⟩ = some (.int .i64 t.rack) ∧ W'.cell? ⟨b11, 1, none⟩ = some (.slice q1.ah t.hooks.length q1.ch) ∧ W'.cell? ⟨b11, 2, none⟩ = some (.slice q1.af t.feeds.length q1.cf) ∧ W'.cell? ⟨b11, 3, none⟩ = some (.slice q1.am t.made.length q1.cm) ∧ Below W2.heap.size W2 W')
        (first | (with_reducible exact HSb.out _ (by assumption)) | (with_reducible exact HSb.out _ (HBa.out _ _ (by assumption))) | (with_reducible exact HSb.out _ (HBd.out _)) | (with_reducible exact HSb.out _ (HBs.out _ _ _ _ _ _ (by omega) (by assumption))) | fail)
        (first | (go_at_call 26; have hp := limb4 (by assumption); refine (HR2.out (HV6.out.to hp)).mono ?_; rintro e wd ⟨q, rfl, hsd, hbd⟩; have hbw2 := hp.trans (hbd.mono hp.size); clear hp; obtain ⟨hdc, hdf⟩ := bcell2 hbd; have hd1 := hbd.size; (try simp at hd1)))
      all_goals
        go_wp2_with fail
        go_meet
      · exact ⟨_, q, rfl, rfl, rfl, pt_a HV6.out hbw2 hsd⟩
      · exact ⟨_, q, rfl, rfl, rfl, pt_b HV6.out hbd hsd⟩
    case rest =>
      obtain ⟨b14, q2, rfl, rfl, rfl, HV7⟩ := hcut
      clear HSb HBa HBs HBd HV6 hb0
      go_upto_region 11 with fail
      go_cut [121] (fun s121 wr => s121 = .bool false ∧ Hid (Pt w s p A l ((b14, u, q2) :: [(b11, t, q1), (w4.heap.size, u, q0)]) wr))
      case first =>
        by_cases hg0 : g = 0
        · have HS0 := Lib.hid (HSm.out hg0)
          subst hg0
          obtain ⟨c0, c1, c2, c3⟩ := HV7.out.third.cells
          obtain ⟨d0, d1, d2, d3⟩ := HV7.out.head.cells
          go_wp2_with fail
          refine (HS0.out _ _ _ HV7.out.third.state HV7.out.head.state).mono ?_
          rintro e w8 ⟨rfl, hb8⟩
          have HV8 := Lib.hid (HV7.out.to hb8)
          clear hb8 c0 c1 c2 c3 d0 d1 d2 d3
          go_wp2_with fail
          go_meet
          exact ⟨rfl, HV8.out⟩
        · have g1 : (g == 0) = false := by simp [hg0]
          have g2 : (g != 0) = true := by simp [hg0]
          have g3 : (g != g) = false := by simp
          clear hg0
          go_wp2_with fail
          go_meet
          exact ⟨rfl, HV7.out⟩
      case rest =>
        obtain ⟨rfl, HV8⟩ := hcut
        clear HV7 HSm HSt
        by_cases hlt : n < l.length
        case neg =>
          have l1 : decide (n < l.length) = false := decide_eq_false hlt
          have l2 : decide ((n : Int) < (l.length : Int)) = false := decide_eq_false (by omega)
          clear hlt
          go_wp2
          go_ret
          exact ⟨rfl, HV8.out.a.lo⟩
        case pos =>
          have l1 : decide (n < l.length) = true := decide_eq_true hlt
          have l2 : decide ((n : Int) < (l.length : Int)) = true := decide_eq_true (by omega)
          go_upto_region 14 with fail
          obtain ⟨W3, hW3⟩ : ∃ W3, W3 = wc := ⟨_, rfl⟩
          have HV9 : Hid (Pt w s p A l [(b11, t, q1), (w4.heap.size, u, q0)] W3) := by
            show Pt _ _ _ _ _ _ _
            rw [hW3]
            exact ⟨HV8.out.a, HV8.out.sl, fun x hx => HV8.out.bx x (List.mem_cons_of_mem _ hx)⟩
          rw [← hW3]
          clear hW3 HV8
          obtain ⟨lb, lo, x, hA, hlb, hxn, hci⟩ := HV9.out.sl.at_ hlt
          have hb9 : Below W3.heap.size W3 W3 := Below.refl _ _
          have HCi : Hid (∀ W', Below W3.heap.size W3 W' → InsAt W' lb (lo + n * 7) x) := fun W' hb => hci.below hb hlb
          have HXn := Lib.hid hxn
          have HD2 := Lib.hid (HDz.out x hxn)
          have hlti : (n : Int) < (l.length : Int) := by omega
          subst hA
          unfold Ins.val at HDo
          clear hci hlb hxn HDz
          have hb0 : Below W3.heap.size W3 W3.drew := (Below.refl _ _).drew
          have HSb : Hid (∀ W', Below W3.heap.size W3 W' → W'.cell? ⟨b11, 0, none⟩ = some (.int .i64 t.rack) ∧ W'.cell? ⟨b11, 1, none⟩ = some (.slice q1.ah t.hooks.length q1.ch) ∧ W'.cell? ⟨b11, 2, none⟩ = some (.slice q1.af t.feeds.length q1.cf) ∧ W'.cell? ⟨b11, 3, none⟩ = some (.slice q1.am t.made.length q1.cm) ∧ W'.cell? ⟨lb, lo + n * 7, none⟩ = some (.int .u8 x.op) ∧ W'.cell? ⟨lb, lo + n * 7 + 1, none⟩ = some (.bool x.right) ∧ W'.cell? ⟨lb, lo + n * 7 + 2, none⟩ = some (.int .u8 x.bed) ∧ W'.cell? ⟨lb, lo + n * 7 + 3, none⟩ = some (.int .i64 x.at_) ∧ W'.cell? ⟨lb, lo + n * 7 + 4, none⟩ = some (.int .i64 x.to_) ∧ W'.cell? ⟨lb, lo + n * 7 + 5, none⟩ = some (.int .i64 x.car) ∧ W'.cell? ⟨lb, lo + n * 7 + 6, none⟩ = some (.int .i64 x.rack) ∧ Below W3.heap.size W3 W') := fun W' hb => by
            have h := (HV9.out.to hb).head.cells
            have hi := HCi.out W' (hb9.trans hb)
            exact ⟨h.1, h.2.1, h.2.2.1, h.2.2.2, hi.1, hi.2.1, hi.2.2.1, hi.2.2.2.1, hi.2.2.2.2.1, hi.2.2.2.2.2.1, hi.2.2.2.2.2.2, hb⟩
          have HBa : Hid (∀ X o, Below W3.heap.size W3 X → Below W3.heap.size W3 (X.alloc o)) := fun X o h => h.alloc h.size o
          have HBs : Hid (∀ (X : World) (b : Nat) (x0 x1 x2 x3 : Value), W3.heap.size ≤ b → Below W3.heap.size W3 X → Below W3.heap.size W3 ((((X.setCell ⟨b, 0, none⟩ x0).setCell ⟨b, 1, none⟩ x1).setCell ⟨b, 2, none⟩ x2).setCell ⟨b, 3, none⟩ x3)) := fun X b x0 x1 x2 x3 hz h => (((h.setCell (p := ⟨b, 0, none⟩) hz _).setCell (p := ⟨b, 1, none⟩) hz _).setCell (p := ⟨b, 2, none⟩) hz _).setCell (p := ⟨b, 3, none⟩) hz _
          have HBd : Hid (∀ o, Below W3.heap.size W3 (W3.alloc o).drew) := fun o => ((Below.refl _ W3).alloc (Nat.le_refl _) o).drew
          go_cut [18] (fun s18 wr => s18 = .int .i64 (doS t x).2 ∧ Hid (Pt w s p (some ⟨lb, lo, none⟩) l [(b11, t, q1), (w4.heap.size, u, q0)] wr))
          case first =>
            go_region_held3 (fun W' => W'.cell? ⟨b11, 0, none⟩ = some (.int .i64 t.rack) ∧ W'.cell? ⟨b11, 1, none⟩ = some (.slice q1.ah t.hooks.length q1.ch) ∧ W'.cell? ⟨b11, 2, none⟩ = some (.slice q1.af t.feeds.length q1.cf) ∧ W'.cell? ⟨b11, 3, none⟩ = some (.slice q1.am t.made.length q1.cm) ∧ W'.cell? ⟨lb, lo + n * 7, none⟩ = some (.int .u8 x.op) ∧ W'.cell? ⟨lb, lo + n * 7 + 1, none⟩ = some (.bool x.right) ∧ W'.cell? ⟨lb, lo + n * 7 + 2, none⟩ = some (.int .u8 x.bed) ∧ W'.cell? ⟨lb, lo + n * 7 + 3, none⟩ = some (.int .i64 x.at_) ∧ W'.cell? ⟨lb, lo + n * 7 + 4, none⟩ = some (.int .i64 x.to_) ∧ W'.cell? ⟨lb, lo + n * 7 + 5, none⟩ = some (.int .i64 x.car) ∧ W'.cell? ⟨lb, lo + n * 7 + 6, none⟩ = some (.int .i64 x.rack) ∧ Below W3.heap.size W3 W')
              (first | (with_reducible exact HSb.out _ (by assumption)) | (with_reducible exact HSb.out _ (HBa.out _ _ (by assumption))) | (with_reducible exact HSb.out _ (HBd.out _)) | (with_reducible exact HSb.out _ (HBs.out _ _ _ _ _ _ (by omega) (by assumption))) | fail)
              (first | (go_at_call 18; have hp := limb11 (by assumption); refine (HDo.out HXn.out (HV9.out.to hp)).mono ?_; rintro e wd ⟨q, rfl, hsd, hbd⟩; have hbw2 := hp.trans (hbd.mono hp.size); clear hp; obtain ⟨hdc, hdf⟩ := bcell2 hbd; have hd1 := hbd.size; (try simp at hd1)))
            all_goals
              go_wp2_with fail
              go_meet
            · exact ⟨rfl, pt_c HV9.out hbw2⟩
            · exact ⟨rfl, pt_d (t := (doS t x).1) (q := q) HV9.out hbw2⟩
          case rest =>
            obtain ⟨rfl, HV10⟩ := hcut
            clear HSb HBa HBs HBd HV9 hb0 HDo HCi
            by_cases hz : (doS t x).2 = 0
            · have z1 : ((doS t x).2 == 0) = true := by simp [hz]
              generalize (doS t x).2 = h at z1 ⊢
              clear hz HD2
              go_wp2
              go_ret
              exact ⟨rfl, HV10.out.a.lo⟩
            · obtain ⟨e1, e2⟩ := HD2.out hz
              rw [← e2] at hz ⊢
              have z1 : (g == 0) = false := by simp [hz]
              have z2 : (g == g) = true := by simp
              subst e1
              clear hz HD2 e2
              go_wp2
              go_ret
              exact ⟨rfl, HV10.out.a.lo⟩
theorem parts_walk (s : BedS) (p : BedP) (hwf : s.wf) (l : List Ins) (hwl : ∀ i ∈ l, i.wf) (A : Option Addr) (c : Nat) (hlc : l.length ≤ c) (hlm : l.length ≤ maxLen) (x : Int) (w : World) (hs : BedAt w w.heap.size p s) (hx : SlX w w.heap.size A l) :
    Calls Try.prog 10 #[s.val p, .slice A l.length c, .int .i64 x] w fun e w' => e = .returned (.bool true) ∧ Below w.heap.size w w' := by
  by_cases ho : greatB s = true ∨ bedE s ≠ 0 ∨ 300 < l.length ∨ x < 0 ∨ (l.length : Int) < x
  · exact parts_out s p hwf l A c x (by unfold maxLen at hlm; omega) ho w hs hx
  · have hg : greatB s = false := by
      cases h : greatB s with
      | false => rfl
      | true => exact absurd (Or.inl h) ho
    have he : bedE s = 0 := by
      by_cases h : bedE s = 0
      · exact h
      · exact absurd (Or.inr (Or.inl h)) ho
    obtain ⟨n, rfl⟩ : ∃ n : Nat, x = (n : Int) := ⟨x.toNat, by omega⟩
    by_cases hf : (runS s (l.take n)).2.2 = 0
    · exact parts_two s p hwf l hwl A c hlc n hg he (by omega) (by omega) hf w hs hx
    · exact parts_one s p hwf l hwl A c hlc n hg he (by omega) (by omega) hf w hs hx
end Go.Proofs.Ytjoglkamhjcmhaa
