/- LadderAsks, walked. -/
import Derived.Test.YtbibndpkcilblaaGreatKRe8
import Derived.Test.YtbibndpkcilblaaGreatKRs8
namespace Go.Proofs.YtbibndpkcilblaaGreat
open Go.RowKit Go.Shelf Go.Sort
set_option maxRecDepth 100000

/-- The chart and the lists that are at hand. -/
structure AkS (start : Int) (A : Option Addr) (c : Nat) (p : List RowC) (cb : Nat) (w : World) (ls : List (Option Addr × List Int)) (W : World) : Prop where
  ff : RfF start A c p cb w W
  ls : ∀ x ∈ ls, SlI W W.heap.size x.1 x.2
theorem AkS.to {start : Int} {A : Option Addr} {c : Nat} {p : List RowC} {cb : Nat} {w : World} {ls : List (Option Addr × List Int)} {W W' : World} (h : AkS start A c p cb w ls W) (hb : Below W.heap.size W W') : AkS start A c p cb w ls W' :=
  ⟨h.ff.to hb, fun x hx => ((h.ls x hx).below hb).more hb.size⟩
theorem AkS.add {start : Int} {A : Option Addr} {c : Nat} {p : List RowC} {cb : Nat} {w : World} {ls : List (Option Addr × List Int)} {W : World} (h : AkS start A c p cb w ls W) {a : Option Addr} {l : List Int} (hs : SlI W W.heap.size a l) : AkS start A c p cb w (ls ++ [(a, l)]) W :=
  ⟨h.ff, fun x hx => by
    rcases List.mem_append.1 hx with h1 | h1
    · exact h.ls x h1
    · rw [List.mem_singleton.1 h1]; exact hs⟩
theorem asks_len {start : Int} {p : List RowC} (h12 : chartE start p = 0 → p.length ≤ 12) (i rows : Int) : (hangS start p i).2.length ≤ 2600 ∧ (endS start p i).2.length ≤ 2600 ∧ (safeS start p rows).2.length ≤ 2600 := by
  unfold hangS endS safeS
  by_cases he : chartE start p = 0
  · have h := (chart_grd he (h12 he)).ll
    have hc : ¬ chartE start p ≠ 0 := by rw [he]; decide
    simp only [if_neg hc]
    refine ⟨?_, ?_, Nat.le_trans (listN_len _ _) h⟩
    · split
      · simp
      · exact Nat.le_trans (listN_len _ _) h
    · split
      · simp
      · exact Nat.le_trans (listN_len _ _) h
  · rw [if_pos he, if_pos he, if_pos he]
    simp
set_option maxHeartbeats 16000000 in
theorem asks_walk (start : Int) (A : Option Addr) (c : Nat) (p : List RowC) (hw : RowsWf p) (i rows : Int) (w : World) (hs : SlC w w.heap.size A p) :
    Calls Tryz.prog 3 #[.agg #[.int .i64 start, .slice A p.length c], .int .i64 i, .int .i64 rows] w fun e w' => e = .returned (.bool true) ∧ Below w.heap.size w w' := by
  have hF := rf_front start A c p w hs
  have c0 := hF.cb0
  have c1 := hF.cb1
  have HF := Lib.hid hF
  have HGr := Lib.hid (lgreat_any start A c p none 0 0 _ hF.sl)
  obtain ⟨z, hz⟩ : ∃ z, z = grtB p 0 := ⟨_, rfl⟩
  rw [← hz] at HGr
  have HZ := Lib.hid hz
  have HW := Lib.hid hw
  clear hF hs hz hw
  cases z with
  | true =>
    go_enter Tryz.func3, Tryz.ntmps3
    go_wp2_with (go_at_call 4; refine HGr.out.mono ?_; rintro e w2 ⟨rfl, hb2⟩)
    go_ret
    exact ⟨rfl, (HF.out.to hb2).bel⟩
  | false =>
    have hg := great_rows (start := start) (grt_no HZ.out.symm).1
    have H1 : Hid (∀ W, RfF start A c p w.heap.size w W → Calls Tryz.prog 5 #[.agg #[.int .i64 start, .slice A p.length c], .int .i64 i] W fun e w' => BoPost (hangS start p i).1 (hangS start p i).2 W e w') := fun W h => Hangs_x start A c p HW.out hg i W h.sl
    have H2 : Hid (∀ W, RfF start A c p w.heap.size w W → Calls Tryz.prog 6 #[.agg #[.int .i64 start, .slice A p.length c], .int .i64 i] W fun e w' => BoPost (hangS start p i).1 (hangS start p i).2 W e w') := fun W h => Rhangs_x start A c p hg i W h.sl
    have H3 : Hid (∀ W, RfF start A c p w.heap.size w W → Calls Tryz.prog 7 #[.agg #[.int .i64 start, .slice A p.length c], .int .i64 i] W fun e w' => BoPost (endS start p i).1 (endS start p i).2 W e w') := fun W h => Ends_x start A c p HW.out hg i W h.sl
    have H4 : Hid (∀ W, RfF start A c p w.heap.size w W → Calls Tryz.prog 8 #[.agg #[.int .i64 start, .slice A p.length c], .int .i64 i] W fun e w' => BoPost (endS start p i).1 (endS start p i).2 W e w') := fun W h => Rends_x start A c p hg i W h.sl
    have H5 : Hid (∀ W, RfF start A c p w.heap.size w W → Calls Tryz.prog 9 #[.agg #[.int .i64 start, .slice A p.length c], .int .i64 i] W fun e w' => DpPost (depS start p i).1 (depS start p i).2 W e w') := fun W h => Depth_x start A c p HW.out hg i W h.sl
    have H6 : Hid (∀ W, RfF start A c p w.heap.size w W → Calls Tryz.prog 10 #[.agg #[.int .i64 start, .slice A p.length c], .int .i64 i] W fun e w' => DpPost (depS start p i).1 (depS start p i).2 W e w') := fun W h => Rdepth_x start A c p hg i W h.sl
    have H7 : Hid (∀ W, RfF start A c p w.heap.size w W → Calls Tryz.prog 11 #[.agg #[.int .i64 start, .slice A p.length c], .int .i64 rows] W fun e w' => BoPost (safeS start p rows).1 (safeS start p rows).2 W e w') := fun W h => Safe_x start A c p HW.out hg rows W h.sl
    have H8 : Hid (∀ W, RfF start A c p w.heap.size w W → Calls Tryz.prog 12 #[.agg #[.int .i64 start, .slice A p.length c], .int .i64 rows] W fun e w' => BoPost (safeS start p rows).1 (safeS start p rows).2 W e w') := fun W h => Rsafe_x start A c p hg rows W h.sl
    obtain ⟨hn1, hn2, hn3⟩ := asks_len hg i rows
    obtain ⟨x1, hx1⟩ : ∃ x, x = (hangS start p i).1 := ⟨_, rfl⟩
    obtain ⟨l1, hl1⟩ : ∃ l, l = (hangS start p i).2 := ⟨_, rfl⟩
    obtain ⟨x2, hx2⟩ : ∃ x, x = (endS start p i).1 := ⟨_, rfl⟩
    obtain ⟨l2, hl2⟩ : ∃ l, l = (endS start p i).2 := ⟨_, rfl⟩
    obtain ⟨x3, hx3⟩ : ∃ x, x = (safeS start p rows).1 := ⟨_, rfl⟩
    obtain ⟨l3, hl3⟩ : ∃ l, l = (safeS start p rows).2 := ⟨_, rfl⟩
    obtain ⟨x4, hx4⟩ : ∃ x, x = (depS start p i).1 := ⟨_, rfl⟩
    obtain ⟨d4, hd4⟩ : ∃ x, x = (depS start p i).2 := ⟨_, rfl⟩
    rw [← hl1] at hn1
    rw [← hl2] at hn2
    rw [← hl3] at hn3
    simp only [← hx1, ← hl1] at H1 H2
    simp only [← hx2, ← hl2] at H3 H4
    simp only [← hx4, ← hd4] at H5 H6
    simp only [← hx3, ← hl3] at H7 H8
    have e1 : (x1 == x1) = true := beq_self_eq_true x1
    have e2 : (x2 == x2) = true := beq_self_eq_true x2
    have e3 : (x3 == x3) = true := beq_self_eq_true x3
    have e4 : (x4 == x4) = true := beq_self_eq_true x4
    have e5 : (d4 == d4) = true := beq_self_eq_true d4
    obtain ⟨n1, hm1⟩ : ∃ n, n = l1.length := ⟨_, rfl⟩
    obtain ⟨n2, hm2⟩ : ∃ n, n = l2.length := ⟨_, rfl⟩
    obtain ⟨n3, hm3⟩ : ∃ n, n = l3.length := ⟨_, rfl⟩
    have HN1 := Lib.hid hm1
    have HN2 := Lib.hid hm2
    have HN3 := Lib.hid hm3
    rw [← hm1] at hn1
    rw [← hm2] at hn2
    rw [← hm3] at hn3
    clear hx1 hl1 hx2 hl2 hx3 hl3 hx4 hd4 hg HZ HW hm1 hm2 hm3
    go_enter Tryz.func3, Tryz.ntmps3
    go_upto_region 3 with (go_at_call 4; refine HGr.out.mono ?_; rintro e v0 ⟨rfl, hb2⟩)
    have HS : Hid (AkS start A c p w.heap.size w [] v0) := ⟨HF.out.to hb2, fun x hx => by cases hx⟩
    clear hb2 HF HGr c0 c1
    have c0 := HS.out.ff.cb0
    have c1 := HS.out.ff.cb1
    have HC := Lib.hid (H1.out v0 HS.out.ff)
    go_upto_region 4 with (go_at_call 5; refine HC.out.mono ?_; rintro e v1 ⟨v, rfl, ho, hb⟩; obtain ⟨a1, k1, rfl⟩ := pxJ_is ho HN1.out.symm)
    have HT := Lib.hid ((HS.out.to hb).add (pxJ_lies ho))
    clear ho hb HC HS c0 c1 H1
    have HS := HT
    clear HT
    have c0 := HS.out.ff.cb0
    have c1 := HS.out.ff.cb1
    have HC := Lib.hid (H2.out v1 HS.out.ff)
    go_upto_region 5 with (go_at_call 6; refine HC.out.mono ?_; rintro e v2 ⟨v, rfl, ho, hb⟩; obtain ⟨a2, k2, rfl⟩ := pxJ_is ho HN1.out.symm)
    have HT := Lib.hid ((HS.out.to hb).add (pxJ_lies ho))
    clear ho hb HC HS c0 c1 H2
    have HS := HT
    clear HT
    have c0 := HS.out.ff.cb0
    have c1 := HS.out.ff.cb1
    have HC := Lib.hid (H3.out v2 HS.out.ff)
    go_upto_region 6 with (go_at_call 7; refine HC.out.mono ?_; rintro e v3 ⟨v, rfl, ho, hb⟩; obtain ⟨a3, k3, rfl⟩ := pxJ_is ho HN2.out.symm)
    have HT := Lib.hid ((HS.out.to hb).add (pxJ_lies ho))
    clear ho hb HC HS c0 c1 H3
    have HS := HT
    clear HT
    have c0 := HS.out.ff.cb0
    have c1 := HS.out.ff.cb1
    have HC := Lib.hid (H4.out v3 HS.out.ff)
    go_upto_region 7 with (go_at_call 8; refine HC.out.mono ?_; rintro e v4 ⟨v, rfl, ho, hb⟩; obtain ⟨a4, k4, rfl⟩ := pxJ_is ho HN2.out.symm)
    have HT := Lib.hid ((HS.out.to hb).add (pxJ_lies ho))
    clear ho hb HC HS c0 c1 H4
    have HS := HT
    clear HT
    have c0 := HS.out.ff.cb0
    have c1 := HS.out.ff.cb1
    have HC := Lib.hid (H5.out v4 HS.out.ff)
    go_upto_region 8 with (go_at_call 9; refine HC.out.mono ?_; rintro e v5 ⟨rfl, hb⟩)
    have HT := Lib.hid (HS.out.to hb)
    clear hb HC HS c0 c1 H5
    have HS := HT
    clear HT
    have c0 := HS.out.ff.cb0
    have c1 := HS.out.ff.cb1
    have HC := Lib.hid (H6.out v5 HS.out.ff)
    go_upto_region 9 with (go_at_call 10; refine HC.out.mono ?_; rintro e v6 ⟨rfl, hb⟩)
    have HT := Lib.hid (HS.out.to hb)
    clear hb HC HS c0 c1 H6
    have HS := HT
    clear HT
    have c0 := HS.out.ff.cb0
    have c1 := HS.out.ff.cb1
    have HC := Lib.hid (H7.out v6 HS.out.ff)
    go_upto_region 10 with (go_at_call 11; refine HC.out.mono ?_; rintro e v7 ⟨v, rfl, ho, hb⟩; obtain ⟨a7, k7, rfl⟩ := pxJ_is ho HN3.out.symm)
    have HT := Lib.hid ((HS.out.to hb).add (pxJ_lies ho))
    clear ho hb HC HS c0 c1 H7
    have HS := HT
    clear HT
    have c0 := HS.out.ff.cb0
    have c1 := HS.out.ff.cb1
    have HC := Lib.hid (H8.out v7 HS.out.ff)
    go_upto_region 11 with (go_at_call 12; refine HC.out.mono ?_; rintro e v8 ⟨v, rfl, ho, hb⟩; obtain ⟨a8, k8, rfl⟩ := pxJ_is ho HN3.out.symm)
    have HT := Lib.hid ((HS.out.to hb).add (pxJ_lies ho))
    clear ho hb HC HS c0 c1 H8
    have HS := HT
    clear HT
    have HB := Lib.hid HS.out.ff.bel
    have HA1 : Hid (∀ W, Below v8.heap.size v8 W → Calls Tryz.prog 13 #[.slice a1 n1 k1, .slice a2 n1 k2] W fun e w' => BlPost true W e w') := fun W hb => same_any ((HS.out.to hb).ls (a1, l1) (by simp)) ((HS.out.to hb).ls (a2, l1) (by simp)) HN1.out (by omega)
    have HA2 : Hid (∀ W, Below v8.heap.size v8 W → Calls Tryz.prog 13 #[.slice a3 n2 k3, .slice a4 n2 k4] W fun e w' => BlPost true W e w') := fun W hb => same_any ((HS.out.to hb).ls (a3, l2) (by simp)) ((HS.out.to hb).ls (a4, l2) (by simp)) HN2.out (by omega)
    have HA3 : Hid (∀ W, Below v8.heap.size v8 W → Calls Tryz.prog 13 #[.slice a7 n3 k7, .slice a8 n3 k8] W fun e w' => BlPost true W e w') := fun W hb => same_any ((HS.out.to hb).ls (a7, l3) (by simp)) ((HS.out.to hb).ls (a8, l3) (by simp)) HN3.out (by omega)
    have HC1 := Lib.hid (HA1.out v8 (Below.refl _ _))
    clear HS HA1
    go_wp2_with fail
    refine HC1.out.mono ?_
    rintro e u1 ⟨rfl, hb1⟩
    have HC2 := Lib.hid (HA2.out u1 hb1)
    have HU1 := Lib.hid hb1
    clear hb1 HC1 HA2
    go_wp2_with fail
    refine HC2.out.mono ?_
    rintro e u2 ⟨rfl, hb2⟩
    have HU2 := Lib.hid (HU1.out.trans (hb2.mono HU1.out.size))
    have HC3 := Lib.hid (HA3.out u2 HU2.out)
    clear hb2 HC2 HA3 HU1
    go_wp2_with fail
    refine HC3.out.mono ?_
    rintro e u3 ⟨rfl, hb3⟩
    have HU3 := Lib.hid (HB.out.trans ((HU2.out.trans (hb3.mono HU2.out.size)).mono HB.out.size))
    clear hb3 HC3 HU2
    go_wp2
    go_ret
    exact ⟨rfl, HU3.out⟩
end Go.Proofs.YtbibndpkcilblaaGreat
