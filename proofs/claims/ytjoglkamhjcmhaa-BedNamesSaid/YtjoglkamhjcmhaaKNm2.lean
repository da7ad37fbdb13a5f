/- BedNames: full, walked. -/
import Derived.Test.YtjoglkamhjcmhaaKNm
namespace Go.Proofs.Ytjoglkamhjcmhaa
open Go.RowKit Go.Shelf Go.Sort
set_option maxRecDepth 100000

theorem sameL (A A' : Option Addr) (c c' n : Nat) (l : List Int) (hn : l.length = n) (w : World) (h : SlI w w.heap.size A l) (h' : SlI w w.heap.size A' l) (hl : n ≤ 100) :
    Calls Try.prog 17 #[.slice A n c, .slice A' n c'] w fun e w' => e = .returned (.bool true) ∧ ∃ m, w' = w.drewN m := by
  subst hn
  exact sameQ_any A A' c c' l w h h' (by omega)
theorem flat_snoc7 (l : List Ins) (i : Ins) : ((l ++ [i]).map Ins.cells).flatten = (l.map Ins.cells).flatten ++ i.cells := by simp
theorem fullL_succ (k : Nat) : fullL (k + 1) = fullL k ++ [tuI k] := by simp [fullL, List.range_succ]
theorem fullL_len (k : Nat) : (fullL k).length = k + 1 := by simp [fullL]
theorem lit_six (W : World) (t : TypeId) : SlI (W.alloc (.cells #[.int .i64 0, .int .i64 1, .int .i64 2, .int .i64 3, .int .i64 4, .int .i64 5] t)) (W.alloc (.cells #[.int .i64 0, .int .i64 1, .int .i64 2, .int .i64 3, .int .i64 4, .int .i64 5] t)).heap.size (some ⟨W.heap.size, 0, none⟩) [0, 1, 2, 3, 4, 5] := fun _ => by
  refine ⟨W.heap.size, 0, rfl, by simp, fun j z hz => ?_⟩
  have hj := (List.getElem?_eq_some_iff.1 hz).1
  simp only [List.length_cons, List.length_nil, Nat.zero_add, Nat.reduceAdd] at hj
  have : j = 0 ∨ j = 1 ∨ j = 2 ∨ j = 3 ∨ j = 4 ∨ j = 5 := by omega
  rcases this with rfl | rfl | rfl | rfl | rfl | rfl <;> (simp only [List.getElem?_cons_zero, List.getElem?_cons_succ, Option.some.injEq] at hz; subst hz; exact cell_new rfl rfl rfl)
theorem ng_a {w W wd : World} {bs : List (Nat × BedS × BedP)} {ls : List (Option Addr × List Int)} {lo : Nat} {t : BedS} {q : BedP} (h : Ng w bs ls W) (hb : Below W.heap.size W wd) (hf : BedFr lo wd q t) : Ng w ((wd.heap.size, t, q) :: bs) ls (wd.alloc (bedBox t q)) := ((h.to hb).box _).addB (Bx.new hf.at_)
theorem ng_b {w W wd : World} {bs : List (Nat × BedS × BedP)} {ls : List (Option Addr × List Int)} {lo bz : Nat} {t : BedS} {q : BedP} (h : Ng w bs ls W) (hb : Below W.heap.size W wd) (hf : BedFr lo wd q t) (hz : bz < lo) (hle : W.heap.size ≤ bz) (hc : BdIn wd bz bed0 bedP0) : Ng w ((bz, t, q) :: bs) ls (BdIn.set wd bz t q) :=
  (h.to (BdIn.kept hb hle _ _)).addB (Bx.set hf hz hc)
set_option maxHeartbeats 16000000 in
theorem full_any (w : World) : Calls Try.prog 31 #[] w fun e w' => e = .returned (.bool true) ∧ Below w.heap.size w w' := by
  have HK := Lib.hid (fun r n w => kn_any r n w)
  have al : ∀ (W : World) (o : Obj), Below W.heap.size W (W.alloc o) := fun W o => (Below.refl _ W).alloc (Nat.le_refl _) o
  have HAl := Lib.hid al
  clear al
  obtain ⟨i0, hi, hz0, hz1, hz2⟩ := info_parts info_ins
  go_enter Try.func31, Try.ntmps31
  go_wp2
  have HR0 : Hid ((w.alloc (.cells #[.int .u8 1, .bool false, .int .u8 0, .int .i64 0, .int .i64 0, .int .i64 1, .int .i64 0] 43)).ownsRow w.heap.size 43 7 (.slice (some ⟨w.heap.size, 0, none⟩) 1 1) 1 ((fullL 0).map Ins.cells).flatten) :=
    World.ownsRow_lit w #[.int .u8 1, .bool false, .int .u8 0, .int .i64 0, .int .i64 0, .int .i64 1, .int .i64 0] 1 (Nat.le_refl _) (by decide) rfl
  go_loopw [1, 2] (fun s1 s2 wr => ∃ (k : Nat) (v : Value), k ≤ 6 ∧ s2 = .int .i64 (k : Int) ∧ v = s1 ∧ Hid (wr.ownsRow w.heap.size 43 7 v (k + 1) ((fullL k).map Ins.cells).flatten) ∧ Hid (Below w.heap.size w wr)) (fun _ s2 _ => 6 - (intOf s2).toNat)
  case atStart => exact ⟨0, _, Nat.zero_le _, rfl, rfl, HR0.out, HAl.out w _⟩
  case round =>
    clear HR0
    obtain ⟨k, v, hk, rfl, rfl, HO, HB⟩ := hrel
    by_cases hlt : k < 6
    case pos =>
      have hlti : (k : Int) < 6 := by omega
      have hBz : w.heap.size ≤ wr.heap.size := HB.out.size
      have HBz := Lib.hid hBz
      have HS : Hid (((fullL (k + 1)).map Ins.cells).flatten = ((fullL k).map Ins.cells).flatten ++ (tuI k).cells) := by show _ = _; rw [fullL_succ, flat_snoc7]
      have HT : Hid (∀ b : Bool, decide ((k : Int) % 2 = 0) = b → (tuI k).cells = [.int .u8 4, .bool b, .int .u8 0, .int .i64 0, .int .i64 0, .int .i64 1, .int .i64 0]) := fun b hb => by subst hb; rfl
      by_cases hp : (k : Int) % 2 = 0
      all_goals
        first
        | (have p1 : ((k : Int).tmod 2 == 0) = true := by (rw [tmod2]; exact decide_eq_true hp)
           have p2 : ((k : Int) % 2 == 0) = true := by simp [hp]
           have HC := Lib.hid (HT.out true (decide_eq_true hp)))
        | (have p1 : ((k : Int).tmod 2 == 0) = false := by (rw [tmod2]; exact decide_eq_false hp)
           have p2 : ((k : Int) % 2 == 0) = false := by simp [hp]
           have HC := Lib.hid (HT.out false (decide_eq_false hp)))
        clear hp HT
        go_wp2_with (at_builtin; refine wpList_append_own _ rfl _ _ 54 rfl w.heap.size 43 i0 (.agg #[.int .u8 0, .bool false, .int .u8 0, .int .i64 0, .int .i64 0, .int .i64 0, .int .i64 0]) 7 40 Try.underlying54 hi hz0 hz1 hz2 rfl (by decide) _ _ _ rfl (HO.out.alloc _) ⟨wr.heap.size, 0, none⟩ 1 1 (tuI k).cells rfl rfl (by rw [HC.out]; exact newsT wr _ _ _ rfl) (one7 _) (by unfold maxLen; omega) (by omega) (by simp; omega) ?_; intro v' w4 hown4 hgrow4 _; have HO4 := Lib.hid hown4; have HG4 := Lib.hid hgrow4; clear hown4 hgrow4)
        go_roundw
        case rel =>
          have hB : Below w.heap.size wr w4 := ((Below.refl _ wr).alloc hBz _).grown HG4.out (by simp; omega) (fun g e => (HO.out.lt g e).1)
          refine ⟨k + 1, v', by omega, by go_num, rfl, ?_, HB.out.trans hB⟩
          show w4.ownsRow _ _ _ _ _ _
          rw [HS.out]
          exact HO4.out
        case measure => simp [intOf]; omega
    case neg =>
      obtain rfl : k = 6 := by omega
      obtain ⟨A, c, rfl, hsx⟩ := row_ins HO.out (fullL_len 6)
      have HSx := Lib.hid hsx
      clear hsx hlt HO
      go_wp2_with fail
      refine (fRun6 A c _ HSx.out).mono ?_
      rintro e w5 ⟨p, rfl, hf5, hb5⟩
      simp only [fS]
      have HN5 : Hid (Ng w [(w5.heap.size, fS, p)] [] (w5.alloc (bedBox fS p))) := ((⟨fun _ h => absurd h List.not_mem_nil, fun _ h => absurd h List.not_mem_nil, HB.out.trans (hb5.mono HB.out.size)⟩ : Ng w [] [] w5).box _).addB (Bx.new hf5.at_)
      clear hb5 hf5 HSx HB
      go_wp2_with fail
      refine (fDo7 p _ (HN5.out.bx _ List.mem_cons_self).state).mono ?_
      rintro e w6 ⟨q6, rfl, hf6, hb6⟩
      simp only [bed0]
      have HN6 := Lib.hid ((HN5.out.to hb6).box (bedBox bed0 q6))
      clear hb6 hf6 HN5
      go_upto_region 8 with fail
      refine abs_world (Q := fun W => Code.wp _ _ _ _ W) (F := Ng w [(w5.heap.size, fS, p)] []) _ HN6.out ?_
      clear HN6
      intro W hW
      have HW := Lib.hid hW
      clear hW
      have HD := Lib.hid (fun W' (hb : Below W.heap.size W W') => fDo8 p W' ((HW.out.to hb).bx _ List.mem_cons_self).state)
      have hb0 : Below W.heap.size W W.drew := (Below.refl _ _).drew
      have HSb : Hid (∀ W', Below W.heap.size W W' → W'.cell? ⟨w5.heap.size, 0, none⟩ = some (.int .i64 0) ∧ W'.cell? ⟨w5.heap.size, 1, none⟩ = some (.slice p.ah 1 p.ch) ∧ W'.cell? ⟨w5.heap.size, 2, none⟩ = some (.slice p.af 1 p.cf) ∧ W'.cell? ⟨w5.heap.size, 3, none⟩ = some (.slice p.am 6 p.cm) ∧ Below W.heap.size W W') := fun W' hb => by
        have h := fS_cells ((HW.out.to hb).bx _ List.mem_cons_self)
        exact ⟨h.1, h.2.1, h.2.2.1, h.2.2.2, hb⟩
      have HBa : Hid (∀ X o, Below W.heap.size W X → Below W.heap.size W (X.alloc o)) := fun X o h => h.alloc h.size o
      have HBs : Hid (∀ (X : World) (b : Nat) (x0 x1 x2 x3 : Value), W.heap.size ≤ b → Below W.heap.size W X → Below W.heap.size W ((((X.setCell ⟨b, 0, none⟩ x0).setCell ⟨b, 1, none⟩ x1).setCell ⟨b, 2, none⟩ x2).setCell ⟨b, 3, none⟩ x3)) := fun X b x0 x1 x2 x3 hz h => (((h.setCell (p := ⟨b, 0, none⟩) hz _).setCell (p := ⟨b, 1, none⟩) hz _).setCell (p := ⟨b, 2, none⟩) hz _).setCell (p := ⟨b, 3, none⟩) hz _
      have HBd : Hid (∀ o, Below W.heap.size W (W.alloc o).drew) := fun o => ((Below.refl _ W).alloc (Nat.le_refl _) o).drew
      go_cut [8, 9] (fun s8 s9 wr => ∃ (b8 : Nat) (q : BedP), s8 = .pointer (some ⟨b8, 0, none⟩) ∧ s9 = .int .i64 0 ∧ Hid (Ng w [(b8, fT, q), (w5.heap.size, fS, p)] [] wr))
      case first =>
        go_region_held3 (fun W' => W'.cell? ⟨w5.heap.size, 0, none⟩ = some (.int .i64 0) ∧ W'.cell? ⟨w5.heap.size, 1, none⟩ = some (.slice p.ah 1 p.ch) ∧ W'.cell? ⟨w5.heap.size, 2, none⟩ = some (.slice p.af 1 p.cf) ∧ W'.cell? ⟨w5.heap.size, 3, none⟩ = some (.slice p.am 6 p.cm) ∧ Below W.heap.size W W')
          (first | (with_reducible exact HSb.out _ (by assumption)) | (with_reducible exact HSb.out _ (HBa.out _ _ (by assumption))) | (with_reducible exact HSb.out _ (HBd.out _)) | (with_reducible exact HSb.out _ (HBs.out _ _ _ _ _ _ (by omega) (by assumption))) | fail)
          (first | (go_at_call 29; have hp := keepB5 (by assumption); refine (HK.out true 0 _).mono ?_; rintro e wk ⟨rfl, hbk⟩; have hbw := hp.trans (hbk.mono hp.size); clear hp; have hk1 := hbk.size; (try simp at hk1); (try have hk3 : W.heap.size < wk.heap.size := by omega); obtain ⟨hkc, hkf⟩ := bcell2 hbk) | (go_at_call 18; have hp := keepB5 (by assumption); refine (HD.out _ hp).mono ?_; rintro e wd ⟨q, rfl, hsd, hbd⟩; have hbw2 := hp.trans (hbd.mono hp.size); clear hp; simp only [fT]; obtain ⟨hdc, hdf⟩ := bcell2 hbd; have hd1 := hbd.size; (try simp at hd1)))
        all_goals
          go_wp2_with fail
          go_meet
        · exact ⟨_, q, rfl, rfl, ng_a HW.out hbw2 hsd⟩
        · exact ⟨_, q, rfl, rfl, ng_b HW.out hbw2 hsd (by simp) (by omega) ((zero_at _ hbd (by simp)).1)⟩
        · exact ⟨_, q, rfl, rfl, ng_b HW.out hbw2 hsd hk3 (by omega) (al_z hbk hbd)⟩
      case rest =>
        obtain ⟨b8, q, rfl, rfl, HN⟩ := hcut
        clear HSb HBa HBs HBd HW hb0 HD
        obtain ⟨c0, c1, c2, c3⟩ := fT_cells (HN.out.bx _ List.mem_cons_self)
        obtain ⟨lb, lo, A6, C6, hq, hl, hs6⟩ := fT_last (HN.out.bx _ List.mem_cons_self)
        have HS6 := Lib.hid hs6
        rw [hq] at c3
        have l2 := lt_of_cell hl
        have l1 := lt_of_cell c0
        clear hs6 hq
        go_wp2_with fail
        have ha := HAl.out wc (.cells #[.int .i64 0, .int .i64 1, .int .i64 2, .int .i64 3, .int .i64 4, .int .i64 5] 3)
        refine (sameL A6 _ C6 _ 6 [0, 1, 2, 3, 4, 5] rfl _ ((HS6.out.below ha).more ha.size) (lit_six wc 3) (by decide)).mono ?_
        rintro e w9 ⟨rfl, n, hw9⟩
        have HBl : Hid (Below w.heap.size w w9) := by
          show Below _ _ _
          rw [hw9]
          exact below_drewN (HN.out.lo.alloc HN.out.lo.size _) n
        clear hw9 ha
        go_wp2
        go_ret
        exact ⟨rfl, HBl.out⟩
end Go.Proofs.Ytjoglkamhjcmhaa
