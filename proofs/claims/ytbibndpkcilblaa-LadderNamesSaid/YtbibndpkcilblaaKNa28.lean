/- LadderNames, walked. -/
import Derived.Test.YtbibndpkcilblaaKNg28
import Derived.Deep.RegionHeld3
import Derived.Deep.DeepCutAuto
namespace Go.Proofs.Ytbibndpkcilblaa
open Go.RowKit Go.Shelf Go.Sort
set_option maxRecDepth 100000

theorem bad_at {k : Nat} {l : List Int} (h : badL[k]? = some l) : runS 2 exP l = (2, []) ∧ stopS 2 exP l = (2, []) ∧ l.length ≤ 300 := by
  have h1 := List.all_eq_true.1 na_bad l (List.mem_of_getElem? h)
  have h2 : l.length ≤ 2 := by
    have h3 : ∀ l ∈ badL, l.length ≤ 2 := by decide
    exact h3 l (List.mem_of_getElem? h)
  have h4 := of_decide_eq_true h1
  exact ⟨h4.1, h4.2, by omega⟩
theorem ex_box (W : World) (w : World) (A : Option Addr) (c : Nat) (hs : SlC W W.heap.size A exP) (hb : Below w.heap.size w W) : RfF 2 A c exP W.heap.size w (W.alloc (.cells #[.int .i64 2, .slice A 3 c] 24)) := by
  have h := rf_front 2 A c exP W hs
  exact ⟨h.cb0, h.cb1, h.sl, hb.trans (h.bel.mono hb.size)⟩
set_option maxHeartbeats 16000000 in
theorem names_walk (w : World) : Calls Try.prog 8 #[] w fun e w' => e = .returned (.bool true) ∧ Below w.heap.size w w' := by
  go_enter Try.func8, Try.ntmps8
  go_wp2_with fail
  refine (example_any w).mono ?_
  rintro e w1 ⟨A, c, rfl, hs, hb⟩
  have HX1 := Lib.hid (ex_box w1 w A c hs hb)
  clear hs hb
  obtain ⟨xb, hxb⟩ : ∃ xb, xb = w1.heap.size := ⟨_, rfl⟩
  go_upto_region 2 with fail
  refine abs_world (Q := fun W => Code.wp _ _ _ _ W) (F := fun W => RfF 2 A c exP xb w W) _ (by rw [hxb]; exact HX1.out) ?_
  rw [← hxb]
  clear HX1 hxb
  clear w1
  rintro W hX
  have s0 := lit_sl' W [4] #[.int .i64 4] rfl rfl
  have s1 := lit_sl' (W.alloc (.cells #[.int .i64 4] 3)) [7] #[.int .i64 7] rfl (n := W.heap.size + 1) (by simp)
  have s2 := lit_sl' ((W.alloc (.cells #[.int .i64 4] 3)).alloc (.cells #[.int .i64 7] 3)) [5, 5] #[.int .i64 5, .int .i64 5] rfl (n := W.heap.size + 1 + 1) (by simp)
  have s3 := lit_sl' (((W.alloc (.cells #[.int .i64 4] 3)).alloc (.cells #[.int .i64 7] 3)).alloc (.cells #[.int .i64 5, .int .i64 5] 3)) [6, 5] #[.int .i64 6, .int .i64 5] rfl (n := W.heap.size + 1 + 1 + 1) (by simp)
  have s4 := lit_sl' ((((W.alloc (.cells #[.int .i64 4] 3)).alloc (.cells #[.int .i64 7] 3)).alloc (.cells #[.int .i64 5, .int .i64 5] 3)).alloc (.cells #[.int .i64 6, .int .i64 5] 3)) [-1] #[.int .i64 (-1)] rfl (n := W.heap.size + 1 + 1 + 1 + 1) (by simp)
  have s5 := lit_sl' (((((W.alloc (.cells #[.int .i64 4] 3)).alloc (.cells #[.int .i64 7] 3)).alloc (.cells #[.int .i64 5, .int .i64 5] 3)).alloc (.cells #[.int .i64 6, .int .i64 5] 3)).alloc (.cells #[.int .i64 (-1)] 3)) [0] #[.int .i64 0] rfl (n := W.heap.size + 1 + 1 + 1 + 1 + 1) (by simp)
  have HR := Lib.hid (bad_rows (slI_al (slI_al (slI_al (slI_al (slI_al s0 _) _) _) _) _) (slI_al (slI_al (slI_al (slI_al s1 _) _) _) _) (slI_al (slI_al (slI_al s2 _) _) _) (slI_al (slI_al s3 _) _) (slI_al s4 _) s5 #[.slice (some ⟨W.heap.size, 0, none⟩) 1 1, .slice (some ⟨W.heap.size + 1, 0, none⟩) 1 1, .slice (some ⟨W.heap.size + 1 + 1, 0, none⟩) 2 2, .slice (some ⟨W.heap.size + 1 + 1 + 1, 0, none⟩) 2 2, .slice (some ⟨W.heap.size + 1 + 1 + 1 + 1, 0, none⟩) 1 1, .slice (some ⟨W.heap.size + 1 + 1 + 1 + 1 + 1, 0, none⟩) 1 1] rfl)
  have HX0 := Lib.hid hX
  have HXa := Lib.hid (((((((hX.to (al_t' _ (.cells #[.int .i64 4] 3))).to (al_t' _ (.cells #[.int .i64 7] 3))).to (al_t' _ (.cells #[.int .i64 5, .int .i64 5] 3))).to (al_t' _ (.cells #[.int .i64 6, .int .i64 5] 3))).to (al_t' _ (.cells #[.int .i64 (-1)] 3))).to (al_t' _ (.cells #[.int .i64 0] 3))).to (al_t' _ (.cells #[.slice (some ⟨W.heap.size, 0, none⟩) 1 1, .slice (some ⟨W.heap.size + 1, 0, none⟩) 1 1, .slice (some ⟨W.heap.size + 1 + 1, 0, none⟩) 2 2, .slice (some ⟨W.heap.size + 1 + 1 + 1, 0, none⟩) 2 2, .slice (some ⟨W.heap.size + 1 + 1 + 1 + 1, 0, none⟩) 1 1, .slice (some ⟨W.heap.size + 1 + 1 + 1 + 1 + 1, 0, none⟩) 1 1] 25)))
  clear s0 s1 s2 s3 s4 s5 hX
  go_upto_region 3 with fail
  simp only [World.size_alloc] at HR
  obtain ⟨rb, hrb⟩ : ∃ rb, rb = W.heap.size + 1 + 1 + 1 + 1 + 1 + 1 := ⟨_, rfl⟩
  refine abs_world (Q := fun W => Code.wp _ _ _ _ W) (F := fun W' => RfF 2 A c exP xb w W' ∧ SlRows W' W'.heap.size (some ⟨rb, 0, none⟩) badL) _ (by rw [hrb]; refine ⟨HXa.out, ?_⟩; simp only [World.size_alloc]; exact HR.out) ?_
  rw [← hrb]
  clear HR HXa HX0 hrb
  rintro W1 hX
  have HX := Lib.hid hX
  clear hX
  have hl6 : badL.length = 6 := rfl
  go_wp2
  go_loopw [3] (fun s3 wr => ∃ k : Nat, k ≤ 6 ∧ s3 = .int .i64 (k : Int) ∧ Hid (RfF 2 A c exP xb w wr ∧ SlRows wr wr.heap.size (some ⟨rb, 0, none⟩) badL)) (fun s3 _ => 6 - (intOf s3).toNat)
  case atStart => exact ⟨0, Nat.zero_le _, rfl, HX.out⟩
  case round =>
    obtain ⟨k, hk, rfl, HY⟩ := hrel
    clear HX
    by_cases hlt : k < 6
    case pos =>
      have hrow : ∀ W', RfF 2 A c exP xb w W' ∧ SlRows W' W'.heap.size (some ⟨rb, 0, none⟩) badL → Below wr.heap.size wr W' → RfF 2 A c exP xb w W' ∧ SlRows W' W'.heap.size (some ⟨rb, 0, none⟩) badL := fun _ h _ => h
      clear hrow
      have hd := Below.drew (Below.refl wr.heap.size wr)
      obtain ⟨b, off, l, A', C', e, hB, hl, q0, hsl⟩ := HY.out.2.at_ (k := k) (by rw [hl6]; exact hlt)
      simp only [Option.some.injEq, Addr.mk.injEq] at e
      obtain ⟨rfl, rfl, -⟩ := e
      obtain ⟨hp1, hp2, hp3⟩ := bad_at hl
      have hto : ∀ W', Below wr.heap.size wr W' → RfF 2 A c exP xb w W' ∧ SlRows W' W'.heap.size (some ⟨rb, 0, none⟩) badL ∧ W'.cell? ⟨rb, 0 + k, none⟩ = some (.slice A' l.length C') ∧ SlI W' W'.heap.size A' l := fun W' h => ⟨HY.out.1.to h, (HY.out.2.below h).more h.size, (bcell h hB _).trans q0, (hsl.below h).more h.size⟩
      have HTo := Lib.hid hto
      have hr1 := Run_x 2 A c exP exP_wf (fun _ => by decide) A' C' l hp3 wr.drew (HTo.out _ hd).1.sl (HTo.out _ hd).2.2.2
      have HSt := Lib.hid (fun W' (h : Below wr.heap.size wr W') => Stops_x 2 A c exP exP_wf (fun _ => by decide) A' C' l hp3 W' (HTo.out _ h).1.sl (HTo.out _ h).2.2.2)
      rw [hp1] at hr1
      rw [hp2] at HSt
      obtain ⟨n, hn⟩ : ∃ n, n = l.length := ⟨_, rfl⟩
      rw [← hn] at hr1 HSt HTo q0
      have HC := Lib.hid hr1
      have HD := Lib.hid hd
      have HKd : Hid (wr.drew.cell? ⟨xb, 0, none⟩ = some (.int .i64 2) ∧ wr.drew.cell? ⟨xb, 1, none⟩ = some (.slice A 3 c) ∧ wr.drew.cell? ⟨rb, 0 + k, none⟩ = some (.slice A' n C')) := ⟨(HTo.out _ hd).1.cb0, (HTo.out _ hd).1.cb1, (HTo.out _ hd).2.2.1⟩
      have hk0 : (0 : Int) ≤ (k : Int) := by omega
      have hk6 : (k : Int) < 6 := by omega
      have HK : Hid (k + 1 ≤ 6 ∧ k < 6) := ⟨hlt, hlt⟩
      rw [Nat.zero_add] at HKd
      clear hto hr1 hd hp1 hp2 hp3 hsl q0 hl hB hn
      go_upto_region 6 with fail
      go_region_held3 (fun W' => W'.cell? ⟨xb, 0, none⟩ = some (.int .i64 2) ∧ W'.cell? ⟨xb, 1, none⟩ = some (.slice A 3 c) ∧ W'.cell? ⟨rb, k, none⟩ = some (.slice A' n C'))
        (first | (with_reducible exact HKd.out) | (with_reducible exact HKw.out) | fail)
        (first | (go_at_call 10; refine HC.out.mono ?_; rintro e ww ⟨v, rfl, ho, hbw⟩; have hdw := HD.out.trans (hbw.mono HD.out.size); have hxw := HTo.out _ hdw; have HKw : Hid (ww.cell? ⟨xb, 0, none⟩ = some (.int .i64 2) ∧ ww.cell? ⟨xb, 1, none⟩ = some (.slice A 3 c) ∧ ww.cell? ⟨rb, k, none⟩ = some (.slice A' n C')) := ⟨hxw.1.cb0, hxw.1.cb1, by have := hxw.2.2.1; rwa [Nat.zero_add] at this⟩; obtain ⟨va, vc, rfl⟩ := pxJ_is (n := 0) ho rfl; have HDw := Lib.hid hdw; clear ho hbw hdw hxw))
      have hd2 := HDw.out.trans ((Below.drew (Below.refl ww.heap.size ww)).mono HDw.out.size)
      have HC2 := Lib.hid (HSt.out _ hd2)
      have HKd2 : Hid (ww.drew.cell? ⟨xb, 0, none⟩ = some (.int .i64 2) ∧ ww.drew.cell? ⟨xb, 1, none⟩ = some (.slice A 3 c) ∧ ww.drew.cell? ⟨rb, k, none⟩ = some (.slice A' n C')) := ⟨(HTo.out _ hd2).1.cb0, (HTo.out _ hd2).1.cb1, by have := (HTo.out _ hd2).2.2.1; rwa [Nat.zero_add] at this⟩
      have HD2 := Lib.hid hd2
      clear hd2 HC HKd HKw HD HDw
      go_upto_region 7 with fail
      go_region_held3 (fun W' => W'.cell? ⟨xb, 0, none⟩ = some (.int .i64 2) ∧ W'.cell? ⟨xb, 1, none⟩ = some (.slice A 3 c) ∧ W'.cell? ⟨rb, k, none⟩ = some (.slice A' n C'))
        (first | (with_reducible exact HKd2.out) | (with_reducible exact HKw.out) | fail)
        (first | (go_at_call 12; refine HC2.out.mono ?_; rintro e wx ⟨v, rfl, ho, hbw⟩; have hdw := HD2.out.trans (hbw.mono HD2.out.size); have hxw := HTo.out _ hdw; have HKw : Hid (wx.cell? ⟨xb, 0, none⟩ = some (.int .i64 2) ∧ wx.cell? ⟨xb, 1, none⟩ = some (.slice A 3 c) ∧ wx.cell? ⟨rb, k, none⟩ = some (.slice A' n C')) := ⟨hxw.1.cb0, hxw.1.cb1, by have := hxw.2.2.1; rwa [Nat.zero_add] at this⟩; obtain ⟨va2, vc2, rfl⟩ := pxJ_is (n := 0) ho rfl; have HY2 := Lib.hid (And.intro hxw.1 hxw.2.1); clear ho hbw hdw hxw))
      clear HKd2 HKw HC2 HD2 HTo HSt HY
      go_wp2
      go_roundw
      case rel => exact ⟨k + 1, HK.out.1, by go_num, HY2.out⟩
      case measure => have := HK.out.2; simp [intOf]; omega
    case neg =>
      have hk6 : k = 6 := by omega
      subst hk6
      have HF := Lib.hid HY.out.1.bel
      clear HY
      go_upto_region 11 with fail
      obtain ⟨kb, hkb⟩ : ∃ kb, kb = wr.heap.size := ⟨_, rfl⟩
      refine abs_world (Q := fun W => Code.wp _ _ _ _ W) (F := fun W' => W'.cell? ⟨kb, 0, none⟩ = some (.int .u8 1) ∧ W'.cell? ⟨kb, 1, none⟩ = some (.bool false) ∧ W'.cell? ⟨kb, 2, none⟩ = some (.int .i64 0) ∧ W'.cell? ⟨kb, 3, none⟩ = some (.int .i64 0) ∧ Below w.heap.size w W') _ (by rw [hkb]; exact ⟨cell_new rfl rfl rfl, cell_new rfl rfl rfl, cell_new rfl rfl rfl, cell_new rfl rfl rfl, HF.out.trans ((al_t' wr _).mono HF.out.size)⟩) ?_
      rw [← hkb]
      clear hkb
      rintro W2 ⟨k0, k1, k2, k3, hb2⟩
      have HF2 := Lib.hid hb2
      have HSb : Hid (∀ W', Below W2.heap.size W2 W' → W'.cell? ⟨kb, 0, none⟩ = some (.int .u8 1) ∧ W'.cell? ⟨kb, 1, none⟩ = some (.bool false) ∧ W'.cell? ⟨kb, 2, none⟩ = some (.int .i64 0) ∧ W'.cell? ⟨kb, 3, none⟩ = some (.int .i64 0) ∧ Below W2.heap.size W2 W') := fun W' h => ⟨(bcell h (lt_of_cell k0) _).trans k0, (bcell h (lt_of_cell k0) _).trans k1, (bcell h (lt_of_cell k0) _).trans k2, (bcell h (lt_of_cell k0) _).trans k3, h⟩
      have HBd : Hid (Below W2.heap.size W2 W2.drew) := Below.drew (Below.refl _ _)
      have HBe : Hid (∀ o, Below W2.heap.size W2 (W2.alloc o).drew) := fun o => ((al_t' W2 o)).drew
      have HBf : Hid (∀ o o', Below W2.heap.size W2 ((W2.alloc o).alloc o').drew) := fun o o' => ((al_t' W2 o).trans ((al_t' _ o').mono (by simp))).drew
      have HBh : Hid (∀ W' o o', Hid (Below W2.heap.size W2 W') → Below W2.heap.size W2 ((W'.alloc o).alloc o')) := fun W' o o' h => h.out.trans (((al_t' W' o).trans ((al_t' _ o').mono (by simp))).mono h.out.size)
      have HBg : Hid (∀ o o' o'', Below W2.heap.size W2 (((W2.alloc o).alloc o').alloc o'').drew) := fun o o' o'' => ((al_t' W2 o).trans (((al_t' _ o').trans ((al_t' _ o'').mono (by simp))).mono (by simp))).drew
      have HBk : Hid (∀ W' b v0 v1 o, Hid (Below W2.heap.size W2 W') → W2.heap.size ≤ b → Below W2.heap.size W2 (((W'.setCell ⟨b, 0, none⟩ v0).setCell ⟨b, 1, none⟩ v1).alloc o)) := fun W' b v0 v1 o h hb => by
        have h2 := (h.out.setCell (p := ⟨b, 0, none⟩) hb v0).setCell (p := ⟨b, 1, none⟩) hb v1
        exact h2.trans ((al_t' _ o).mono h2.size)
      have HBa : Hid (∀ W' o, (W'.cell? ⟨kb, 0, none⟩ = some (.int .u8 1) ∧ W'.cell? ⟨kb, 1, none⟩ = some (.bool false) ∧ W'.cell? ⟨kb, 2, none⟩ = some (.int .i64 0) ∧ W'.cell? ⟨kb, 3, none⟩ = some (.int .i64 0) ∧ Below W2.heap.size W2 W') → Below W2.heap.size W2 (W'.alloc o)) := fun W' o h => h.2.2.2.2.trans ((al_t' W' o).mono h.2.2.2.2.size)
      clear hb2 HF
      go_cut [9] (fun s9 wr => ∃ (gb c2 : Nat) (A2 : Option Addr), s9 = .pointer (some ⟨gb, 0, none⟩) ∧ Hid (RfF 3 A2 c2 yP gb w wr))
      case first =>
        refine wp_region_held_drew (S := fun W' => W'.cell? ⟨kb, 0, none⟩ = some (.int .u8 1) ∧ W'.cell? ⟨kb, 1, none⟩ = some (.bool false) ∧ W'.cell? ⟨kb, 2, none⟩ = some (.int .i64 0) ∧ W'.cell? ⟨kb, 3, none⟩ = some (.int .i64 0) ∧ Below W2.heap.size W2 W') (by kernel_rfl) (HSb.out _ HBd.out) (fun hHeld => ?_)
        refine wpAnyH_take (i := 0) (v := ?_) rfl (by kernel_rfl) (by kernel_rfl) (by kernel_rfl) (fun _ _ _ h => h) (Or.inl ⟨by rfl, ?_⟩) (by assumption) ?_
        rotate_left
        · (intro w hSw; (try dsimp only at hSw); go_simp; try with_reducible rfl)
        simp only [Act.put, List.getElem_toArray, List.getElem_cons_zero, List.setIfInBounds_toArray, List.set_cons_zero, List.set_cons_succ]
        refine wpAnyH_take (i := 1) (v := ?_) rfl (by kernel_rfl) (by kernel_rfl) (by kernel_rfl) (fun _ _ _ h => h) (Or.inl ⟨by rfl, ?_⟩) (by assumption) ?_
        rotate_left
        · (intro w hSw; (try dsimp only at hSw); go_simp; try with_reducible rfl)
        simp only [Act.put, List.getElem_toArray, List.getElem_cons_zero, List.getElem_cons_succ, List.setIfInBounds_toArray, List.set_cons_zero, List.set_cons_succ]
        refine wpAnyH_take (i := 2) (v := ?_) rfl (by kernel_rfl) (by kernel_rfl) (by kernel_rfl) (fun _ _ _ h => h) (Or.inl ⟨by rfl, ?_⟩) (by assumption) ?_
        rotate_left
        · (intro w hSw; (try dsimp only at hSw); go_simp; try with_reducible rfl)
        simp only [Act.put, List.getElem_toArray, List.getElem_cons_zero, List.getElem_cons_succ, List.setIfInBounds_toArray, List.set_cons_zero, List.set_cons_succ]
        refine wpAnyH_take (i := 5) (v := ?_) rfl (by kernel_rfl) (by kernel_rfl) (by kernel_rfl) (fun _ _ _ h => h) (Or.inl ⟨by rfl, ?_⟩) (by assumption) ?_
        rotate_left
        · (intro w hSw; (try dsimp only at hSw); go_simp; try with_reducible rfl)
        simp only [Act.put, List.getElem_toArray, List.getElem_cons_zero, List.getElem_cons_succ, List.setIfInBounds_toArray, List.set_cons_zero, List.set_cons_succ]
        refine wpAnyH_take (i := 6) (v := ?_) rfl (by kernel_rfl) (by kernel_rfl) (by kernel_rfl) (fun _ _ _ h => h) (Or.inl ⟨by rfl, ?_⟩) (by assumption) ?_
        rotate_left
        · (intro w hSw; (try dsimp only at hSw); go_simp; try with_reducible rfl)
        simp only [Act.put, List.getElem_toArray, List.getElem_cons_zero, List.getElem_cons_succ, List.setIfInBounds_toArray, List.set_cons_zero, List.set_cons_succ]
        refine wpAnyH_take (i := 7) (v := ?_) rfl (by kernel_rfl) (by kernel_rfl) (by kernel_rfl) (fun _ _ _ h => h) (Or.inl ⟨by rfl, ?_⟩) (by assumption) ?_
        rotate_left
        · (intro w hSw; (try dsimp only at hSw); go_simp; try with_reducible rfl)
        simp only [Act.put, List.getElem_toArray, List.getElem_cons_zero, List.getElem_cons_succ, List.setIfInBounds_toArray, List.set_cons_zero, List.set_cons_succ]
        refine wpAnyH_take (i := 8) (v := ?_) rfl (by kernel_rfl) (by kernel_rfl) (by kernel_rfl) (fun _ _ _ h => h) (Or.inl ⟨by rfl, ?_⟩) (by assumption) ?_
        rotate_left
        · (intro w hSw; (try dsimp only at hSw); go_simp; try with_reducible rfl)
        simp only [Act.put, List.getElem_toArray, List.getElem_cons_zero, List.getElem_cons_succ, List.setIfInBounds_toArray, List.set_cons_zero, List.set_cons_succ]
        refine Fm.start (mk := fun x9 x85 x86 x91 x92 x93 x94 => {tmps := #[u0, .pointer (some ⟨xb, 0, none⟩), .slice (some ⟨rb, 0, none⟩) 6 6, .int .i64 ↑6, u4, u5, u6, u7, .pointer (some ⟨kb, 0, none⟩), x9, undef, undef, undef, undef, undef, undef, undef, undef, undef, undef, undef, undef, undef, undef, undef, undef, undef, undef, undef, undef, undef, undef, undef, .agg #[.int .i64 2, .slice A 3 c], .slice (some ⟨W.heap.size, 0, none⟩) 1 1, .slice (some ⟨W.heap.size + 1, 0, none⟩) 1 1, .slice (some ⟨W.heap.size + 1 + 1, 0, none⟩) 2 2, .slice (some ⟨W.heap.size + 1 + 1 + 1, 0, none⟩) 2 2, .slice (some ⟨W.heap.size + 1 + 1 + 1 + 1, 0, none⟩) 1 1, .slice (some ⟨W.heap.size + 1 + 1 + 1 + 1 + 1, 0, none⟩) 1 1, .slice (some ⟨rb, 0, none⟩) 6 6, .int .i64 ↑6, .slice (some ⟨rb, 0, none⟩) 6 6, .int .i64 6, .bool false, u45, u46, u47, u48, u49, u50, u51, u52, u53, u54, u55, u56, u57, u58, u59, u60, u61, u62, u63, u64, u65, u66, u67, u68, u69, u70, u71, u72, u73, u74, u75, u76, u77, u78, u79, u80, .agg #[.int .u8 1, .bool false, .int .i64 0, .int .i64 0], .agg #[.int .u8 1, .bool false, .int .i64 0, .int .i64 0], .agg #[.int .u8 1, .bool false, .int .i64 0, .int .i64 0], .agg #[.int .u8 1, .bool false, .int .i64 0, .int .i64 0], x85, x86, .agg #[.int .u8 10, .bool false, .int .i64 1, .int .i64 0], .agg #[.int .u8 1, .bool false, .int .i64 0, .int .i64 0], .agg #[.int .u8 2, .bool false, .int .i64 0, .int .i64 0], .agg #[.int .u8 1, .bool false, .int .i64 0, .int .i64 0], x91, x92, x93, x94, undef, undef, undef, undef, undef, undef, undef, undef, undef, undef, undef, undef, undef, undef, undef, undef, undef, undef, undef, undef, undef, undef, undef, undef, undef, undef, undef, undef, undef, undef, undef, undef, undef, undef, undef, undef, undef, undef, undef, undef, undef, undef, undef, undef, undef, undef, undef, undef, undef, undef, undef, undef, undef, undef, undef, undef, undef, undef, undef, undef, undef, undef, undef, undef, undef, undef, undef, undef, undef, undef, undef, undef, undef, undef, undef, undef, undef, undef, undef, undef, undef, undef, undef, undef, undef, undef, undef, undef, undef, undef, undef, undef, undef, undef, undef, undef, undef, undef, undef, undef, undef, undef, undef, undef, undef, undef, undef, undef, undef, undef, undef, undef, undef, undef, undef, undef, undef, undef, undef, undef, undef, undef, undef, undef, undef, undef, undef, undef, undef, undef, undef, undef, undef, undef, undef, undef], defers := []}) (n := 8) (l := #[true, true, true, false, false, true, true, true, true, false, false, false, false, false, false]) (by kernel_rfl) ?_
        clear hHeld
        intro F hF hO
        have H2211 : ∀ gA gB gR g W, Dg W2 true true true true gA gB gR g W → F 1 #[true, true, true, true, true, true, true, true, true, true, true, true, true, true, false] (.pointer (some ⟨g, 0, none⟩)) (.slice (some ⟨gA, 0, none⟩) 3 3) (.agg #[.bool false, .slice (some ⟨gA, 0, none⟩) 3 3]) (.slice (some ⟨gB, 0, none⟩) 4 4) (.agg #[.bool false, .slice (some ⟨gB, 0, none⟩) 4 4]) (.slice (some ⟨gR, 0, none⟩) 2 2) (.agg #[.int .i64 3, .slice (some ⟨gR, 0, none⟩) 2 2]) W := by
          intro gA gB gR g W hD
          refine hO _ _ _ _ _ _ _ _ _ _ ?_
          have hHeld := HSb.out W hD.bel
          obtain ⟨y0, y1, y2, y3⟩ := hD.cells
          refine wpAnyH_ready (rs := [14]) (by kernel_rfl) (by simp) ?_
          refine (AllReadyH.cons rfl (fun K hK => ?_) AllReadyH.nil)
          go_simp
          refine hK.out _ _ (HSb.out _ (hD.belS _ _)) (fun hHeld => ?_)
          clear hK K
          refine wpAnyH_done (by kernel_rfl) ?_ _
          clear hHeld y0 y1 y2 y3
          go_wp2_with fail
          go_meet
          exact hD.fin HF2.out
        have H2210 : ∀ gA gB gR g W, Dg W2 true true true false gA gB gR g W → F 2 #[true, true, true, true, true, true, true, true, true, true, true, true, true, false, false] undef (.slice (some ⟨gA, 0, none⟩) 3 3) (.agg #[.bool false, .slice (some ⟨gA, 0, none⟩) 3 3]) (.slice (some ⟨gB, 0, none⟩) 4 4) (.agg #[.bool false, .slice (some ⟨gB, 0, none⟩) 4 4]) (.slice (some ⟨gR, 0, none⟩) 2 2) (.agg #[.int .i64 3, .slice (some ⟨gR, 0, none⟩) 2 2]) W := by
          intro gA gB gR g W hD
          refine hO _ _ _ _ _ _ _ _ _ _ ?_
          have hHeld := HSb.out W hD.bel
          refine wpAnyH_ready (rs := [13]) (by kernel_rfl) (by simp) ?_
          refine (AllReadyH.cons rfl (fun K hK => ?_) AllReadyH.nil)
          go_simp
          refine hK.out _ _ (HSb.out _ (Dg.mkC hD).bel) (fun hHeld => ?_)
          clear hK K
          exact hF _ #[true, true, true, true, true, true, true, true, true, true, true, true, true, true, false] _ _ _ _ _ _ _ _ _ (by rfl) (H2211 gA gB gR W.heap.size _ (Dg.mkC hD))
        have H2201 : ∀ gA gB gR g W, Dg W2 true true false true gA gB gR g W → F 3 #[true, true, true, true, true, true, true, true, true, true, true, false, false, true, false] (.pointer (some ⟨g, 0, none⟩)) (.slice (some ⟨gA, 0, none⟩) 3 3) (.agg #[.bool false, .slice (some ⟨gA, 0, none⟩) 3 3]) (.slice (some ⟨gB, 0, none⟩) 4 4) (.agg #[.bool false, .slice (some ⟨gB, 0, none⟩) 4 4]) undef undef W := by
          intro gA gB gR g W hD
          refine hO _ _ _ _ _ _ _ _ _ _ ?_
          have hHeld := HSb.out W hD.bel
          refine wpAnyH_ready (rs := [11]) (by kernel_rfl) (by simp) ?_
          refine (AllReadyH.cons rfl (fun K hK => ?_) AllReadyH.nil)
          go_simp
          refine hK.out _ _ (HSb.out _ (Dg.mkR hD).bel) (fun hHeld => ?_)
          clear hK K
          refine wpAnyH_take (i := 12) (v := ?_) rfl (by kernel_rfl) (by kernel_rfl) (by kernel_rfl) (fun _ _ _ h => h) (Or.inl ⟨by rfl, ?_⟩) (by assumption) ?_
          rotate_left
          · (intro w hSw; (try dsimp only at hSw); go_simp; try with_reducible rfl)
          simp only [Act.put, List.getElem_toArray, List.getElem_cons_zero, List.getElem_cons_succ, List.setIfInBounds_toArray, List.set_cons_zero, List.set_cons_succ]
          exact hF _ #[true, true, true, true, true, true, true, true, true, true, true, true, true, true, false] _ _ _ _ _ _ _ _ _ (by rfl) (H2211 gA gB W.heap.size g _ (Dg.mkR hD))
        have H2200 : ∀ gA gB gR g W, Dg W2 true true false false gA gB gR g W → F 4 #[true, true, true, true, true, true, true, true, true, true, true, false, false, false, false] undef (.slice (some ⟨gA, 0, none⟩) 3 3) (.agg #[.bool false, .slice (some ⟨gA, 0, none⟩) 3 3]) (.slice (some ⟨gB, 0, none⟩) 4 4) (.agg #[.bool false, .slice (some ⟨gB, 0, none⟩) 4 4]) undef undef W := by
          intro gA gB gR g W hD
          refine hO _ _ _ _ _ _ _ _ _ _ ?_
          have hHeld := HSb.out W hD.bel
          refine wpAnyH_ready (rs := [11, 13]) (by kernel_rfl) (by simp) ?_
          refine (AllReadyH.cons rfl (fun K hK => ?_) (AllReadyH.cons rfl (fun K hK => ?_) AllReadyH.nil))
          · go_simp
            refine hK.out _ _ (HSb.out _ (Dg.mkR hD).bel) (fun hHeld => ?_)
            clear hK K
            refine wpAnyH_take (i := 12) (v := ?_) rfl (by kernel_rfl) (by kernel_rfl) (by kernel_rfl) (fun _ _ _ h => h) (Or.inl ⟨by rfl, ?_⟩) (by assumption) ?_
            rotate_left
            · (intro w hSw; (try dsimp only at hSw); go_simp; try with_reducible rfl)
            simp only [Act.put, List.getElem_toArray, List.getElem_cons_zero, List.getElem_cons_succ, List.setIfInBounds_toArray, List.set_cons_zero, List.set_cons_succ]
            exact hF _ #[true, true, true, true, true, true, true, true, true, true, true, true, true, false, false] _ _ _ _ _ _ _ _ _ (by rfl) (H2210 gA gB W.heap.size g _ (Dg.mkR hD))
          · go_simp
            refine hK.out _ _ (HSb.out _ (Dg.mkC hD).bel) (fun hHeld => ?_)
            clear hK K
            exact hF _ #[true, true, true, true, true, true, true, true, true, true, true, false, false, true, false] _ _ _ _ _ _ _ _ _ (by rfl) (H2201 gA gB gR W.heap.size _ (Dg.mkC hD))
        have H2101 : ∀ gA gB gR g W, Dg W2 true true false true gA gB gR g W → F 4 #[true, true, true, true, true, true, true, true, true, true, false, false, false, true, false] (.pointer (some ⟨g, 0, none⟩)) (.slice (some ⟨gA, 0, none⟩) 3 3) (.agg #[.bool false, .slice (some ⟨gA, 0, none⟩) 3 3]) (.slice (some ⟨gB, 0, none⟩) 4 4) undef undef undef W := by
          intro gA gB gR g W hD
          refine hO _ _ _ _ _ _ _ _ _ _ ?_
          have hHeld := HSb.out W hD.bel
          refine wpAnyH_ready (rs := [10]) (by kernel_rfl) (by simp) ?_
          refine (AllReadyH.cons rfl (fun K hK => ?_) AllReadyH.nil)
          go_simp
          go_at_call 28
          refine (lplain_any _ _ _ _).mono ?_
          rintro e wd ⟨rfl, hbd⟩
          have hD2 := hD.to hbd
          clear hD hHeld hbd
          go_wp2_with fail
          refine hK.out _ _ (HSb.out _ hD2.bel) (fun hHeld => ?_)
          clear hK K
          exact hF _ #[true, true, true, true, true, true, true, true, true, true, true, false, false, true, false] _ _ _ _ _ _ _ _ _ (by rfl) (H2201 gA gB gR g _ hD2)
        have H2100 : ∀ gA gB gR g W, Dg W2 true true false false gA gB gR g W → F 5 #[true, true, true, true, true, true, true, true, true, true, false, false, false, false, false] undef (.slice (some ⟨gA, 0, none⟩) 3 3) (.agg #[.bool false, .slice (some ⟨gA, 0, none⟩) 3 3]) (.slice (some ⟨gB, 0, none⟩) 4 4) undef undef undef W := by
          intro gA gB gR g W hD
          refine hO _ _ _ _ _ _ _ _ _ _ ?_
          have hHeld := HSb.out W hD.bel
          refine wpAnyH_ready (rs := [10, 13]) (by kernel_rfl) (by simp) ?_
          refine (AllReadyH.cons rfl (fun K hK => ?_) (AllReadyH.cons rfl (fun K hK => ?_) AllReadyH.nil))
          · go_simp
            go_at_call 28
            refine (lplain_any _ _ _ _).mono ?_
            rintro e wd ⟨rfl, hbd⟩
            have hD2 := hD.to hbd
            clear hD hHeld hbd
            go_wp2_with fail
            refine hK.out _ _ (HSb.out _ hD2.bel) (fun hHeld => ?_)
            clear hK K
            exact hF _ #[true, true, true, true, true, true, true, true, true, true, true, false, false, false, false] _ _ _ _ _ _ _ _ _ (by rfl) (H2200 gA gB gR g _ hD2)
          · go_simp
            refine hK.out _ _ (HSb.out _ (Dg.mkC hD).bel) (fun hHeld => ?_)
            clear hK K
            exact hF _ #[true, true, true, true, true, true, true, true, true, true, false, false, false, true, false] _ _ _ _ _ _ _ _ _ (by rfl) (H2101 gA gB gR W.heap.size _ (Dg.mkC hD))
        have H1101 : ∀ gA gB gR g W, Dg W2 true true false true gA gB gR g W → F 5 #[true, true, true, true, false, true, true, true, true, true, false, false, false, true, false] (.pointer (some ⟨g, 0, none⟩)) (.slice (some ⟨gA, 0, none⟩) 3 3) undef (.slice (some ⟨gB, 0, none⟩) 4 4) undef undef undef W := by
          intro gA gB gR g W hD
          refine hO _ _ _ _ _ _ _ _ _ _ ?_
          have hHeld := HSb.out W hD.bel
          refine wpAnyH_ready (rs := [4]) (by kernel_rfl) (by simp) ?_
          refine (AllReadyH.cons rfl (fun K hK => ?_) AllReadyH.nil)
          go_simp
          go_at_call 28
          refine (lplain_any _ _ _ _).mono ?_
          rintro e wd ⟨rfl, hbd⟩
          have hD2 := hD.to hbd
          clear hD hHeld hbd
          go_wp2_with fail
          refine hK.out _ _ (HSb.out _ hD2.bel) (fun hHeld => ?_)
          clear hK K
          exact hF _ #[true, true, true, true, true, true, true, true, true, true, false, false, false, true, false] _ _ _ _ _ _ _ _ _ (by rfl) (H2101 gA gB gR g _ hD2)
        have H1100 : ∀ gA gB gR g W, Dg W2 true true false false gA gB gR g W → F 6 #[true, true, true, true, false, true, true, true, true, true, false, false, false, false, false] undef (.slice (some ⟨gA, 0, none⟩) 3 3) undef (.slice (some ⟨gB, 0, none⟩) 4 4) undef undef undef W := by
          intro gA gB gR g W hD
          refine hO _ _ _ _ _ _ _ _ _ _ ?_
          have hHeld := HSb.out W hD.bel
          refine wpAnyH_ready (rs := [4, 13]) (by kernel_rfl) (by simp) ?_
          refine (AllReadyH.cons rfl (fun K hK => ?_) (AllReadyH.cons rfl (fun K hK => ?_) AllReadyH.nil))
          · go_simp
            go_at_call 28
            refine (lplain_any _ _ _ _).mono ?_
            rintro e wd ⟨rfl, hbd⟩
            have hD2 := hD.to hbd
            clear hD hHeld hbd
            go_wp2_with fail
            refine hK.out _ _ (HSb.out _ hD2.bel) (fun hHeld => ?_)
            clear hK K
            exact hF _ #[true, true, true, true, true, true, true, true, true, true, false, false, false, false, false] _ _ _ _ _ _ _ _ _ (by rfl) (H2100 gA gB gR g _ hD2)
          · go_simp
            refine hK.out _ _ (HSb.out _ (Dg.mkC hD).bel) (fun hHeld => ?_)
            clear hK K
            exact hF _ #[true, true, true, true, false, true, true, true, true, true, false, false, false, true, false] _ _ _ _ _ _ _ _ _ (by rfl) (H1101 gA gB gR W.heap.size _ (Dg.mkC hD))
        have H0101 : ∀ gA gB gR g W, Dg W2 false true false true gA gB gR g W → F 6 #[true, true, true, false, false, true, true, true, true, true, false, false, false, true, false] (.pointer (some ⟨g, 0, none⟩)) undef undef (.slice (some ⟨gB, 0, none⟩) 4 4) undef undef undef W := by
          intro gA gB gR g W hD
          refine hO _ _ _ _ _ _ _ _ _ _ ?_
          have hHeld := HSb.out W hD.bel
          refine wpAnyH_ready (rs := [3]) (by kernel_rfl) (by simp) ?_
          refine (AllReadyH.cons rfl (fun K hK => ?_) AllReadyH.nil)
          go_simp
          refine hK.out _ _ (HSb.out _ (Dg.mkA hD rfl).bel) (fun hHeld => ?_)
          clear hK K
          exact hF _ #[true, true, true, true, false, true, true, true, true, true, false, false, false, true, false] _ _ _ _ _ _ _ _ _ (by rfl) (H1101 W.heap.size gB gR g _ (Dg.mkA hD rfl))
        have H0100 : ∀ gA gB gR g W, Dg W2 false true false false gA gB gR g W → F 7 #[true, true, true, false, false, true, true, true, true, true, false, false, false, false, false] undef undef undef (.slice (some ⟨gB, 0, none⟩) 4 4) undef undef undef W := by
          intro gA gB gR g W hD
          refine hO _ _ _ _ _ _ _ _ _ _ ?_
          have hHeld := HSb.out W hD.bel
          refine wpAnyH_ready (rs := [3, 13]) (by kernel_rfl) (by simp) ?_
          refine (AllReadyH.cons rfl (fun K hK => ?_) (AllReadyH.cons rfl (fun K hK => ?_) AllReadyH.nil))
          · go_simp
            refine hK.out _ _ (HSb.out _ (Dg.mkA hD rfl).bel) (fun hHeld => ?_)
            clear hK K
            exact hF _ #[true, true, true, true, false, true, true, true, true, true, false, false, false, false, false] _ _ _ _ _ _ _ _ _ (by rfl) (H1100 W.heap.size gB gR g _ (Dg.mkA hD rfl))
          · go_simp
            refine hK.out _ _ (HSb.out _ (Dg.mkC hD).bel) (fun hHeld => ?_)
            clear hK K
            exact hF _ #[true, true, true, false, false, true, true, true, true, true, false, false, false, true, false] _ _ _ _ _ _ _ _ _ (by rfl) (H0101 gA gB gR W.heap.size _ (Dg.mkC hD))
        have H2001 : ∀ gA gB gR g W, Dg W2 true false false true gA gB gR g W → F 5 #[true, true, true, true, true, true, true, true, true, false, false, false, false, true, false] (.pointer (some ⟨g, 0, none⟩)) (.slice (some ⟨gA, 0, none⟩) 3 3) (.agg #[.bool false, .slice (some ⟨gA, 0, none⟩) 3 3]) undef undef undef undef W := by
          intro gA gB gR g W hD
          refine hO _ _ _ _ _ _ _ _ _ _ ?_
          have hHeld := HSb.out W hD.bel
          refine wpAnyH_ready (rs := [9]) (by kernel_rfl) (by simp) ?_
          refine (AllReadyH.cons rfl (fun K hK => ?_) AllReadyH.nil)
          go_simp
          refine hK.out _ _ (HSb.out _ (Dg.mkB hD rfl).bel) (fun hHeld => ?_)
          clear hK K
          exact hF _ #[true, true, true, true, true, true, true, true, true, true, false, false, false, true, false] _ _ _ _ _ _ _ _ _ (by rfl) (H2101 gA W.heap.size gR g _ (Dg.mkB hD rfl))
        have H2000 : ∀ gA gB gR g W, Dg W2 true false false false gA gB gR g W → F 6 #[true, true, true, true, true, true, true, true, true, false, false, false, false, false, false] undef (.slice (some ⟨gA, 0, none⟩) 3 3) (.agg #[.bool false, .slice (some ⟨gA, 0, none⟩) 3 3]) undef undef undef undef W := by
          intro gA gB gR g W hD
          refine hO _ _ _ _ _ _ _ _ _ _ ?_
          have hHeld := HSb.out W hD.bel
          refine wpAnyH_ready (rs := [9, 13]) (by kernel_rfl) (by simp) ?_
          refine (AllReadyH.cons rfl (fun K hK => ?_) (AllReadyH.cons rfl (fun K hK => ?_) AllReadyH.nil))
          · go_simp
            refine hK.out _ _ (HSb.out _ (Dg.mkB hD rfl).bel) (fun hHeld => ?_)
            clear hK K
            exact hF _ #[true, true, true, true, true, true, true, true, true, true, false, false, false, false, false] _ _ _ _ _ _ _ _ _ (by rfl) (H2100 gA W.heap.size gR g _ (Dg.mkB hD rfl))
          · go_simp
            refine hK.out _ _ (HSb.out _ (Dg.mkC hD).bel) (fun hHeld => ?_)
            clear hK K
            exact hF _ #[true, true, true, true, true, true, true, true, true, false, false, false, false, true, false] _ _ _ _ _ _ _ _ _ (by rfl) (H2001 gA gB gR W.heap.size _ (Dg.mkC hD))
        have H1001 : ∀ gA gB gR g W, Dg W2 true false false true gA gB gR g W → F 6 #[true, true, true, true, false, true, true, true, true, false, false, false, false, true, false] (.pointer (some ⟨g, 0, none⟩)) (.slice (some ⟨gA, 0, none⟩) 3 3) undef undef undef undef undef W := by
          intro gA gB gR g W hD
          refine hO _ _ _ _ _ _ _ _ _ _ ?_
          have hHeld := HSb.out W hD.bel
          refine wpAnyH_ready (rs := [4, 9]) (by kernel_rfl) (by simp) ?_
          refine (AllReadyH.cons rfl (fun K hK => ?_) (AllReadyH.cons rfl (fun K hK => ?_) AllReadyH.nil))
          · go_simp
            go_at_call 28
            refine (lplain_any _ _ _ _).mono ?_
            rintro e wd ⟨rfl, hbd⟩
            have hD2 := hD.to hbd
            clear hD hHeld hbd
            go_wp2_with fail
            refine hK.out _ _ (HSb.out _ hD2.bel) (fun hHeld => ?_)
            clear hK K
            exact hF _ #[true, true, true, true, true, true, true, true, true, false, false, false, false, true, false] _ _ _ _ _ _ _ _ _ (by rfl) (H2001 gA gB gR g _ hD2)
          · go_simp
            refine hK.out _ _ (HSb.out _ (Dg.mkB hD rfl).bel) (fun hHeld => ?_)
            clear hK K
            exact hF _ #[true, true, true, true, false, true, true, true, true, true, false, false, false, true, false] _ _ _ _ _ _ _ _ _ (by rfl) (H1101 gA W.heap.size gR g _ (Dg.mkB hD rfl))
        have H1000 : ∀ gA gB gR g W, Dg W2 true false false false gA gB gR g W → F 7 #[true, true, true, true, false, true, true, true, true, false, false, false, false, false, false] undef (.slice (some ⟨gA, 0, none⟩) 3 3) undef undef undef undef undef W := by
          intro gA gB gR g W hD
          refine hO _ _ _ _ _ _ _ _ _ _ ?_
          have hHeld := HSb.out W hD.bel
          refine wpAnyH_ready (rs := [4, 9, 13]) (by kernel_rfl) (by simp) ?_
          refine (AllReadyH.cons rfl (fun K hK => ?_) (AllReadyH.cons rfl (fun K hK => ?_) (AllReadyH.cons rfl (fun K hK => ?_) AllReadyH.nil)))
          · go_simp
            go_at_call 28
            refine (lplain_any _ _ _ _).mono ?_
            rintro e wd ⟨rfl, hbd⟩
            have hD2 := hD.to hbd
            clear hD hHeld hbd
            go_wp2_with fail
            refine hK.out _ _ (HSb.out _ hD2.bel) (fun hHeld => ?_)
            clear hK K
            exact hF _ #[true, true, true, true, true, true, true, true, true, false, false, false, false, false, false] _ _ _ _ _ _ _ _ _ (by rfl) (H2000 gA gB gR g _ hD2)
          · go_simp
            refine hK.out _ _ (HSb.out _ (Dg.mkB hD rfl).bel) (fun hHeld => ?_)
            clear hK K
            exact hF _ #[true, true, true, true, false, true, true, true, true, true, false, false, false, false, false] _ _ _ _ _ _ _ _ _ (by rfl) (H1100 gA W.heap.size gR g _ (Dg.mkB hD rfl))
          · go_simp
            refine hK.out _ _ (HSb.out _ (Dg.mkC hD).bel) (fun hHeld => ?_)
            clear hK K
            exact hF _ #[true, true, true, true, false, true, true, true, true, false, false, false, false, true, false] _ _ _ _ _ _ _ _ _ (by rfl) (H1001 gA gB gR W.heap.size _ (Dg.mkC hD))
        have H0001 : ∀ gA gB gR g W, Dg W2 false false false true gA gB gR g W → F 7 #[true, true, true, false, false, true, true, true, true, false, false, false, false, true, false] (.pointer (some ⟨g, 0, none⟩)) undef undef undef undef undef undef W := by
          intro gA gB gR g W hD
          refine hO _ _ _ _ _ _ _ _ _ _ ?_
          have hHeld := HSb.out W hD.bel
          refine wpAnyH_ready (rs := [3, 9]) (by kernel_rfl) (by simp) ?_
          refine (AllReadyH.cons rfl (fun K hK => ?_) (AllReadyH.cons rfl (fun K hK => ?_) AllReadyH.nil))
          · go_simp
            refine hK.out _ _ (HSb.out _ (Dg.mkA hD rfl).bel) (fun hHeld => ?_)
            clear hK K
            exact hF _ #[true, true, true, true, false, true, true, true, true, false, false, false, false, true, false] _ _ _ _ _ _ _ _ _ (by rfl) (H1001 W.heap.size gB gR g _ (Dg.mkA hD rfl))
          · go_simp
            refine hK.out _ _ (HSb.out _ (Dg.mkB hD rfl).bel) (fun hHeld => ?_)
            clear hK K
            exact hF _ #[true, true, true, false, false, true, true, true, true, true, false, false, false, true, false] _ _ _ _ _ _ _ _ _ (by rfl) (H0101 gA W.heap.size gR g _ (Dg.mkB hD rfl))
        have H0000 : ∀ gA gB gR g W, Dg W2 false false false false gA gB gR g W → F 8 #[true, true, true, false, false, true, true, true, true, false, false, false, false, false, false] undef undef undef undef undef undef undef W := by
          intro gA gB gR g W hD
          refine hO _ _ _ _ _ _ _ _ _ _ ?_
          have hHeld := HSb.out W hD.bel
          refine wpAnyH_ready (rs := [3, 9, 13]) (by kernel_rfl) (by simp) ?_
          refine (AllReadyH.cons rfl (fun K hK => ?_) (AllReadyH.cons rfl (fun K hK => ?_) (AllReadyH.cons rfl (fun K hK => ?_) AllReadyH.nil)))
          · go_simp
            refine hK.out _ _ (HSb.out _ (Dg.mkA hD rfl).bel) (fun hHeld => ?_)
            clear hK K
            exact hF _ #[true, true, true, true, false, true, true, true, true, false, false, false, false, false, false] _ _ _ _ _ _ _ _ _ (by rfl) (H1000 W.heap.size gB gR g _ (Dg.mkA hD rfl))
          · go_simp
            refine hK.out _ _ (HSb.out _ (Dg.mkB hD rfl).bel) (fun hHeld => ?_)
            clear hK K
            exact hF _ #[true, true, true, false, false, true, true, true, true, true, false, false, false, false, false] _ _ _ _ _ _ _ _ _ (by rfl) (H0100 gA W.heap.size gR g _ (Dg.mkB hD rfl))
          · go_simp
            refine hK.out _ _ (HSb.out _ (Dg.mkC hD).bel) (fun hHeld => ?_)
            clear hK K
            exact hF _ #[true, true, true, false, false, true, true, true, true, false, false, false, false, true, false] _ _ _ _ _ _ _ _ _ (by rfl) (H0001 gA gB gR W.heap.size _ (Dg.mkC hD))
        exact H0000 0 0 0 0 _ (Dg.start W2)
      case rest =>
        obtain ⟨gb, c2, A2, rfl, HY⟩ := hcut
        have HS := Lib.hid (show NaS A2 c2 gb w [] wc from ⟨HY.out, fun x hx => by cases hx⟩)
        clear HY HF2 HSb HBd HBe HBf HBg HBh HBk HBa k0 k1 k2 k3
        have c0 := HS.out.ff.cb0
        have c1 := HS.out.ff.cb1
        have HC := Lib.hid (y_run HS.out)
        go_wp2_with fail
        refine HC.out.mono ?_
        rintro e v0 ⟨v, rfl, ho, hb⟩
        obtain ⟨a0, k0', rfl⟩ := pxJ_is (n := 5) ho rfl
        have HT := Lib.hid (((HS.out.to (al_t' _ _)).to hb).add (pxJ_lies ho))
        clear ho hb HC HS c0 c1
        have HS := HT
        clear HT
        have c0 := HS.out.ff.cb0
        have c1 := HS.out.ff.cb1
        have HC := Lib.hid (y_ends0 HS.out)
        go_wp2_with fail
        refine HC.out.mono ?_
        rintro e v1 ⟨v, rfl, ho, hb⟩
        obtain ⟨a1, k1', rfl⟩ := pxJ_is (n := 1) ho rfl
        have HT := Lib.hid ((HS.out.to hb).add (pxJ_lies ho))
        clear ho hb HC HS c0 c1
        have HS := HT
        clear HT
        have c0 := HS.out.ff.cb0
        have c1 := HS.out.ff.cb1
        have HC := Lib.hid (y_ends1 HS.out)
        go_wp2_with fail
        refine HC.out.mono ?_
        rintro e v2 ⟨v, rfl, ho, hb⟩
        obtain ⟨a2, k2', rfl⟩ := pxJ_is (n := 1) ho rfl
        have HT := Lib.hid ((HS.out.to hb).add (pxJ_lies ho))
        clear ho hb HC HS c0 c1
        have HS := HT
        clear HT
        have c0 := HS.out.ff.cb0
        have c1 := HS.out.ff.cb1
        have HC := Lib.hid (y_dep7 HS.out)
        go_wp2_with fail
        refine HC.out.mono ?_
        rintro e v3 ⟨rfl, hb⟩
        have HT := Lib.hid (HS.out.to hb)
        clear hb HC HS c0 c1
        have HS := HT
        clear HT
        have c0 := HS.out.ff.cb0
        have c1 := HS.out.ff.cb1
        have HC := Lib.hid (y_dep6 HS.out)
        go_wp2_with fail
        refine HC.out.mono ?_
        rintro e v4 ⟨rfl, hb⟩
        have HT := Lib.hid (HS.out.to hb)
        clear hb HC HS c0 c1
        have HS := HT
        clear HT
        have c0 := HS.out.ff.cb0
        have c1 := HS.out.ff.cb1
        have HC := Lib.hid (y_safe HS.out)
        go_wp2_with fail
        refine HC.out.mono ?_
        rintro e v5 ⟨v, rfl, ho, hb⟩
        obtain ⟨a5, k5', rfl⟩ := pxJ_is (n := 1) ho rfl
        have HT := Lib.hid ((HS.out.to hb).add (pxJ_lies ho))
        clear ho hb HC HS c0 c1
        have HS := HT
        clear HT
        have c0 := HS.out.ff.cb0
        have c1 := HS.out.ff.cb1
        have HC := Lib.hid (y_dep5 HS.out)
        go_wp2_with fail
        refine HC.out.mono ?_
        rintro e v6 ⟨rfl, hb⟩
        have HT := Lib.hid (HS.out.to hb)
        clear hb HC HS c0 c1
        have HS := HT
        clear HT
        have c0 := HS.out.ff.cb0
        have c1 := HS.out.ff.cb1
        have HC := Lib.hid (y_hang HS.out)
        go_wp2_with fail
        refine HC.out.mono ?_
        rintro e v7 ⟨v, rfl, ho, hb⟩
        obtain ⟨a7, k7', rfl⟩ := pxJ_is (n := 0) ho rfl
        have HT := Lib.hid ((HS.out.to hb).add (pxJ_lies ho))
        clear ho hb HC HS c0 c1
        have HS := HT
        clear HT
        have c0 := HS.out.ff.cb0
        have c1 := HS.out.ff.cb1
        have HC := Lib.hid (y_endsm HS.out)
        go_wp2_with fail
        refine HC.out.mono ?_
        rintro e v8 ⟨v, rfl, ho, hb⟩
        obtain ⟨a8, k8', rfl⟩ := pxJ_is (n := 0) ho rfl
        have HT := Lib.hid ((HS.out.to hb).add (pxJ_lies ho))
        clear ho hb HC HS c0 c1
        have HS := HT
        clear HT
        have HC := Lib.hid (z_safe v8)
        go_wp2_with fail
        refine HC.out.mono ?_
        rintro e v9 ⟨v, rfl, ho, hb⟩
        obtain ⟨a9, k9', rfl⟩ := pxJ_is (n := 0) ho rfl
        have HT := Lib.hid ((HS.out.to hb).add (pxJ_lies ho))
        clear ho hb HC HS
        have HS := HT
        clear HT
        have HC := Lib.hid (z_run v9)
        go_wp2_with fail
        refine HC.out.mono ?_
        rintro e v10 ⟨v, rfl, ho, hb⟩
        obtain ⟨a10, k10', rfl⟩ := pxJ_is (n := 2) ho rfl
        have HT := Lib.hid (((HS.out.to (al_t' _ _)).to hb).add (pxJ_lies ho))
        clear ho hb HC HS
        have HS := HT
        clear HT
        go_wp2_with fail
        refine (alive_any _).mono ?_
        rintro e x0 ⟨rfl, hb⟩
        have HT := Lib.hid (HS.out.to hb)
        clear hb HS
        have HS := HT
        clear HT
        go_wp2_with fail
        refine (al_same (HS.out.ls (a0, [4, 5, 6, 7, 8]) (by simp)) rfl rfl (by simp) #[.int .i64 4, .int .i64 5, .int .i64 6, .int .i64 7, .int .i64 8] rfl).mono ?_
        rintro e y0 ⟨rfl, hb⟩
        have HT := Lib.hid ((HS.out.to (al_t' _ _)).to hb)
        clear hb HS
        have HS := HT
        clear HT
        go_wp2_with fail
        refine (al_same (HS.out.ls (a1, [3]) (by simp)) rfl rfl (by simp) #[.int .i64 3] rfl).mono ?_
        rintro e y1 ⟨rfl, hb⟩
        have HT := Lib.hid ((HS.out.to (al_t' _ _)).to hb)
        clear hb HS
        have HS := HT
        clear HT
        go_wp2_with fail
        refine (al_same (HS.out.ls (a2, [6]) (by simp)) rfl rfl (by simp) #[.int .i64 6] rfl).mono ?_
        rintro e y2 ⟨rfl, hb⟩
        have HT := Lib.hid ((HS.out.to (al_t' _ _)).to hb)
        clear hb HS
        have HS := HT
        clear HT
        go_wp2_with fail
        refine (al_same (HS.out.ls (a5, [7]) (by simp)) rfl rfl (by simp) #[.int .i64 7] rfl).mono ?_
        rintro e y3 ⟨rfl, hb⟩
        have HT := Lib.hid ((HS.out.to (al_t' _ _)).to hb)
        clear hb HS
        have HS := HT
        clear HT
        go_wp2_with fail
        refine (al_same (HS.out.ls (a10, [0, 1]) (by simp)) rfl rfl (by simp) #[.int .i64 0, .int .i64 1] rfl).mono ?_
        rintro e y4 ⟨rfl, hb⟩
        have HT := Lib.hid ((HS.out.to (al_t' _ _)).to hb)
        clear hb HS
        have HS := HT
        clear HT
        go_wp2
        go_ret
        exact ⟨rfl, HS.out.ff.bel⟩
end Go.Proofs.Ytbibndpkcilblaa
