/- TransferNames, walked. -/
import Derived.Test.YtflpikickbellaaKG15
namespace Go.Proofs.Ytflpikickbellaa
open Go.RowKit Go.Shelf Go.Sort
set_option maxRecDepth 100000

theorem nm_chk (t : List Int) (f : List (Int × Int)) (e : Int) (he : sftE ⟨t, f⟩ = e) (h1 : t.length ≤ 100) (h2 : f.length ≤ 100) (A F : Option Addr) (c fc : Nat) (W : World) (h : SfAt A F ⟨t, f⟩ W) :
    Calls Try.prog 15 #[.agg #[.slice A t.length c, .slice F f.length fc]] W fun r w' => r = .returned (.int .i64 e) ∧ Below W.heap.size W w' := by
  have := pchk_any A F c fc ⟨t, f⟩ (show t.length ≤ _ by omega) (show f.length ≤ _ by omega) W h
  rw [he] at this
  exact this
theorem nm_ord (t : List Int) (f : List (Int × Int)) (l : List Int) (e : Int) (he : ordE ⟨t, f⟩ = (l, e)) (h1 : t.length ≤ 100) (h2 : f.length ≤ 100) (A F : Option Addr) (c fc : Nat) (W : World) (h : SfAt A F ⟨t, f⟩ W) :
    Calls Try.prog 9 #[.agg #[.slice A t.length c, .slice F f.length fc]] W fun r w' => ∃ a k, r = .returned (.tuple #[.slice a l.length k, .int .i64 e]) ∧ SlI w' w'.heap.size a l ∧ Below W.heap.size W w' := by
  have := porder_any A F c fc ⟨t, f⟩ (show t.length ≤ _ by omega) (show f.length ≤ _ by omega) W h
  rw [he] at this
  exact this
theorem nm_pln (t : List Int) (f : List (Int × Int)) (l : List Ins) (e : Int) (he : plE ⟨t, f⟩ = (l, e)) (h1 : t.length ≤ 100) (h2 : f.length ≤ 100) (A F : Option Addr) (c fc : Nat) (W : World) (h : SfAt A F ⟨t, f⟩ W) :
    Calls Try.prog 11 #[.agg #[.slice A t.length c, .slice F f.length fc]] W fun r w' => ∃ a k, r = .returned (.tuple #[.slice a l.length k, .int .i64 e]) ∧ SlX w' w'.heap.size a l ∧ Below W.heap.size W w' := by
  have := pplan_any A F c fc ⟨t, f⟩ (show t.length ≤ _ by omega) (show f.length ≤ _ by omega) W h
  rw [he] at this
  exact this
theorem nm_hld (t : List Int) (f : List (Int × Int)) (l : List (Nat × List Int)) (e : Int) (he : hldE ⟨t, f⟩ = (l, e)) (h1 : t.length ≤ 100) (h2 : f.length ≤ 100) (A F : Option Addr) (c fc : Nat) (W : World) (h : SfAt A F ⟨t, f⟩ W) :
    Calls Try.prog 13 #[.agg #[.slice A t.length c, .slice F f.length fc]] W fun r w' => ∃ a k, r = .returned (.tuple #[.slice a l.length k, .int .i64 e]) ∧ SlHk w' w'.heap.size a (l.map hkOf) ∧ Below W.heap.size W w' := by
  have := pheld_any A F c fc ⟨t, f⟩ (show t.length ≤ _ by omega) (show f.length ≤ _ by omega) W h
  rw [he] at this
  exact this
theorem nm_of (l : List Stc) (n : Nat) (hn : l.length = n) (s : Sft) (e : Int) (ho : ofE l = (s, e)) (hw : ∀ s ∈ l, s.wf) (A : Option Addr) (c : Nat) (W : World) (hs : SlT W W.heap.size A l) :
    Calls Try.prog 21 #[.slice A n c] W fun r w' => ∃ At ct Af cf, r = .returned (.tuple #[.agg #[.slice At s.to_.length ct, .slice Af s.first.length cf], .int .i64 e]) ∧ SfAt At Af s w' ∧ Below W.heap.size W w' := by
  subst hn
  have hc := pof_any A c l hw W hs
  rw [ho] at hc
  refine hc.mono fun e w' hp => ?_
  obtain ⟨At, ct, Af, cf, rfl, p1, p2, p3⟩ := hp
  exact ⟨At, ct, Af, cf, rfl, ⟨p1, p2⟩, p3⟩
theorem kindN_wf {n i : Nat} {kd : Int} (hk : 0 ≤ kd ∧ kd ≤ 255) : ∀ s ∈ kindN n kd i, s.wf := fun s hs => by
  unfold kindN at hs
  rcases List.mem_append.1 hs with h | h
  · rw [(List.mem_replicate.1 h).2]; exact hk
  · rw [(List.mem_replicate.1 h).2]; exact ⟨Int.le_refl _, by decide⟩
def farL : List Stc := (kindN 10 2 9).set 9 ⟨1, false, 0, 0⟩
theorem farL_wf : ∀ s ∈ farL, s.wf := fun s hs => by
  rcases List.mem_or_eq_of_mem_set hs with h | rfl
  · exact kindN_wf ⟨by decide, by decide⟩ s h
  · exact ⟨by decide, by decide⟩
theorem nm_k' : ofE (kindN 41 1 41) = (⟨[], []⟩, 4) := by kernel_rfl
theorem nm_l' : ofE farL = (⟨[], []⟩, 16) := by kernel_rfl
theorem nm_x' : ofE (farL.drop 1) = (⟨[8], []⟩, 0) := by kernel_rfl
theorem kindN_len (n : Nat) (kd : Int) (i : Nat) (h : i ≤ n) : (kindN n kd i).length = n := by unfold kindN; simp; omega
set_option maxHeartbeats 16000000 in
theorem names_walk (w : World) : Calls Try.prog 6 #[] w fun e w' => e = .returned (.bool true) ∧ Below w.heap.size w w' := by
  have HB := Lib.hid (bad_new w)
  go_enter Try.func6, Try.ntmps6
  go_upto_region 2 with fail
  refine abs_world (Q := fun W => Code.wp _ _ _ _ W) (F := fun W => BadA w (w.heap.size + 1 + 1 + 1 + 1 + 1 + 1 + 1 + 1 + 1 + 1) W) _ HB.out ?_
  clear HB
  obtain ⟨bb, hbb⟩ : ∃ bb, bb = w.heap.size + 1 + 1 + 1 + 1 + 1 + 1 + 1 + 1 + 1 + 1 := ⟨_, rfl⟩
  rw [← hbb]
  clear hbb
  intro W1 hB1
  have HB1 := Lib.hid hB1
  clear hB1
  go_wp2
  go_loopw [2] (fun s2 wr => ∃ k : Nat, s2 = .int .i64 (k : Int) ∧ k ≤ 6 ∧ Hid (BadA w bb wr)) (fun s2 _ => 6 - (intOf s2).toNat)
  case atStart => exact ⟨0, rfl, by omega, HB1.out⟩
  case round =>
    obtain ⟨k, rfl, hk, HB⟩ := hrel
    by_cases hlt : k < 6
    case pos =>
      obtain ⟨A, c, F, fc, s, c0, c1, ha, h8, hl1, hl2⟩ := HB.out.row k hlt
      have HC := Lib.hid (pchk_any A F c fc s (by omega) (by omega) wr ha)
      rw [h8] at HC
      clear h8 ha hl1 hl2 HB1
      go_wp2_with ((go_at_call 15; refine HC.out.mono ?_; rintro e w1 ⟨rfl, hb1⟩))
      go_roundw
      case rel => exact ⟨k + 1, by go_num, by omega, HB.out.to hb1⟩
      case measure => simp [intOf]; omega
    case neg =>
      have HL6 := Lib.hid HB.out.lo
      clear HB HB1
      have d6 : decide ((k : Int) < 6) = false := decide_eq_false (by omega)
      have d6' : decide (k < 6) = false := decide_eq_false (by omega)
      obtain ⟨W6, hW6⟩ : ∃ x : World, x = wr := ⟨_, rfl⟩
      rw [← hW6] at HL6 ⊢
      clear hW6 hlt
      obtain ⟨w7, hmk, hs7, hb7⟩ := mk_shift0 W6 41 (by decide)
      have hmk7 : (Instr.makeSlice 22 (.int .i64 41) (.int .i64 41)).run Try.prog W6 = .ok (.slice (some ⟨W6.heap.size, 0, none⟩) 41 41) w7 := hmk
      have HC := Lib.hid (nm_chk (List.replicate 41 0) [] _ nm_a (by decide) (by decide) _ none 41 0 _ hs7)
      have HLb := Lib.hid (HL6.out.trans (hb7.mono HL6.out.size))
      clear hmk hs7 hb7
      go_upto_region 8 with ((go_at_call 15; refine HC.out.mono ?_; rintro e w1 ⟨rfl, hb⟩))
      refine abs_world (Q := fun W => Code.wp _ _ _ _ W) (F := fun W => Below w.heap.size w W) _ (HLb.out.trans (hb.mono HLb.out.size)) ?_
      clear HC HLb hb HL6 hmk7
      intro V7 hV
      have HV7 := Lib.hid hV
      clear hV
      have HC := Lib.hid (nm_chk [8] [] _ nm_b (by decide) (by decide) (some ⟨V7.heap.size, 0, none⟩) none 1 0 _ (lit_shift0 V7 [8] 3))
      have HLb : Hid (Below w.heap.size w (V7.alloc (.cells (intV [8]).toArray 3))) := (HV7.out.trans ((al_t _ _).mono HV7.out.size))
      go_upto_region 9 with ((go_at_call 15; refine HC.out.mono ?_; rintro e w1 ⟨rfl, hb⟩))
      refine abs_world (Q := fun W => Code.wp _ _ _ _ W) (F := fun W => Below w.heap.size w W) _ (HLb.out.trans (hb.mono HLb.out.size)) ?_
      clear HC HLb hb HV7
      intro V8 hV
      have HV8 := Lib.hid hV
      clear hV
      have HC := Lib.hid (nm_ord [1, 0] [(0, 1), (1, 0)] _ _ nm_c (by decide) (by decide) (some ⟨V8.heap.size, 0, none⟩) (some ⟨V8.heap.size + 1, 0, none⟩) 2 2 _ (lit_shift V8 [1, 0] [(0, 1), (1, 0)] 3 63))
      have HLb : Hid (Below w.heap.size w ((V8.alloc (.cells (intV [1, 0]).toArray 3)).alloc (.cells (([(0, 1), (1, 0)] : List (Int × Int)).map prC).flatten.toArray 63))) := ((HV8.out.trans ((al_t _ _).mono HV8.out.size)).trans ((al_t _ _).mono (HV8.out.trans ((al_t _ _).mono HV8.out.size)).size))
      go_upto_region 10 with ((go_at_call 9; refine HC.out.mono ?_; rintro e w1 ⟨a9, k9, rfl, -, hb⟩))
      refine abs_world (Q := fun W => Code.wp _ _ _ _ W) (F := fun W => Below w.heap.size w W) _ (HLb.out.trans (hb.mono HLb.out.size)) ?_
      clear HC HLb hb HV8
      intro V9 hV
      have HV9 := Lib.hid hV
      clear hV
      have HC := Lib.hid (nm_ord [1, 0, 3, 2] [(0, 1), (3, 2)] _ _ nm_d (by decide) (by decide) (some ⟨V9.heap.size, 0, none⟩) (some ⟨V9.heap.size + 1, 0, none⟩) 4 2 _ (lit_shift V9 [1, 0, 3, 2] [(0, 1), (3, 2)] 3 63))
      have HLb : Hid (Below w.heap.size w ((V9.alloc (.cells (intV [1, 0, 3, 2]).toArray 3)).alloc (.cells (([(0, 1), (3, 2)] : List (Int × Int)).map prC).flatten.toArray 63))) := ((HV9.out.trans ((al_t _ _).mono HV9.out.size)).trans ((al_t _ _).mono (HV9.out.trans ((al_t _ _).mono HV9.out.size)).size))
      go_upto_region 11 with ((go_at_call 9; refine HC.out.mono ?_; rintro e w1 ⟨a10, k10, rfl, -, hb⟩))
      refine abs_world (Q := fun W => Code.wp _ _ _ _ W) (F := fun W => Below w.heap.size w W) _ (HLb.out.trans (hb.mono HLb.out.size)) ?_
      clear HC HLb hb HV9
      intro V10 hV
      have HV10 := Lib.hid hV
      clear hV
      have HC := Lib.hid (nm_ord [0, 1] [(0, 1), (1, 0)] _ _ nm_e (by decide) (by decide) (some ⟨V10.heap.size, 0, none⟩) (some ⟨V10.heap.size + 1, 0, none⟩) 2 2 _ (lit_shift V10 [0, 1] [(0, 1), (1, 0)] 3 63))
      have HLb : Hid (Below w.heap.size w ((V10.alloc (.cells (intV [0, 1]).toArray 3)).alloc (.cells (([(0, 1), (1, 0)] : List (Int × Int)).map prC).flatten.toArray 63))) := ((HV10.out.trans ((al_t _ _).mono HV10.out.size)).trans ((al_t _ _).mono (HV10.out.trans ((al_t _ _).mono HV10.out.size)).size))
      go_upto_region 12 with ((go_at_call 9; refine HC.out.mono ?_; rintro e w1 ⟨a11, k11, rfl, -, hb⟩))
      refine abs_world (Q := fun W => Code.wp _ _ _ _ W) (F := fun W => Below w.heap.size w W) _ (HLb.out.trans (hb.mono HLb.out.size)) ?_
      clear HC HLb hb HV10
      intro V11 hV
      have HV11 := Lib.hid hV
      clear hV
      have HC := Lib.hid (nm_pln [0, 0, 0, 0, 0, 0, 0] [] _ _ nm_f (by decide) (by decide) (some ⟨V11.heap.size, 0, none⟩) none 7 0 _ (lit_shift0 V11 [0, 0, 0, 0, 0, 0, 0] 3))
      have HLb : Hid (Below w.heap.size w (V11.alloc (.cells (intV [0, 0, 0, 0, 0, 0, 0]).toArray 3))) := (HV11.out.trans ((al_t _ _).mono HV11.out.size))
      go_upto_region 13 with ((go_at_call 11; refine HC.out.mono ?_; rintro e w1 ⟨a12, k12, rfl, -, hb⟩))
      refine abs_world (Q := fun W => Code.wp _ _ _ _ W) (F := fun W => Below w.heap.size w W) _ (HLb.out.trans (hb.mono HLb.out.size)) ?_
      clear HC HLb hb HV11
      intro V12 hV
      have HV12 := Lib.hid hV
      clear hV
      have HC := Lib.hid (nm_hld [0, 0, 0, 0, 0, 0, 0] [] _ _ nm_g (by decide) (by decide) (some ⟨V12.heap.size, 0, none⟩) none 7 0 _ (lit_shift0 V12 [0, 0, 0, 0, 0, 0, 0] 3))
      have HLb : Hid (Below w.heap.size w (V12.alloc (.cells (intV [0, 0, 0, 0, 0, 0, 0]).toArray 3))) := (HV12.out.trans ((al_t _ _).mono HV12.out.size))
      go_upto_region 14 with ((go_at_call 13; refine HC.out.mono ?_; rintro e w1 ⟨a13, k13, rfl, -, hb⟩))
      refine abs_world (Q := fun W => Code.wp _ _ _ _ W) (F := fun W => Below w.heap.size w W) _ (HLb.out.trans (hb.mono HLb.out.size)) ?_
      clear HC HLb hb HV12
      intro V13 hV
      have HV13 := Lib.hid hV
      clear hV
      have HC := Lib.hid (nm_of [⟨5, false, 2, 0⟩] 1 rfl _ _ nm_h (fun s hs => by rw [List.mem_singleton.1 hs]; exact ⟨by decide, by decide⟩) (some ⟨V13.heap.size, 0, none⟩) 1 _ (lit_cells V13 [⟨5, false, 2, 0⟩] 66))
      have HLb : Hid (Below w.heap.size w (V13.alloc (.cells ((([⟨5, false, 2, 0⟩] : List Stc).map Stc.cells).flatten).toArray 66))) := (HV13.out.trans ((al_t _ _).mono HV13.out.size))
      go_upto_region 15 with ((go_at_call 21; refine HC.out.mono ?_; rintro e w1 ⟨At, ct, Af, cf, rfl, -, hb⟩))
      have hbx := HLb.out.trans (hb.mono HLb.out.size)
      refine abs_world (Q := fun W => Code.wp _ _ _ _ W) (F := fun W => Below w.heap.size w W) _ (hbx.trans ((al_t _ _).mono hbx.size)) ?_
      clear HC HLb hb hbx HV13
      intro V14 hV
      have HV14 := Lib.hid hV
      clear hV
      have HC := Lib.hid (nm_of [⟨9, false, 1, 0⟩] 1 rfl _ _ nm_i (fun s hs => by rw [List.mem_singleton.1 hs]; exact ⟨by decide, by decide⟩) (some ⟨V14.heap.size, 0, none⟩) 1 _ (lit_cells V14 [⟨9, false, 1, 0⟩] 66))
      have HLb : Hid (Below w.heap.size w (V14.alloc (.cells ((([⟨9, false, 1, 0⟩] : List Stc).map Stc.cells).flatten).toArray 66))) := (HV14.out.trans ((al_t _ _).mono HV14.out.size))
      go_upto_region 16 with ((go_at_call 21; refine HC.out.mono ?_; rintro e w1 ⟨At, ct, Af, cf, rfl, -, hb⟩))
      have hbx := HLb.out.trans (hb.mono HLb.out.size)
      refine abs_world (Q := fun W => Code.wp _ _ _ _ W) (F := fun W => Below w.heap.size w W) _ (hbx.trans ((al_t _ _).mono hbx.size)) ?_
      clear HC HLb hb hbx HV14
      intro V15 hV
      have HV15 := Lib.hid hV
      clear hV
      have HC := Lib.hid (nm_of [⟨3, false, 0, 0⟩] 1 rfl _ _ nm_j (fun s hs => by rw [List.mem_singleton.1 hs]; exact ⟨by decide, by decide⟩) (some ⟨V15.heap.size, 0, none⟩) 1 _ (lit_cells V15 [⟨3, false, 0, 0⟩] 66))
      have HLb : Hid (Below w.heap.size w (V15.alloc (.cells ((([⟨3, false, 0, 0⟩] : List Stc).map Stc.cells).flatten).toArray 66))) := (HV15.out.trans ((al_t _ _).mono HV15.out.size))
      go_upto_region 17 with ((go_at_call 21; refine HC.out.mono ?_; rintro e w1 ⟨At, ct, Af, cf, rfl, -, hb⟩))
      have hbx := HLb.out.trans (hb.mono HLb.out.size)
      refine abs_world (Q := fun W => Code.wp _ _ _ _ W) (F := fun W => Below w.heap.size w W) _ (hbx.trans ((al_t _ _).mono hbx.size)) ?_
      clear HC HLb hb hbx HV15
      intro V16 hV
      have HV16 := Lib.hid hV
      clear hV
      obtain ⟨w17, hmk, hf17⟩ := mk_far V16 41 (by decide) far_41
      have hmk2 : (Instr.makeSlice 47 (.int .i64 41) (.int .i64 41)).run Try.prog V16 = .ok (.slice (some ⟨V16.heap.size, 0, none⟩) 41 41) w17 := hmk
      have HF : Hid (FarA V16 V16.heap.size 41 (kindN 41 1 0) w17) := by rw [kindN_zero]; exact hf17
      clear hmk hf17
      go_upto_region 18 with fail
      obtain ⟨lg, hlg⟩ : ∃ x, x = V16.heap.size := ⟨_, rfl⟩
      rw [← hlg] at HF
      refine abs_world (Q := fun W => Code.wp _ _ _ _ W) (F := fun W => FarA V16 lg 41 (kindN 41 1 0) W) _ HF.out ?_
      rw [← hlg]
      clear HF hmk2 hlg
      intro U17 hU
      have HU17 := Lib.hid hU
      clear hU
      go_wp2
      go_loopw [22] (fun sx wr => ∃ k : Nat, sx = .int .i64 (k : Int) ∧ k ≤ 41 ∧ Hid (FarA V16 lg 41 (kindN 41 1 k) wr)) (fun sx _ => 41 - (intOf sx).toNat)
      case atStart => exact ⟨0, rfl, by omega, HU17.out⟩
      case round =>
        obtain ⟨k17, rfl, hk17, HF⟩ := hrel
        by_cases hlt : k17 < 41
        case pos =>
          have dl : decide ((k17 : Int) < 41) = true := decide_eq_true (by omega)
          have dl' : decide (k17 < 41) = true := decide_eq_true hlt
          obtain ⟨f1, f2, hf3⟩ := HF.out.fill (show k17 < 41 by omega)
          have HF3 := Lib.hid hf3
          clear hf3 HF HU17
          go_wp2
          go_roundw
          case rel => exact ⟨k17 + 1, by go_num, by omega, HF3.out⟩
          case measure => simp [intOf]; omega
        case neg =>
          obtain rfl : k17 = 41 := by omega
          have dl : decide ((41 : Int) < 41) = false := by decide
          rw [show (((41 : Nat) : Int)) = 41 from rfl]
          clear HU17 hlt hk17
          obtain ⟨U18, hU18⟩ : ∃ x : World, x = wr := ⟨_, rfl⟩
          rw [← hU18] at HF ⊢
          have HG18 := HF
          clear HF hU18
          have HC := Lib.hid (nm_of (kindN 41 1 41) 41 (kindN_len _ _ _ (by decide)) _ _ nm_k' (kindN_wf ⟨by decide, by decide⟩) (some ⟨lg, 0, none⟩) 41 _ HG18.out.sl)
          have HLb := Lib.hid (HV16.out.trans (HG18.out.lo.mono HV16.out.size))
          go_upto_region 23 with ((go_at_call 21; refine HC.out.mono ?_; rintro e w1 ⟨At, ct, Af, cf, rfl, -, hb⟩))
          have hbx := HLb.out.trans (hb.mono HLb.out.size)
          refine abs_world (Q := fun W => Code.wp _ _ _ _ W) (F := fun W => Below w.heap.size w W) _ (hbx.trans ((al_t _ _).mono hbx.size)) ?_
          clear HC HLb hb hbx HG18 HV16
          intro V22 hV
          have HV22 := Lib.hid hV
          clear hV
          obtain ⟨w23, hmk, hf23⟩ := mk_far V22 10 (by decide) far_10
          have hmk2 : (Instr.makeSlice 47 (.int .i64 10) (.int .i64 10)).run Try.prog V22 = .ok (.slice (some ⟨V22.heap.size, 0, none⟩) 10 10) w23 := hmk
          have HF : Hid (FarA V22 V22.heap.size 10 (kindN 10 2 0) w23) := by rw [kindN_zero]; exact hf23
          clear hmk hf23
          go_upto_region 24 with fail
          obtain ⟨fa, hfa⟩ : ∃ x, x = V22.heap.size := ⟨_, rfl⟩
          rw [← hfa] at HF
          refine abs_world (Q := fun W => Code.wp _ _ _ _ W) (F := fun W => FarA V22 fa 10 (kindN 10 2 0) W) _ HF.out ?_
          rw [← hfa]
          clear HF hmk2 hfa
          intro U23 hU
          have HU23 := Lib.hid hU
          clear hU
          go_wp2
          go_loopw [26] (fun sx wr => ∃ k : Nat, sx = .int .i64 (k : Int) ∧ k ≤ 9 ∧ Hid (FarA V22 fa 10 (kindN 10 2 k) wr)) (fun sx _ => 9 - (intOf sx).toNat)
          case atStart => exact ⟨0, rfl, by omega, HU23.out⟩
          case round =>
            obtain ⟨k23, rfl, hk23, HF⟩ := hrel
            by_cases hlt : k23 < 9
            case pos =>
              have dl : decide ((k23 : Int) < 9) = true := decide_eq_true (by omega)
              have dl' : decide (k23 < 9) = true := decide_eq_true hlt
              obtain ⟨f1, f2, hf3⟩ := HF.out.fill (show k23 < 10 by omega)
              have HF3 := Lib.hid hf3
              clear hf3 HF HU23
              go_wp2
              go_roundw
              case rel => exact ⟨k23 + 1, by go_num, by omega, HF3.out⟩
              case measure => simp [intOf]; omega
            case neg =>
              obtain rfl : k23 = 9 := by omega
              have dl : decide ((9 : Int) < 9) = false := by decide
              rw [show (((9 : Nat) : Int)) = 9 from rfl]
              clear HU23 hlt hk23
              obtain ⟨U24, hU24⟩ : ∃ x : World, x = wr := ⟨_, rfl⟩
              rw [← hU24] at HF ⊢
              have HG24 := HF
              clear HF hU24
              obtain ⟨f1, f2, hf3⟩ := HG24.out.put (i := 9) (s := ⟨0, false, 0, 0⟩) (by rfl) 1
              have f1' : U24.cell? ⟨fa, 36, none⟩ = some (.int .u8 0) := f1
              have f2' : U24.frozen? ⟨fa, 36, none⟩ = false := f2
              have HF3 : Hid (FarA V22 fa 10 farL (U24.setCell ⟨fa, 36, none⟩ (.int .u8 1))) := hf3
              clear f1 f2 hf3 HG24
              go_upto_region 29 with fail
              refine abs_world (Q := fun W => Code.wp _ _ _ _ W) (F := fun W => FarA V22 fa 10 farL W) _ HF3.out ?_
              clear HF3 f1' f2'
              intro U28 hU
              have HU28 := Lib.hid hU
              clear hU
              have HC := Lib.hid (nm_of farL 10 rfl _ _ nm_l' farL_wf (some ⟨fa, 0, none⟩) 10 _ HU28.out.sl)
              go_upto_region 30 with ((go_at_call 21; refine HC.out.mono ?_; rintro e w1 ⟨At9, ct9, Af9, cf9, rfl, -, hb⟩))
              have hbx := hb.trans ((al_t w1 (.cells #[.slice At9 0 ct9, .slice Af9 0 cf9] 25)).mono hb.size)
              refine abs_world (Q := fun W => Code.wp _ _ _ _ W) (F := fun W => FarA V22 fa 10 farL W) _ (HU28.out.to hbx) ?_
              clear HC hb hbx HU28
              intro U29 hU
              have HU29 := Lib.hid hU
              clear hU
              have hdr : SlT U29 U29.heap.size (some ⟨fa, 4, none⟩) (farL.drop 1) := by
                have h := SlS.drop HU29.out.sl 1
                unfold SlT
                rw [List.map_drop]
                exact h
              have HC := Lib.hid (nm_of (farL.drop 1) 9 rfl _ _ nm_x' (fun s hs => farL_wf s (List.mem_of_mem_drop hs)) (some ⟨fa, 4, none⟩) 9 _ hdr)
              have HLb := Lib.hid (HV22.out.trans (HU29.out.lo.mono HV22.out.size))
              clear hdr
              go_upto_region 31 with ((go_at_call 21; refine HC.out.mono ?_; rintro e w1 ⟨Ax, cx, Afx, cfx, rfl, hsx, hb⟩))
              have hbx := HLb.out.trans (hb.mono HLb.out.size)
              have HX : Hid (Below w.heap.size w (w1.alloc (sftB Ax Afx cx cfx ⟨[8], []⟩)) ∧ SfBx w1.heap.size Ax Afx cx cfx ⟨[8], []⟩ (w1.alloc (sftB Ax Afx cx cfx ⟨[8], []⟩))) := ⟨hbx.trans ((al_t _ _).mono hbx.size), SfBx.new cx cfx hsx⟩
              obtain ⟨xb, hxb⟩ : ∃ x, x = w1.heap.size := ⟨_, rfl⟩
              rw [← hxb] at HX
              refine abs_world (Q := fun W => Code.wp _ _ _ _ W) (F := fun W => Below w.heap.size w W ∧ SfBx xb Ax Afx cx cfx ⟨[8], []⟩ W) _ HX.out ?_
              rw [← hxb]
              clear HX hxb hbx hb hsx HLb HC HU29 HV22
              rintro V30 ⟨hV, hx⟩
              have HV30 := Lib.hid hV
              have HX30 := Lib.hid hx
              clear hV hx
              have HC := Lib.hid (nm_hld [1, 1, 1] [(2, 1)] _ _ nm_n (by decide) (by decide) (some ⟨V30.heap.size, 0, none⟩) (some ⟨V30.heap.size + 1, 0, none⟩) 3 1 _ (lit_shift V30 [1, 1, 1] [(2, 1)] 3 63))
              have HLb : Hid (Below w.heap.size w ((V30.alloc (.cells (intV [1, 1, 1]).toArray 3)).alloc (.cells (([(2, 1)] : List (Int × Int)).map prC).flatten.toArray 63))) := ((HV30.out.trans ((al_t _ _).mono HV30.out.size)).trans ((al_t _ _).mono (HV30.out.trans ((al_t _ _).mono HV30.out.size)).size))

              have HLc : Hid (Below V30.heap.size V30 ((V30.alloc (.cells (intV [1, 1, 1]).toArray 3)).alloc (.cells (([(2, 1)] : List (Int × Int)).map prC).flatten.toArray 63))) := (al_t _ _).trans ((al_t _ _).mono (al_t _ _).size)
              go_upto_region 32 with ((go_at_call 13; refine HC.out.mono ?_; rintro e w1 ⟨ay, ky, rfl, hy, hb⟩))
              have hbx := HLc.out.trans (hb.mono HLc.out.size)
              refine abs_world (Q := fun W => Code.wp _ _ _ _ W) (F := fun W => (Below w.heap.size w W ∧ SfBx xb Ax Afx cx cfx ⟨[8], []⟩ W) ∧ SlHk W W.heap.size ay ([(1, [2, 1, 0])].map hkOf)) _ ⟨⟨HLb.out.trans (hb.mono HLb.out.size), HX30.out.to hbx⟩, hy⟩ ?_
              clear HC HLb HLc hb hbx hy HX30 HV30
              rintro V31 ⟨⟨hV, hx⟩, hy⟩
              have HV31 := Lib.hid hV
              have HX31 := Lib.hid hx
              have HY31 := Lib.hid hy
              clear hV hx hy
              have HC := Lib.hid (nm_ord [2, 0, 1] [(0, 1), (0, 2)] _ _ nm_o (by decide) (by decide) (some ⟨V31.heap.size, 0, none⟩) (some ⟨V31.heap.size + 1, 0, none⟩) 3 2 _ (lit_shift V31 [2, 0, 1] [(0, 1), (0, 2)] 3 63))
              have HLb : Hid (Below w.heap.size w ((V31.alloc (.cells (intV [2, 0, 1]).toArray 3)).alloc (.cells (([(0, 1), (0, 2)] : List (Int × Int)).map prC).flatten.toArray 63))) := ((HV31.out.trans ((al_t _ _).mono HV31.out.size)).trans ((al_t _ _).mono (HV31.out.trans ((al_t _ _).mono HV31.out.size)).size))

              have HLc : Hid (Below V31.heap.size V31 ((V31.alloc (.cells (intV [2, 0, 1]).toArray 3)).alloc (.cells (([(0, 1), (0, 2)] : List (Int × Int)).map prC).flatten.toArray 63))) := (al_t _ _).trans ((al_t _ _).mono (al_t _ _).size)
              have HCz : Hid (Calls Try.prog 9 _ _ fun r w' => ∃ a k, r = .returned (.tuple #[.slice a 3 k, .int .i64 0]) ∧ SlI w' w'.heap.size a [0, 1, 2] ∧ Below _ _ w') := HC.out
              go_upto_region 33 with ((go_at_call 9; refine HC.out.mono ?_; rintro e w1 ⟨az, kz, rfl, hz, hb⟩))
              have hbx := HLc.out.trans (hb.mono HLc.out.size)
              refine abs_world (Q := fun W => Code.wp _ _ _ _ W) (F := fun W => ((Below w.heap.size w W ∧ SfBx xb Ax Afx cx cfx ⟨[8], []⟩ W) ∧ SlHk W W.heap.size ay ([(1, [2, 1, 0])].map hkOf)) ∧ SlI W W.heap.size az [0, 1, 2]) _ ⟨⟨⟨HLb.out.trans (hb.mono HLb.out.size), HX31.out.to hbx⟩, (HY31.out.below hbx).more hbx.size⟩, hz⟩ ?_
              clear HC HCz HLb HLc hb hbx hz HX31 HV31 HY31
              rintro V32 ⟨⟨⟨hV, hx⟩, hy⟩, hz⟩
              have HV32 := Lib.hid hV
              have HX32 := Lib.hid hx
              have HY32 := Lib.hid hy
              have HZ32 := Lib.hid hz
              clear hV hx hy hz
              have HC := Lib.hid (nm_pln [0, 1] [] _ _ nm_p (by decide) (by decide) (some ⟨V32.heap.size, 0, none⟩) none 2 0 _ (lit_shift0 V32 [0, 1] 3))
              have HLb : Hid (Below w.heap.size w (V32.alloc (.cells (intV [0, 1]).toArray 3))) := (HV32.out.trans ((al_t _ _).mono HV32.out.size))

              have HLc : Hid (Below V32.heap.size V32 (V32.alloc (.cells (intV [0, 1]).toArray 3))) := al_t _ _
              have HAl := Lib.hid (fun W => alive32_any W)
              go_upto_region 34 with ((go_at_call 11; refine HC.out.mono ?_; rintro e w1 ⟨an, kn, rfl, -, hb⟩))
              have hbx := HLc.out.trans (hb.mono HLc.out.size)
              refine abs_world (Q := fun W => Code.wp _ _ _ _ W) (F := fun W => ((Below w.heap.size w W ∧ SfBx xb Ax Afx cx cfx ⟨[8], []⟩ W) ∧ SlHk W W.heap.size ay ([(1, [2, 1, 0])].map hkOf)) ∧ SlI W W.heap.size az [0, 1, 2]) _ ⟨⟨⟨HLb.out.trans (hb.mono HLb.out.size), HX32.out.to hbx⟩, (HY32.out.below hbx).more hbx.size⟩, (HZ32.out.below hbx).more hbx.size⟩ ?_
              clear HC HLb HLc hb hbx HX32 HV32 HY32 HZ32
              rintro V33 ⟨⟨⟨hV, hx⟩, hy⟩, hz⟩
              have HV33 := Lib.hid hV
              have HX33 := Lib.hid hx
              have HY33 := Lib.hid hy
              have HZ33 := Lib.hid hz
              clear hV hx hy hz
              go_upto_region 35 with ((go_at_call 26; refine (HAl.out V33).mono ?_; rintro e w1 ⟨rfl, hb⟩))
              refine abs_world (Q := fun W => Code.wp _ _ _ _ W) (F := fun W => ((Below w.heap.size w W ∧ SfBx xb Ax Afx cx cfx ⟨[8], []⟩ W) ∧ SlHk W W.heap.size ay ([(1, [2, 1, 0])].map hkOf)) ∧ SlI W W.heap.size az [0, 1, 2]) _ ⟨⟨⟨HV33.out.trans (hb.mono HV33.out.size), HX33.out.to hb⟩, (HY33.out.below hb).more hb.size⟩, (HZ33.out.below hb).more hb.size⟩ ?_
              clear HAl hb HX33 HV33 HY33 HZ33
              rintro W ⟨⟨⟨hV, hx⟩, hy⟩, hz⟩
              obtain ⟨yb, yo, rfl, -, hyc⟩ := hy (by simp)
              obtain ⟨Al, Cl, -, -, y2, -, hyl⟩ := hyc 0 _ rfl
              have x0 := hx.c0
              have x0' : W.cell? ⟨xb, 0, none⟩ = some (.slice Ax 1 cx) := x0
              have y2' : W.cell? ⟨yb, yo + 2, none⟩ = some (.slice Al 3 Cl) := by rw [show yo + 2 = yo + 0 * 3 + 2 by omega]; exact y2
              have HV := Lib.hid hV
              have HX := Lib.hid hx.at_.tz
              have HY := Lib.hid (show SlI W W.heap.size Al [2, 1, 0] from hyl)
              have HZ := Lib.hid hz
              have HY1 := Lib.hid (fun W' (h : Below W.heap.size W W') => (bcell h (lt_of_cell y2') _).trans y2')
              clear hV hx hyc y2 hyl hz x0
              have sI : ∀ (l : List Int) (A : Option Addr) (c : Nat) (V : World) (t : TypeId), l.length ≤ 4 → Below W.heap.size W V → SlI V V.heap.size A l → Calls Try.prog 17 #[.slice A l.length c, .slice (some ⟨V.heap.size, 0, none⟩) l.length l.length] (V.alloc (.cells (intV l).toArray t)) fun e w' => e = .returned (.bool true) ∧ Below W.heap.size W w' := fun l A c V t hl hb h =>
                (sameI_any A (some ⟨V.heap.size, 0, none⟩) c l.length l _ ((h.below (al_t _ _)).more (al_t _ _).size) (sl_lit l rfl rfl) (by omega)).mono fun e w' ⟨h1, m, h2⟩ => ⟨h1, by rw [h2]; exact below_drewT (hb.trans ((al_t _ _).mono hb.size)) _⟩
              have HSI := Lib.hid sI
              clear sI
              go_wp2_with (first
                | (go_at_call_of 17 (Value.slice Ax 1 cx); refine (HSI.out [8] Ax cx _ _ (by decide) (Below.refl _ _) HX.out).mono ?_; rintro e w7 ⟨rfl, hb7⟩; have z1 := HY1.out w7 hb7)
                | (go_at_call_of 17 (Value.slice Al 3 Cl); refine (HSI.out [2, 1, 0] Al Cl w7 _ (by decide) hb7 ((HY.out.below hb7).more hb7.size)).mono ?_; rintro e w8 ⟨rfl, hb8⟩)
                | (go_at_call_of 17 (Value.slice az 3 kz); refine (HSI.out [0, 1, 2] az kz w8 _ (by decide) hb8 ((HZ.out.below hb8).more hb8.size)).mono ?_; rintro e w9 ⟨rfl, hb9⟩))
              go_ret
              exact ⟨rfl, HV.out.trans (hb9.mono HV.out.size)⟩
end Go.Proofs.Ytflpikickbellaa
