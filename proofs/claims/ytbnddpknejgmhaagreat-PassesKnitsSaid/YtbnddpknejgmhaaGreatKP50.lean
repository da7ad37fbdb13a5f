/- PassesKnits, walked. -/
import Derived.Test.YtbnddpknejgmhaaGreatKP43
import Derived.Test.YtbnddpknejgmhaaGreatKP45
import Derived.Test.YtbnddpknejgmhaaGreatKP49
import Derived.Test.YtbnddpknejgmhaaGreatKP44
import Derived.Test.YtbnddpknejgmhaaGreatKP32
import Derived.Test.YtbnddpknejgmhaaGreatKP29
import Derived.Deep.RegionHeld3
import Derived.Deep.RegionHeld
import Derived.Deep.DeepCutAuto
import Derived.Deep.QuietTactic
import Derived.BigQuiet
namespace Go.Proofs.YtbnddpknejgmhaaGreat
open Go.RowKit Go.Shelf Go.Sort
set_option maxRecDepth 100000

set_option maxHeartbeats 32000000 in
theorem knits_walk (start : Int) (A : Option Addr) (c : Nat) (p : List RowC) (hw : RowsWf p) (w : World) (hs : SlC w w.heap.size A p) :
    Calls Tryz.prog 3 #[.agg #[.int .i64 start, .slice A p.length c]] w fun e w' => e = .returned (.bool true) ∧ Below w.heap.size w w' := by
  have hC0 := KnC.new (start := start) (c := c) hs
  obtain ⟨cb, hcb⟩ : ∃ cb, cb = w.heap.size := ⟨_, rfl⟩
  obtain ⟨N, hN⟩ : ∃ N, N = p.length := ⟨_, rfl⟩
  have HSl : Hid (∀ W, Below w.heap.size w W → SlC W W.heap.size A p) := fun W hb => (hs.below hb).more hb.size
  have HGr : Hid (∀ W, KnC w cb start A N c p W → Calls Tryz.prog 5 #[.agg #[.int .i64 start, .slice A N c]] W fun e w' => e = .returned (.bool (greatC p)) ∧ Below W.heap.size W w') := fun W h => by rw [hN]; exact rgreat_any start A c p W h.sl
  have HCk : Hid (∀ W, KnC w cb start A N c p W → Calls Tryz.prog 6 #[.agg #[.int .i64 start, .slice A N c]] W fun e w' => e = .returned (.int .i64 (chartE start p)) ∧ Below W.heap.size W w') := fun W h => by rw [hN]; exact rcheck_any start A c p W h.sl
  have HCm : Hid (∀ W, KnC w cb start A N c p W → Calls Tryz.prog 8 #[.agg #[.int .i64 start, .slice A N c]] W fun e w' => compPost start p W e w') := fun W h => by rw [hN]; exact compile_any start A c p hw (Or.inr turn_any) W h.sl
  have HAl := Lib.hid (alive_any)
  have HNe := Lib.hid hN
  have HWf := Lib.hid hw
  rw [← hN, ← hcb] at hC0
  rw [← hN]
  have HC0 := Lib.hid hC0
  clear hs hC0 hN
  obtain ⟨g, hg⟩ : ∃ g, g = greatC p := ⟨_, rfl⟩
  have HGe := Lib.hid hg
  rw [← hg] at HGr
  obtain ⟨x, hx⟩ : ∃ x, x = chartE start p := ⟨_, rfl⟩
  have HXe := Lib.hid hx
  rw [← hx] at HCk
  clear hg hx hw
  go_enter Tryz.func3, Tryz.ntmps3
  go_upto_region 1 with fail
  refine abs_world (Q := fun W => Code.wp _ _ _ _ W) (F := fun W => KnC w cb start A N c p W) _ HC0.out ?_
  rw [← hcb]
  clear HC0 hcb
  rintro W1 hC1
  have HC1 := Lib.hid hC1
  have HA1 := Lib.hid (HAl.out W1)
  clear HAl hC1
  go_upto_region 2 with ((go_at_call 4; refine HA1.out.mono ?_; rintro e w1 ⟨rfl, hb1⟩))
  refine abs_world (Q := fun W => Code.wp _ _ _ _ W) (F := fun W => KnC w cb start A N c p W) _ (HC1.out.to hb1) ?_
  clear HC1 HA1 hb1
  clear w1
  clear W1
  rintro W2 hC2
  have HC2 := Lib.hid hC2
  have z0 := hC2.c0
  have z1 := hC2.c1
  clear hC2
  have HG2 := Lib.hid (HGr.out W2 HC2.out)
  clear HGr
  cases g with
  | true => as_aux_lemma =>
    go_wp2_with ((go_at_call 5; refine HG2.out.mono ?_; rintro e w2 ⟨rfl, hb2⟩))
    go_ret
    exact ⟨rfl, (HC2.out.to hb2).lo⟩
  | false => as_aux_lemma =>
  by_cases hx : x = 0
  case neg =>
    have e1 : (x != 0) = true := by simpa using hx
    clear hx
    go_wp2_with (first
      | (go_at_call 5; refine HG2.out.mono ?_; rintro e w2 ⟨rfl, hb2⟩
         have hC3 := HC2.out.to hb2
         have y0 := hC3.c0
         have y1 := hC3.c1
         have HC3 := Lib.hid hC3
         clear hC3)
      | (go_at_call 6; refine (HCk.out _ HC3.out).mono ?_; rintro e w3 ⟨rfl, hb3⟩))
    go_ret
    exact ⟨rfl, (HC3.out.to hb3).lo⟩
  case pos =>
  subst hx
  have hz := chart_zero HXe.out.symm
  have hN12 : N ≤ 12 := by rw [HNe.out]; exact few_rows HGe.out.symm HXe.out.symm
  have HPl : Hid (∀ W, KnC w cb start A N c p W → Calls Tryz.prog 7 #[.agg #[.int .i64 start, .slice A N c]] W fun e w' => e = .returned (.bool (plainB start p)) ∧ Below W.heap.size W w') := fun W h => by
    rw [HNe.out]
    have hal := err_rows hz.2.2
    exact rplain_any start A c p (by have := hz.1; omega) (fun r hr => by have := (all_zero (hal r hr)).1; omega) W h.sl
  obtain ⟨pl, hpl⟩ : ∃ pl, pl = plainB start p := ⟨_, rfl⟩
  have HPe := Lib.hid hpl
  rw [← hpl] at HPl
  clear hpl
  cases pl with
  | false => as_aux_lemma =>
    clear hz
    go_wp2_with (first
      | (go_at_call 5; refine HG2.out.mono ?_; rintro e w2 ⟨rfl, hb2⟩
         have hC3 := HC2.out.to hb2
         have y0 := hC3.c0
         have y1 := hC3.c1
         have HC3 := Lib.hid hC3
         clear hC3)
      | (go_at_call 6; refine (HCk.out _ HC3.out).mono ?_; rintro e w3 ⟨rfl, hb3⟩
         have hC4 := HC3.out.to hb3
         have x0 := hC4.c0
         have x1 := hC4.c1
         have HC4 := Lib.hid hC4
         clear hC4)
      | (go_at_call 7; refine (HPl.out _ HC4.out).mono ?_; rintro e w4 ⟨rfl, hb4⟩))
    go_ret
    exact ⟨rfl, (HC4.out.to hb4).lo⟩
  | true => as_aux_lemma =>
  obtain ⟨n, hn⟩ : ∃ n : Nat, start = (n : Int) := ⟨start.toNat, by omega⟩
  subst hn
  clear hz
  go_upto_region 4 with (first
      | (go_at_call 5; refine HG2.out.mono ?_; rintro e w2 ⟨rfl, hb2⟩
         have hC3 := HC2.out.to hb2
         have y0 := hC3.c0
         have y1 := hC3.c1
         have HC3 := Lib.hid hC3
         clear hC3)
      | (go_at_call 6; refine (HCk.out _ HC3.out).mono ?_; rintro e w3 ⟨rfl, hb3⟩
         have hC4 := HC3.out.to hb3
         have x0 := hC4.c0
         have x1 := hC4.c1
         have HC4 := Lib.hid hC4
         clear hC4)
      | (go_at_call 7; refine (HPl.out _ HC4.out).mono ?_; rintro e w4 ⟨rfl, hb4⟩))
  refine abs_world (Q := fun W => Code.wp _ _ _ _ W) (F := fun W => KnC w cb (n : Int) A N c p W) _ (HC4.out.to hb4) ?_
  clear hb4 HC4 x0 x1 hb3 HC3 y0 y1 hb2 HG2 HC2 z0 z1 HCk HPl
  clear w4
  clear w3
  clear w2
  clear W2
  rintro W4 hC4
  have HC4 := Lib.hid hC4
  have z0 := hC4.c0
  have z1 := hC4.c1
  have HM4 := Lib.hid (HCm.out W4 hC4)
  clear hC4 HCm
  have he := HXe.out.symm
  have hp := HPe.out.symm
  obtain ⟨hpc, hlp⟩ := of_loops he hp (by rw [← HNe.out]; exact hN12)
  obtain ⟨fs, hfs⟩ : ∃ fs, fs = p.map faceL := ⟨_, rfl⟩
  have HFs := Lib.hid hfs
  rw [← hfs] at hpc hlp
  rw [← HNe.out] at hlp
  have HPc := Lib.hid hpc
  have HLp := Lib.hid hlp
  have hn101 : n ≤ 101 := hpc.start
  obtain ⟨K, hK⟩ : ∃ K, K = n * (N + 1) := ⟨_, rfl⟩
  have HKe := Lib.hid hK
  have hK2 : K ≤ 1313 := by
    have : n * (N + 1) ≤ 101 * 13 := Nat.mul_le_mul hn101 (by omega)
    omega
  obtain ⟨LP, hLP⟩ : ∃ LP, LP = (workX (n : Int) p).lp := ⟨_, rfl⟩
  have HLPe := Lib.hid hLP
  have hLK : LP.length = K := by rw [hLP, hlp.len, hK]
  have HLK := Lib.hid hLK
  have HOf : Hid (∀ W, KnC w cb (n : Int) A N c p W → Calls Tryz.prog 9 #[.agg #[.int .i64 (n : Int), .slice A N c]] W fun e w' => ∃ a k, e = .returned (.tuple #[.slice a K k, .int .i64 0]) ∧ SlL w' w'.heap.size a LP ∧ Below W.heap.size W w') := fun W h => by
    have h1 := Of_any (n : Int) A c p (plain_kind hp).2 he HWf.out (by rw [← HNe.out]; exact hN12) W h.sl
    rw [← HNe.out] at h1
    refine h1.mono ?_
    rintro e w' ⟨vL, vs, e1, hv, ho, hb⟩
    rw [← hLP] at hv ho
    obtain ⟨a, k, rfl⟩ := pxL_form ho
    rw [he] at e1
    rw [hLK] at e1
    exact ⟨a, k, e1, slL_of ho rfl hv (fun o h => ho.all o (by simp [h])), hb⟩
  have HCe : Hid (compE (n : Int) p ≠ 0 → compE (n : Int) p = 4) := fun h => comp_err he hp h
  have HRn0 : Hid (compE (n : Int) p = 0 → _) := fun h => kn_run h (by rw [← HNe.out]; exact hN12)
  unfold compPost at HM4
  obtain ⟨L, hL⟩ : ∃ L, L = compO (n : Int) p := ⟨_, rfl⟩
  obtain ⟨ce, hce⟩ : ∃ ce, ce = compE (n : Int) p := ⟨_, rfl⟩
  have HLe := Lib.hid hL
  have HCee := Lib.hid hce
  rw [← hce] at HM4 HCe HRn0
  rw [← hL] at HM4
  obtain ⟨ll, hll⟩ : ∃ ll, ll = L.length := ⟨_, rfl⟩
  have HLl := Lib.hid hll
  rw [← hll] at HM4
  clear he hp hpc hlp hfs hK hLP hLK hL hce hll
  go_upto_region 5 with ((go_at_call 8; refine HM4.out.mono ?_; rintro e w5 ⟨a1, k1, rfl, hx1, -, hb5⟩))
  refine abs_world (Q := fun W => Code.wp _ _ _ _ W) (F := fun W => KnC w cb (n : Int) A N c p W ∧ SlX W W.heap.size a1 L) _ ⟨HC4.out.to hb5, hx1⟩ ?_
  clear HC4 HM4 z0 z1 hb5 hx1
  clear w5
  clear W4
  rintro W5 ⟨hC5, hx5⟩
  have HC5 := Lib.hid (And.intro hC5 hx5)
  have z0 := hC5.c0
  have z1 := hC5.c1
  have HO5 := Lib.hid (HOf.out W5 hC5)
  clear HOf hC5 hx5
  go_upto_region 6 with ((go_at_call 9; refine HO5.out.mono ?_; rintro e w6 ⟨oa, oc, rfl, hol, hb6⟩))
  refine abs_world (Q := fun W => Code.wp _ _ _ _ W) (F := fun W => (KnC w cb (n : Int) A N c p W ∧ SlX W W.heap.size a1 L) ∧ SlL W W.heap.size oa LP) _ ⟨⟨HC5.out.1.to hb6, (HC5.out.2.below hb6).more hb6.size⟩, hol⟩ ?_
  clear HC5 HO5 z0 z1 hb6 hol
  clear w6
  clear W5
  rintro W6 ⟨⟨hC6, hx6⟩, hol6⟩
  have HC6 := Lib.hid (And.intro hC6 (And.intro hx6 hol6))
  clear hC6 hx6 hol6
  by_cases hc : ce = 0
  case neg =>
    have h4 : ce = 4 := HCe.out hc
    clear hc HRn0
    have HE := Lib.hid HC6.out.1.lo
    rw [h4]
    clear h4
    go_wp2
    go_ret
    exact ⟨rfl, HE.out⟩
  case pos =>
  obtain ⟨-, hl2000, hwfL, t, hrun, hkn⟩ := HRn0.out hc
  have hLL : L = compL (n : Int) p := by rw [HLe.out]; unfold compO; rw [if_pos (by rw [← HCee.out]; exact hc)]
  rw [← hLL] at hl2000 hwfL hrun
  rw [← HFs.out, ← HNe.out] at hkn
  rw [← HLl.out] at hl2000 hrun
  have HKn := Lib.hid hkn
  have HRn : Hid (∀ (W : World), SlX W W.heap.size a1 L → Calls Tryz.prog 10 #[.agg #[.int .i64 0, .slice none 0 0, .slice none 0 0, .slice none 0 0], .slice a1 ll k1] W fun e w' => ∃ q, e = .returned (.tuple #[t.val q, .int .i64 (ll : Int), .int .i64 0]) ∧ BedFr W.heap.size w' q t ∧ Below W.heap.size W w') := fun W hx => by
    have h := brun_any bed0 bedP0 ⟨fun _ h => absurd h List.not_mem_nil, fun _ h => absurd h List.not_mem_nil⟩ ⟨by decide, by decide, by decide⟩ L (by rw [← HLl.out]; omega) (fun _ _ => by rw [← HLl.out]; show 0 + ll ≤ 3999; omega) hwfL a1 k1 W (bedAt0 _ _) hx
    unfold runOut at h
    rw [hrun, ← HLl.out] at h
    exact h
  have hsl := stRows_len n fs N
  have hmade : t.made = (stRows n fs N).1 := hkn.made
  have HGd := Lib.hid hkn.good
  have HMd := Lib.hid hmade
  obtain ⟨tm, htm⟩ : ∃ tm, tm = t.made.length := ⟨_, rfl⟩
  have HTm := Lib.hid htm
  have htm2 : tm ≤ 1313 := by
    rw [htm, hmade]
    have h1 := hsl.2
    rw [← HKe.out] at h1
    omega
  unfold BedS.val at HRn
  rw [← htm] at HRn
  clear hmade hsl hkn hrun hwfL hl2000 hLL HRn0 HCe htm
  rw [hc]
  clear hc HCee HLe
  have HR6 := Lib.hid (HRn.out W6 HC6.out.2.1)
  clear HRn
  go_upto_region 9 with ((go_at_call 10; refine HR6.out.mono ?_; rintro e w7 ⟨q, rfl, hfr, hb7⟩))
  obtain ⟨bb, hbb⟩ : ∃ bb, bb = w7.heap.size := ⟨_, rfl⟩
  refine abs_world (Q := fun W => Code.wp _ _ _ _ W) (F := fun W => KnF w cb bb (n : Int) A N c p oa LP t q tm W.heap.size W) _ (by
    rw [hbb]
    exact KnF.new (HC6.out.1.to hb7) ((HC6.out.2.2.below hb7).more hb7.size) hfr.at_) ?_
  rw [← hbb]
  clear HC6 HR6 hbb hfr hb7
  clear w7
  clear W6
  rintro W7 hF7
  have HF7 := Lib.hid hF7
  have HRc : Hid (Calls Tryz.prog 11 #[.agg #[.int .i64 t.rack, .slice q.ah t.hooks.length q.ch, .slice q.af t.feeds.length q.cf, .slice q.am tm q.cm]] W7 fun e w' => e = .returned (.int .i64 0) ∧ Below W7.heap.size W7 w') := by
    have h1 := rbcheck_ok t q HGd.out.err HGd.out.wf ⟨by have := HGd.out.seek.len; omega, by have := HGd.out.fd.len; omega, by rw [← HTm.out]; omega⟩ W7 hF7.bd
    unfold RetB8 at h1
    rw [HGd.out.err] at h1
    unfold BedS.val at h1
    rw [← HTm.out] at h1
    exact h1
  have b0 := hF7.b0
  have b1 := hF7.b1
  have b2 := hF7.b2
  have b3 := hF7.b3
  have el1 : ((ll : Int) != (ll : Int)) = false := by simp
  clear hF7
  go_upto_region 11 with ((go_at_call 11; refine HRc.out.mono ?_; rintro e w8 ⟨rfl, hb8⟩))
  refine abs_world (Q := fun W => Code.wp _ _ _ _ W) (F := fun W => KnF w cb bb (n : Int) A N c p oa LP t q tm W.heap.size W) _ ((HF7.out.to hb8).more hb8.size) ?_
  clear HF7 HRc b0 b1 b2 b3 el1 hb8
  clear w8
  clear W7
  rintro W8 hF8
  obtain ⟨w9, hmk, hlie, hb9⟩ := mk_ints K (by omega) W8
  obtain ⟨ib, hib⟩ : ∃ ib, ib = W8.heap.size := ⟨_, rfl⟩
  rw [← hib] at hmk hlie hF8
  have HX8 := Lib.hid (And.intro hF8 (And.intro hlie hb9))
  have HSz : Hid (ib ≤ w9.heap.size) := by rw [hib]; exact hb9.size
  have HUp : Hid (UpB (fun W => KnF w cb bb (n : Int) A N c p oa LP t q tm ib W) ib) := fun W W' h hb => h.to hb
  clear hF8 hlie hb9
  go_upto_region 12 with fail
  refine abs_world (Q := fun W => Code.wp _ _ _ _ W) (F := fun W => KnF w cb bb (n : Int) A N c p oa LP t q tm ib W ∧ ib ≤ W.heap.size ∧ (pxJ (.slice (some ⟨ib, 0, none⟩) K K) (List.replicate K 0)).lies W ib) _ ⟨HX8.out.1.to (by rw [hib]; exact HX8.out.2.2), HSz.out, HX8.out.2.1⟩ ?_
  try rw [← hib]
  clear HX8 HSz hmk hib
  clear w9
  clear W8
  rintro W9 ⟨hF9, hs9, hl9⟩
  have HX9 := Lib.hid (And.intro hF9 (And.intro hs9 hl9))
  have HW9 : Hid (Calls Tryz.prog 12 #[.agg #[.int .i64 (n : Int), .slice A N c]] W9 fun e w' => ∃ ya yl yc yb ym yd yx yn ye ra rc, e = .returned (.agg #[.slice ya yl yc, .slice yb ym yd, .slice yx yn ye, .slice ra (N + 2) rc]) ∧ (pxJ (.slice ra (N + 2) rc) (rowsK n N)).lies w' W9.heap.size ∧ Below W9.heap.size W9 w') := by
    have h := work_rows n A c p HXe.out.symm HPe.out.symm (by rw [← HNe.out]; exact hN12) W9 (hF9.sl.more hs9)
    rw [← HNe.out] at h
    exact h
  have c0 := hF9.c0
  have c1 := hF9.c1
  clear hF9 hs9 hl9
  obtain ⟨rn, hrn⟩ : ∃ rn, rn = N + 2 := ⟨_, rfl⟩
  have HRn := Lib.hid hrn
  rw [← hrn] at HW9
  clear hrn
  have hfd : ∀ (v1 v2 v3 v4 : Value) (w : World), (Instr.field 46 (.agg #[v1, v2, v3, v4]) 3).run Tryz.prog w = .ok v4 w := fun _ _ _ _ _ => by kernel_rfl
  go_upto_region 13 with ((go_at_call 12; refine HW9.out.mono ?_; rintro e w10 ⟨ya, yl, yc, yb, ym, yd, yx, yn, ye, ra, rc, rfl, hrl, hb10⟩))
  obtain ⟨rb, hrb⟩ := pxJ_some hrl (by intro e; have := congrArg List.length e; rw [rowsK_len] at this; simp at this)
  subst hrb
  refine abs_world (Q := fun W => Code.wp _ _ _ _ W) (F := fun W => KnG (fun W => KnF w cb bb (n : Int) A N c p oa LP t q tm ib W) ib K (List.replicate K 0) rb rn rc (rowsK n N) ib W) _ (by
    obtain ⟨h1, h2, h3⟩ := HX9.out
    have ho : Owns W9 ib [pxJ (.slice (some ⟨ib, 0, none⟩) K K) (List.replicate K 0)] := ⟨fun o ho => by rw [List.mem_singleton.1 ho]; exact h3, List.pairwise_singleton _ _⟩
    exact ⟨h1.to (hb10.mono h2), Nat.le_trans h2 hb10.size, List.length_replicate, by rw [rowsK_len]; exact HRn.out.symm, (ho.add hb10 h2 hrl).swap⟩) ?_
  clear HX9 HW9 c0 c1 hrl hb10 hfd
  clear w10
  clear W9
  rintro W10 hG10
  as_aux_lemma =>
    have HG10 := Lib.hid hG10
    obtain ⟨N1, hN1⟩ : ∃ N1, N1 = N + 1 := ⟨_, rfl⟩
    have hrw : rn = N1 + 1 := by rw [HRn.out, hN1]
    have r1 : W10.cell? ⟨rb, N1, none⟩ = some (.int .i64 (K : Int)) := by
      rw [HKe.out, ← hN1]
      exact hG10.row (rowsK_at (by omega))
    have hw1 : IntKind.i64.wrap ((rn : Int) - 1) = (N1 : Int) := by rw [hrw, show ((N1 + 1 : Nat) : Int) - 1 = (N1 : Int) by omega]; exact IntWalk.i64_in _ (by omega)
    have hw2 : (0 : Int) ≤ (N1 : Int) := by omega
    have hw3 : (N1 : Int) < (rn : Int) := by omega
    have hw4 : ((K : Int) != (K : Int)) = false := by simp
    have HN1 := Lib.hid hN1
    clear hG10 hN1 hrw
    go_upto_region 15 with fail
    clear r1 hw1 hw2 hw3 hw4
    obtain ⟨FF, hFF⟩ : ∃ FF : World → Prop, FF = fun W => KnF w cb bb (n : Int) A N c p oa LP t q tm ib W := ⟨_, rfl⟩
    have HFF : Hid (∀ W, FF W → KnF w cb bb (n : Int) A N c p oa LP t q tm ib W) := fun W h => by rw [hFF] at h; exact h
    rw [← hFF] at HUp HG10
    clear hFF
    have HDr : Hid (∀ (L : List Int) (W : World) (z : Nat), KnG FF ib K L rb rn rc (rowsK n N) ib W → KnG FF ib K L rb rn rc (rowsK n N) ib (W.drewN z)) := fun L W z h => h.to HUp.out (below_drewT (Below.refl _ _) z)
    have hN1a : N1 ≤ N + 1 := Nat.le_of_eq HN1.out
    have hN1b : N + 1 ≤ N1 := Nat.le_of_eq HN1.out.symm
    have hrna : rn ≤ N + 2 := Nat.le_of_eq HRn.out
    have hrnb : N + 2 ≤ rn := Nat.le_of_eq HRn.out.symm
    go_wp2
    go_loopw [13, 14, 15, 16, 17, 18, 19, 20] (fun s13 s14 s15 s16 s17 s18 s19 s20 wr => ∃ (i m : Nat) (v15 v16 v17 v18 v19 v20 : Value) (L : List Int), i ≤ N1 ∧ s14 = .int .i64 (i : Int) ∧ s13 = .int .i64 (m : Int) ∧ v15 = s15 ∧ v16 = s16 ∧ v17 = s17 ∧ v18 = s18 ∧ v19 = s19 ∧ v20 = s20 ∧ Hid (m = mN n fs i 0) ∧ Hid (IsK n fs i 0 L ∧ KnG FF ib K L rb rn rc (rowsK n N) ib wr)) (fun _ s14 _ _ _ _ _ _ _ => N1 - (intOf s14).toNat)
    case atStart => exact ⟨0, 0, _, _, _, _, _, _, _, Nat.zero_le _, rfl, rfl, rfl, rfl, rfl, rfl, rfl, rfl, rfl, IsK.start _ _ _, HG10.out⟩
    case round =>
      obtain ⟨i, m, v15, v16, v17, v18, v19, v20, L, hi, rfl, rfl, rfl, rfl, rfl, rfl, rfl, rfl, HM, HG⟩ := hrel
      clear HG10
      obtain ⟨W11, hW11⟩ : ∃ x : World, x = wr := ⟨_, rfl⟩
      rw [← hW11] at HG ⊢
      clear hW11
      have c1 := (HFF.out _ HG.out.2.f).c1
      by_cases hlt : i < N1
      case neg =>
        have hiN : i = N1 := by omega
        have e0 : decide ((i : Int) ≤ (N : Int)) = false := decide_eq_false (by omega)
        have e0n : decide (i ≤ N) = false := decide_eq_false (by omega)
        have hmt : m = tm := by
          rw [HM.out, hiN, HN1.out, mN_next]
          unfold mN
          rw [rwS_end, ← HMd.out]
          exact HTm.out.symm
        have HG0 : Hid (IsK n fs N1 0 L ∧ KnG FF ib K L rb rn rc (rowsK n N) ib W11) := ⟨by have := HG.out.1; rw [hiN] at this; exact this, HG.out.2⟩
        have b3 := (HFF.out _ HG.out.2.f).b3
        have htt : ((tm : Int) != (tm : Int)) = false := by simp
        obtain ⟨FN, hFN⟩ : ∃ FN, FN = n * N := ⟨_, rfl⟩
        have HFN := Lib.hid hFN
        have z1 : W11.cell? ⟨rb, N, none⟩ = some (.int .i64 (FN : Int)) := by rw [hFN]; exact HG.out.2.row (rowsK_at (by omega))
        have hw1 : IntKind.i64.wrap ((rn : Int) - 2) = (N : Int) := by rw [show (rn : Int) - 2 = (N : Int) by omega]; exact IntWalk.i64_in _ (by omega)
        have hw2 : (0 : Int) ≤ (N : Int) := by omega
        have hw3 : (N : Int) < (rn : Int) := by omega
        rw [hmt]
        clear HG HM hmt hiN hFN
        clear m
        go_upto_region 41 with fail
        refine abs_world (Q := fun W => Code.wp _ _ _ _ W) (F := fun W => IsK n fs N1 0 L ∧ KnG FF ib K L rb rn rc (rowsK n N) ib W) _ HG0.out ?_
        clear HG0 b3 htt z1 hw1 hw2 hw3 e0 e0n c1
        clear W11
        rintro W20 hG20
        as_aux_lemma =>
          have HG20 := Lib.hid hG20
          have HIs := Lib.hid hG20.1
          clear hG20
          go_wp2
          go_loopw [22, 23, 24, 25, 26] (fun s22 s23 s24 s25 s26 wr => ∃ (k : Nat) (v23 v24 v25 v26 : Value), k ≤ n ∧ s22 = .int .i64 (k : Int) ∧ v23 = s23 ∧ v24 = s24 ∧ v25 = s25 ∧ v26 = s26 ∧ Hid (KnG FF ib K L rb rn rc (rowsK n N) ib wr)) (fun s22 _ _ _ _ _ => n - (intOf s22).toNat)
          case atStart => exact ⟨0, _, _, _, _, Nat.zero_le _, rfl, rfl, rfl, rfl, rfl, HG20.out.2⟩
          case round =>
            obtain ⟨k, v23, v24, v25, v26, hk, rfl, rfl, rfl, rfl, rfl, HG3⟩ := hrel
            clear HG20
            obtain ⟨W21, hW21⟩ : ∃ x : World, x = wr := ⟨_, rfl⟩
            rw [← hW21] at HG3 ⊢
            clear hW21
            obtain ⟨fk, hfk0⟩ : ∃ fk, fk = FN + k := ⟨_, rfl⟩
            have HFk := Lib.hid hfk0
            have hKF : Hid (K = FN + n) := by show _ = _; rw [HKe.out, HFN.out, Nat.mul_succ]
            have hfk : IntKind.i64.wrap ((FN : Int) + (k : Int)) = (fk : Int) := by rw [hfk0, Int.natCast_add]; exact IntWalk.i64_in _ (by have := hKF.out; omega)
            clear hfk0
            by_cases hk2 : k < n
            case neg =>
              have q0 : decide ((fk : Int) < (K : Int)) = false := decide_eq_false (by have := hKF.out; have := HFk.out; omega)
              have q0n : decide (fk < K) = false := decide_eq_false (by have := hKF.out; have := HFk.out; omega)
              have HB := Lib.hid (HFF.out _ HG3.out.f).lo
              clear HG3
              go_wp2
              go_ret
              exact ⟨rfl, HB.out⟩
            case pos =>
              have q0 : decide ((fk : Int) < (K : Int)) = true := decide_eq_true (by have := hKF.out; have := HFk.out; omega)
              have q0n : decide (fk < K) = true := decide_eq_true (by have := hKF.out; have := HFk.out; omega)
              have hfK : fk < K := by have := hKF.out; have := HFk.out; omega
              have HOn : Hid (∀ (b : Int), b = 0 ∨ b = 1 → ∀ W, KnG FF ib K L rb rn rc (rowsK n N) ib W → Calls Tryz.prog 14 #[.agg #[.int .i64 t.rack, .slice q.ah t.hooks.length q.ch, .slice q.af t.feeds.length q.cf, .slice q.am tm q.cm], .int .u8 b, .int .i64 (k : Int)] W fun e w' => ∃ v, e = .returned (.tuple #[v, .int .i64 0]) ∧ (pxJ v (heldAt t.hooks b (k : Int))).lies w' W.heap.size ∧ Below W.heap.size W w') := fun b hb W h => by
                have h1 := on_row t q HGd.out ⟨by have := HGd.out.seek.len; omega, by have := HGd.out.fd.len; omega, by rw [← HTm.out]; omega⟩ b (k : Int) (by omega) ⟨by omega, by unfold needleP; omega⟩ W ((HFF.out _ h.f).bd.more h.hs)
                unfold BedS.val at h1
                rw [← HTm.out] at h1
                exact h1
              have hon2 := HKn.out.on (bdRows_ok n fs N) (k := k) hk2
              obtain ⟨la, hla⟩ : ∃ la, la = heldAt t.hooks 0 (k : Int) := ⟨_, rfl⟩
              obtain ⟨lb, hlb⟩ : ∃ lb, lb = heldAt t.hooks 1 (k : Int) := ⟨_, rfl⟩
              obtain ⟨v, hv⟩ : ∃ v, v = (stRows n fs N).2.getD k 0 := ⟨_, rfl⟩
              rw [← hla, ← hlb, ← hv] at hon2
              have HOn0 := Lib.hid (HOn.out 0 (Or.inl rfl))
              have HOn1 := Lib.hid (HOn.out 1 (Or.inr rfl))
              rw [← hla] at HOn0
              rw [← hlb] at HOn1
              have HLab := Lib.hid hon2
              have hLv : L.getD fk 0 = v := by
                rw [hv, HFk.out, HFN.out]
                exact HIs.out.rows N k (by omega) hk2
              have HLv := Lib.hid hLv
              clear HOn hon2 hla hlb hv hLv
              have hfw := HFF.out _ HG3.out.f
              have g0 := hfw.b0
              have g1 := hfw.b1
              have g2 := hfw.b2
              have g3 := hfw.b3
              have HC0 := Lib.hid (HOn0.out W21 HG3.out)
              clear hfw HOn0
              go_upto_region 45 with ((go_at_call 14; refine HC0.out.mono ?_; rintro e w22 ⟨va, rfl, hva, hb22⟩))
              obtain ⟨B1, hB1⟩ : ∃ B1, B1 = W21.heap.size := ⟨_, rfl⟩
              refine abs_world (Q := fun W => Code.wp _ _ _ _ W) (F := fun W => (∀ W', Below B1 W W' → KnG FF ib K L rb rn rc (rowsK n N) ib W') ∧ (pxJ va la).lies W B1 ∧ B1 ≤ W.heap.size) _ (by
                rw [hB1]
                exact ⟨fun W' hb => HG3.out.to HUp.out (hb22.trans hb), hva, hb22.size⟩) ?_
              clear HG3 HC0 hva hb22 g0 g1 g2 g3 q0 q0n hB1
              clear w22
              clear W21
              rintro W22 ⟨hG22, hva, hs22⟩
              have HG22 := Lib.hid (And.intro hG22 (And.intro hva hs22))
              have hfw := HFF.out _ (hG22 W22 (Below.refl _ _)).f
              have g0 := hfw.b0
              have g1 := hfw.b1
              have g2 := hfw.b2
              have g3 := hfw.b3
              have HC1 := Lib.hid (HOn1.out W22 (hG22 W22 (Below.refl _ _)))
              clear hfw HOn1 hG22 hva hs22
              go_upto_region 46 with ((go_at_call 14; refine HC1.out.mono ?_; rintro e w23 ⟨vb, rfl, hvb, hb23⟩))
              refine abs_world (Q := fun W => Code.wp _ _ _ _ W) (F := fun W => (∀ W', Below B1 W W' → KnG FF ib K L rb rn rc (rowsK n N) ib W') ∧ (pxJ va la).lies W B1 ∧ (pxJ vb lb).lies W B1 ∧ B1 ≤ W.heap.size) _ (by
                obtain ⟨h1, h2, h3⟩ := HG22.out
                exact ⟨fun W' hb => h1 W' ((hb23.mono h3).trans hb), own_below h2 hb23 (Nat.le_refl _), World.ownsRow.mono hvb h3, Nat.le_trans h3 hb23.size⟩) ?_
              clear HC1 hvb hb23 g0 g1 g2 g3 HG22
              clear w23
              clear W22
              rintro W23 ⟨hG23, hva, hvb, hs23⟩
              as_aux_lemma =>
                have HG23 := Lib.hid hG23
                have hal := al_t W23 (.cells #[.int .i64 v] 3)
                have hd1 : Below W23.heap.size W23 W23.drew := Below.drew (Below.refl _ _)
                have hd2 : Below W23.heap.size W23 (W23.alloc (.cells #[.int .i64 v] 3)).drew := Below.drew hal
                obtain ⟨aA, na, ca, bA, nb, cbb, rfl, rfl, happ⟩ := app_two hva hvb HLab.out hs23
                obtain ⟨A1, c1', w1, hr1, hs1, hb1, -⟩ := happ _ hd1
                obtain ⟨A2, c2', w2, hr2, hs2, hb2, hk2c⟩ := happ _ hd2
                have hz1 : Below B1 W23 w1 := (hd1.mono hs23).trans hb1
                have hz2 : Below B1 W23 w2 := (hd2.mono hs23).trans hb2
                have y0 := (hG23 W23 (Below.refl _ _)).is hfK
                have y1 := (hG23 w1 hz1).is hfK
                have y2 := (hG23 w2 hz2).is hfK
                rw [HLv.out] at y0 y1 y2
                have hB1s : B1 ≤ w1.heap.size := Nat.le_trans hs23 (by have := hb1.size; simpa using this)
                have hB2s : B1 ≤ w2.heap.size := Nat.le_trans hs23 (Nat.le_trans hd2.size hb2.size)
                have HK1 : Hid (∀ w', Below (w1.alloc (.cells #[.int .i64 v] 3)).heap.size (w1.alloc (.cells #[.int .i64 v] 3)) w' → KnG FF ib K L rb rn rc (rowsK n N) ib w') := fun w' hb => hG23 w' (hz1.trans (((al_t w1 (.cells #[.int .i64 v] 3)).mono hB1s).trans (hb.mono (Nat.le_trans hB1s (al_t w1 (.cells #[.int .i64 v] 3)).size))))
                have HK2 : Hid (∀ w', Below w2.heap.size w2 w' → KnG FF ib K L rb rn rc (rowsK n N) ib w') := fun w' hb => hG23 w' (hz2.trans (hb.mono hB2s))
                have HS1 : Hid (Calls Tryz.prog 15 #[.slice A1 1 c1', .slice (some ⟨w1.heap.size, 0, none⟩) 1 1] (w1.alloc (.cells #[.int .i64 v] 3)) fun e w' => e = .returned (.bool true) ∧ Below (w1.alloc (.cells #[.int .i64 v] 3)).heap.size (w1.alloc (.cells #[.int .i64 v] 3)) w') := same_one ((hs1.below (al_t w1 _)).more (al_t w1 _).size) (cell_new rfl rfl rfl)
                have HS2 : Hid (Calls Tryz.prog 15 #[.slice A2 1 c2', .slice (some ⟨W23.heap.size, 0, none⟩) 1 1] w2 fun e w' => e = .returned (.bool true) ∧ Below w2.heap.size w2 w') := same_one hs2 ((hk2c W23.heap.size 0 (Nat.le_refl _) (by show W23.heap.size < (W23.alloc _).heap.size; simp)).trans (cell_new (w1 := W23.alloc _) rfl rfl rfl))
                have hfk : IntKind.i64.wrap ((FN : Int) + (k : Int)) = (fk : Int) := by have h1 := HFk.out; have h2 := hKF.out; rw [h1, Int.natCast_add]; exact IntWalk.i64_in _ (by omega)
                have hi0 : (0 : Int) ≤ (fk : Int) := by omega
                have hi1 : (fk : Int) < (K : Int) := by omega
                clear hG23 hva hvb hal hd1 hd2 happ hs1 hb1 hs2 hb2 hk2c hz1 hz2 hB1s hB2s hs23
                go_cut [304] (fun s304 wx => s304 = .bool false ∧ Hid (KnG FF ib K L rb rn rc (rowsK n N) ib wx))
                case first => as_aux_lemma =>
                  refine wp_region_held_drew (S := fun W' => W'.cell? ⟨ib, fk, none⟩ = some (.int .i64 v)) (by kernel_rfl) y0 (fun hHeld => ?_)
                  refine wpAnyH_take (i := 0) (v := ?_) rfl (by kernel_rfl) (by kernel_rfl) (by kernel_rfl) (fun _ _ _ h => h) (Or.inl ⟨by rfl, ?_⟩) (by assumption) ?_
                  rotate_left
                  · (intro w hSw; (try dsimp only at hSw); go_simp; try with_reducible rfl)
                  simp only [Act.put, List.getElem_toArray, List.getElem_cons_zero, List.setIfInBounds_toArray, List.set_cons_zero, List.set_cons_succ]
                  refine wpAnyH_take (i := 1) (v := ?_) rfl (by kernel_rfl) (by kernel_rfl) (by kernel_rfl) (fun _ _ _ h => h) (Or.inl ⟨by rfl, ?_⟩) (by assumption) ?_
                  rotate_left
                  · (intro w hSw; (try dsimp only at hSw); go_simp; try with_reducible rfl)
                  simp only [Act.put, List.getElem_toArray, List.getElem_cons_zero, List.getElem_cons_succ, List.setIfInBounds_toArray, List.set_cons_zero, List.set_cons_succ]
                  refine wpAnyH_take (i := 2) (v := ?_) rfl (by kernel_rfl) (by kernel_rfl) (by kernel_rfl) (fun _ _ _ h => h) (Or.inl ⟨by rfl, ?_⟩) (by assumption) ?_
                  rotate_left
                  · (intro w hSw; (try dsimp only at hSw); go_simp; try with_reducible rfl)
                  simp only [Act.put, List.getElem_toArray, List.getElem_cons_zero, List.getElem_cons_succ, List.setIfInBounds_toArray, List.set_cons_zero, List.set_cons_succ]
                  refine wpAnyH_take (i := 3) (v := ?_) rfl (by kernel_rfl) (by kernel_rfl) (by kernel_rfl) (fun _ _ _ h => h) (Or.inl ⟨by rfl, ?_⟩) (by assumption) ?_
                  rotate_left
                  · (intro w hSw; (try dsimp only at hSw); go_simp; try with_reducible rfl)
                  simp only [Act.put, List.getElem_toArray, List.getElem_cons_zero, List.getElem_cons_succ, List.setIfInBounds_toArray, List.set_cons_zero, List.set_cons_succ]
                  refine wpAnyH_take (i := 4) (v := ?_) rfl (by kernel_rfl) (by kernel_rfl) (by kernel_rfl) (fun _ _ _ h => h) (Or.inl ⟨by rfl, ?_⟩) (by assumption) ?_
                  rotate_left
                  · (intro w hSw; (try dsimp only at hSw); go_simp; try with_reducible rfl)
                  simp only [Act.put, List.getElem_toArray, List.getElem_cons_zero, List.getElem_cons_succ, List.setIfInBounds_toArray, List.set_cons_zero, List.set_cons_succ]
                  refine wpAnyH_take (i := 5) (v := ?_) rfl (by kernel_rfl) (by kernel_rfl) (by kernel_rfl) (fun _ _ _ h => h) (Or.inl ⟨by rfl, ?_⟩) (by assumption) ?_
                  rotate_left
                  · (intro w hSw; (try dsimp only at hSw); go_simp; try with_reducible rfl)
                  simp only [Act.put, List.getElem_toArray, List.getElem_cons_zero, List.getElem_cons_succ, List.setIfInBounds_toArray, List.set_cons_zero, List.set_cons_succ]
                  refine wpAnyH_take (i := 6) (v := ?_) rfl (by kernel_rfl) (by kernel_rfl) (by kernel_rfl) (fun _ _ _ h => h) (Or.inl ⟨by rfl, ?_⟩) (by assumption) ?_
                  rotate_left
                  · (intro w hSw; (try dsimp only at hSw); go_simp; try with_reducible rfl)
                  simp only [Act.put, List.getElem_toArray, List.getElem_cons_zero, List.getElem_cons_succ, List.setIfInBounds_toArray, List.set_cons_zero, List.set_cons_succ]
                  refine wpAnyH_take (i := 7) (v := ?_) rfl (by kernel_rfl) (by kernel_rfl) (by kernel_rfl) (fun _ _ _ h => h) (Or.inl ⟨by rfl, ?_⟩) (by assumption) ?_
                  rotate_left
                  · (intro w hSw; (try dsimp only at hSw); go_simp; try with_reducible rfl)
                  simp only [Act.put, List.getElem_toArray, List.getElem_cons_zero, List.getElem_cons_succ, List.setIfInBounds_toArray, List.set_cons_zero, List.set_cons_succ]
                  refine wpAnyH_take (i := 8) (v := ?_) rfl (by kernel_rfl) (by kernel_rfl) (by kernel_rfl) (fun _ _ _ h => h) (Or.inl ⟨by rfl, ?_⟩) (by assumption) ?_
                  rotate_left
                  · (intro w hSw; (try dsimp only at hSw); go_simp; try with_reducible rfl)
                  simp only [Act.put, List.getElem_toArray, List.getElem_cons_zero, List.getElem_cons_succ, List.setIfInBounds_toArray, List.set_cons_zero, List.set_cons_succ]
                  refine wpAnyH_take (i := 10) (v := ?_) rfl (by kernel_rfl) (by kernel_rfl) (by kernel_rfl) (fun _ _ _ h => h) (Or.inl ⟨by rfl, ?_⟩) (by assumption) ?_
                  rotate_left
                  · (intro w hSw; (try dsimp only at hSw); go_simp; try with_reducible rfl)
                  simp only [Act.put, List.getElem_toArray, List.getElem_cons_zero, List.getElem_cons_succ, List.setIfInBounds_toArray, List.set_cons_zero, List.set_cons_succ]
                  refine wpAnyH_take (i := 11) (v := ?_) rfl (by kernel_rfl) (by kernel_rfl) (by kernel_rfl) (fun _ _ _ h => h) (Or.inl ⟨by rfl, ?_⟩) (by assumption) ?_
                  rotate_left
                  · (intro w hSw; (try dsimp only at hSw); go_simp; try with_reducible rfl)
                  simp only [Act.put, List.getElem_toArray, List.getElem_cons_zero, List.getElem_cons_succ, List.setIfInBounds_toArray, List.set_cons_zero, List.set_cons_succ]
                  refine wpAnyH_take (i := 12) (v := ?_) rfl (by kernel_rfl) (by kernel_rfl) (by kernel_rfl) (fun _ _ _ h => h) (Or.inl ⟨by rfl, ?_⟩) (by assumption) ?_
                  rotate_left
                  · (intro w hSw; (try dsimp only at hSw); go_simp; try with_reducible rfl)
                  simp only [Act.put, List.getElem_toArray, List.getElem_cons_zero, List.getElem_cons_succ, List.setIfInBounds_toArray, List.set_cons_zero, List.set_cons_succ]
                  refine wpAnyH_take (i := 13) (v := ?_) rfl (by kernel_rfl) (by kernel_rfl) (by kernel_rfl) (fun _ _ _ h => h) (Or.inl ⟨by rfl, ?_⟩) (by assumption) ?_
                  rotate_left
                  · (intro w hSw; (try dsimp only at hSw); go_simp; try with_reducible rfl)
                  simp only [Act.put, List.getElem_toArray, List.getElem_cons_zero, List.getElem_cons_succ, List.setIfInBounds_toArray, List.set_cons_zero, List.set_cons_succ]
                  refine wpAnyH_take (i := 14) (v := ?_) rfl (by kernel_rfl) (by kernel_rfl) (by kernel_rfl) (fun _ _ _ h => h) (Or.inl ⟨by rfl, ?_⟩) (by assumption) ?_
                  rotate_left
                  · (intro w hSw; (try dsimp only at hSw); go_simp; try with_reducible rfl)
                  simp only [Act.put, List.getElem_toArray, List.getElem_cons_zero, List.getElem_cons_succ, List.setIfInBounds_toArray, List.set_cons_zero, List.set_cons_succ]
                  refine wpAnyH_take (i := 15) (v := ?_) rfl (by kernel_rfl) (by kernel_rfl) (by kernel_rfl) (fun _ _ _ h => h) (Or.inl ⟨by rfl, ?_⟩) (by assumption) ?_
                  rotate_left
                  · (intro w hSw; (try dsimp only at hSw); go_simp; try with_reducible rfl)
                  simp only [Act.put, List.getElem_toArray, List.getElem_cons_zero, List.getElem_cons_succ, List.setIfInBounds_toArray, List.set_cons_zero, List.set_cons_succ]
                  refine wpAnyH_ready (rs := [9, 16]) (by kernel_rfl) (by simp) ?_
                  refine (AllReadyH.cons rfl (fun K hK => ?_) (AllReadyH.cons rfl (fun K hK => ?_) AllReadyH.nil))
                  · refine step_append_w (by rfl) _ _ _ _ (by rfl) _ _ (by rfl) (by rfl) hr1 ?_
                    refine hK.out _ _ y1 (fun hHeld => ?_)
                    clear hK K
                    simp only [Act.put, List.setIfInBounds_toArray]
                    refine wpAnyH_ready (rs := [16]) (by kernel_rfl) (by simp) ?_
                    refine AllReadyH.cons rfl (fun K hK => ?_) AllReadyH.nil
                    go_simp
                    refine hK.out _ _ (cell_al y1 _) (fun hHeld => ?_)
                    clear hK K
                    refine wpAnyH_ready (rs := [17]) (by kernel_rfl) (by simp) ?_
                    refine AllReadyH.cons rfl (fun K hK => ?_) AllReadyH.nil
                    go_simp
                    go_at_call 15
                    refine HS1.out.mono ?_
                    rintro e w24 ⟨rfl, hb24⟩
                    have HZ := Lib.hid (HK1.out w24 hb24)
                    have hHz : w24.cell? ⟨ib, fk, none⟩ = some (.int .i64 v) := by have h := HZ.out.is hfK; rw [HLv.out] at h; exact h
                    clear hb24 hHeld
                    go_wp2_with fail
                    refine hK.out _ _ hHz (fun hHeld => ?_)
                    clear hK K hHz
                    refine wpAnyH_take (i := 18) (v := ?_) rfl (by kernel_rfl) (by kernel_rfl) (by kernel_rfl) (fun _ _ _ h => h) (Or.inl ⟨by rfl, ?_⟩) (by assumption) ?_
                    rotate_left
                    · (intro w hSw; (try dsimp only at hSw); go_simp; try with_reducible rfl)
                    simp only [Act.put, List.getElem_toArray, List.getElem_cons_zero, List.getElem_cons_succ, List.setIfInBounds_toArray, List.set_cons_zero, List.set_cons_succ]
                    refine wpAnyH_take (i := 19) (v := ?_) rfl (by kernel_rfl) (by kernel_rfl) (by kernel_rfl) (fun _ _ _ h => h) (Or.inl ⟨by rfl, ?_⟩) (by assumption) ?_
                    rotate_left
                    · (intro w hSw; (try dsimp only at hSw); go_simp; try with_reducible rfl)
                    simp only [Act.put, List.getElem_toArray, List.getElem_cons_zero, List.getElem_cons_succ, List.setIfInBounds_toArray, List.set_cons_zero, List.set_cons_succ]
                    refine wpAnyH_done (by kernel_rfl) ?_ _
                    clear hHeld
                    go_wp2_with fail
                    go_meet
                    exact ⟨rfl, HZ.out⟩
                  · go_simp
                    refine hK.out _ _ (cell_al y0 _) (fun hHeld => ?_)
                    clear hK K
                    refine wpAnyH_ready (rs := [9]) (by kernel_rfl) (by simp) ?_
                    refine AllReadyH.cons rfl (fun K hK => ?_) AllReadyH.nil
                    refine step_append_w (by rfl) _ _ _ _ (by rfl) _ _ (by rfl) (by rfl) hr2 ?_
                    refine hK.out _ _ y2 (fun hHeld => ?_)
                    clear hK K
                    simp only [Act.put, List.setIfInBounds_toArray]
                    refine wpAnyH_ready (rs := [17]) (by kernel_rfl) (by simp) ?_
                    refine AllReadyH.cons rfl (fun K hK => ?_) AllReadyH.nil
                    go_simp
                    go_at_call 15
                    refine HS2.out.mono ?_
                    rintro e w24 ⟨rfl, hb24⟩
                    have HZ := Lib.hid (HK2.out w24 hb24)
                    have hHz : w24.cell? ⟨ib, fk, none⟩ = some (.int .i64 v) := by have h := HZ.out.is hfK; rw [HLv.out] at h; exact h
                    clear hb24 hHeld
                    go_wp2_with fail
                    refine hK.out _ _ hHz (fun hHeld => ?_)
                    clear hK K hHz
                    refine wpAnyH_take (i := 18) (v := ?_) rfl (by kernel_rfl) (by kernel_rfl) (by kernel_rfl) (fun _ _ _ h => h) (Or.inl ⟨by rfl, ?_⟩) (by assumption) ?_
                    rotate_left
                    · (intro w hSw; (try dsimp only at hSw); go_simp; try with_reducible rfl)
                    simp only [Act.put, List.getElem_toArray, List.getElem_cons_zero, List.getElem_cons_succ, List.setIfInBounds_toArray, List.set_cons_zero, List.set_cons_succ]
                    refine wpAnyH_take (i := 19) (v := ?_) rfl (by kernel_rfl) (by kernel_rfl) (by kernel_rfl) (fun _ _ _ h => h) (Or.inl ⟨by rfl, ?_⟩) (by assumption) ?_
                    rotate_left
                    · (intro w hSw; (try dsimp only at hSw); go_simp; try with_reducible rfl)
                    simp only [Act.put, List.getElem_toArray, List.getElem_cons_zero, List.getElem_cons_succ, List.setIfInBounds_toArray, List.set_cons_zero, List.set_cons_succ]
                    refine wpAnyH_done (by kernel_rfl) ?_ _
                    clear hHeld
                    go_wp2_with fail
                    go_meet
                    exact ⟨rfl, HZ.out⟩
                case rest =>
                  obtain ⟨rfl, HG4⟩ := hcut
                  clear y0 y1 y2 hr1 hr2 HS1 HS2 HK1 HK2 HG23 hi0 hi1 hfk
                  clear w1 w2 W23
                  have hk3 : IntKind.i64.wrap ((k : Int) + 1) = ((k + 1 : Nat) : Int) := by rw [Int.natCast_add]; exact IntWalk.i64_in _ (by omega)
                  go_wp2
                  go_roundw
                  case rel => exact ⟨k + 1, _, _, _, _, by omega, by go_num, rfl, rfl, rfl, rfl, HG4.out⟩
                  case measure => simp [intOf]; omega
      case pos =>
        have e0 : decide ((i : Int) ≤ (N : Int)) = true := decide_eq_true (by omega)
        have e0n : decide (i ≤ N) = true := decide_eq_true (by omega)
        obtain ⟨F, hF⟩ : ∃ F, F = n * i := ⟨_, rfl⟩
        obtain ⟨T, hT⟩ : ∃ T, T = n * (i + 1) := ⟨_, rfl⟩
        obtain ⟨i1, hi1⟩ : ∃ i1, i1 = i + 1 := ⟨_, rfl⟩
        have hTF : T = F + n := by rw [hT, hF, Nat.mul_succ]
        have hTK : T ≤ K := by rw [hT, HKe.out]; exact Nat.mul_le_mul_left n (by omega)
        have r0 : W11.cell? ⟨rb, i, none⟩ = some (.int .i64 (F : Int)) := by rw [hF]; exact HG.out.2.row (rowsK_at (by omega))
        have r1 : W11.cell? ⟨rb, i1, none⟩ = some (.int .i64 (T : Int)) := by rw [hT, hi1]; exact HG.out.2.row (rowsK_at (by omega))
        have hw1 : IntKind.i64.wrap ((i : Int) + 1) = (i1 : Int) := by rw [hi1, Int.natCast_add]; exact IntWalk.i64_in _ (by omega)
        have hw2 : (0 : Int) ≤ (i : Int) := by omega
        have hw3 : (i : Int) < (rn : Int) := by omega
        have hw4 : (0 : Int) ≤ (i1 : Int) := by omega
        have hw5 : (i1 : Int) < (rn : Int) := by omega
        have HFe := Lib.hid hF
        have HTe := Lib.hid hT
        have HI1 := Lib.hid hi1
        have HTF := Lib.hid hTF
        clear hF hT hi1 hTF
        go_upto_region 19 with fail
        go_quiet (fail)
        go_upto_region 20 with fail
        refine abs_world (Q := fun W => Code.wp _ _ _ _ W) (F := fun W => IsK n fs i 0 L ∧ KnG FF ib K L rb rn rc (rowsK n N) ib W) _ ⟨HG.out.1, HDr.out _ _ _ HG.out.2⟩ ?_
        clear HG r0 r1 hw1 hw4 hw5 c1 e0 e0n
        clear W11
        rintro W12 hG12
        as_aux_lemma =>
          have HG12 := Lib.hid hG12
          clear hG12
          have hwn : IntKind.i64.wrap ((T : Int) - (F : Int)) = (n : Int) := by rw [show (T : Int) - (F : Int) = (n : Int) by have := HTF.out; omega]; exact IntWalk.i64_in _ (by omega)
          go_wp2
          go_loopw [13, 17, 18, 19, 20] (fun s13 s17 s18 s19 s20 wq => ∃ (k m : Nat) (v18 v19 v20 : Value) (L : List Int), k ≤ n ∧ s17 = .int .i64 (k : Int) ∧ s13 = .int .i64 (m : Int) ∧ v18 = s18 ∧ v19 = s19 ∧ v20 = s20 ∧ Hid (m = mN n fs i k) ∧ Hid (IsK n fs i k L ∧ KnG FF ib K L rb rn rc (rowsK n N) ib wq)) (fun _ s17 _ _ _ _ => n - (intOf s17).toNat)
          case atStart => exact ⟨0, m, _, _, _, L, Nat.zero_le _, rfl, rfl, rfl, rfl, rfl, HM.out, HG12.out⟩
          case round =>
            obtain ⟨k, m, v18, v19, v20, L, hk, rfl, rfl, rfl, rfl, rfl, HM2, HG⟩ := hrel
            clear HG12 HM
            obtain ⟨W13, hW13⟩ : ∃ x : World, x = wr := ⟨_, rfl⟩
            rw [← hW13] at HG ⊢
            clear hW13
            by_cases hlt2 : k < n
            case neg =>
              have hkn : k = n := by omega
              have HG' : Hid (IsK n fs (i + 1) 0 L ∧ KnG FF ib K L rb rn rc (rowsK n N) ib W13) := ⟨by have := HG.out.1; rw [hkn] at this; exact this.next, HG.out.2⟩
              have HM' : Hid (m = mN n fs (i + 1) 0) := by show _ = _; rw [HM2.out, hkn, mN_next]
              have q0 : decide ((k : Int) < (n : Int)) = false := decide_eq_false (by omega)
              have q0n : decide (k < n) = false := decide_eq_false (by omega)
              have hw6 : IntKind.i64.wrap ((i : Int) + 1) = ((i + 1 : Nat) : Int) := by rw [Int.natCast_add]; exact IntWalk.i64_in _ (by omega)
              clear HG HM2 hkn
              go_wp2
              go_roundw
              case rel => exact ⟨i + 1, m, _, _, _, _, _, _, L, by omega, by go_num, rfl, rfl, rfl, rfl, rfl, rfl, rfl, HM'.out, HG'.out⟩
              case measure => simp [intOf]; omega
            case pos =>
              have q0 : decide ((k : Int) < (n : Int)) = true := decide_eq_true (by omega)
              have q0n : decide (k < n) = true := decide_eq_true (by omega)
              obtain ⟨o, ho⟩ : ∃ o, o = ordI i n k := ⟨_, rfl⟩
              have hon : o < n := by rw [ho]; exact ordI_lt hlt2
              obtain ⟨X, hX⟩ : ∃ X, X = F + o := ⟨_, rfl⟩
              have hXK : X < K := by have := HTF.out; omega
              obtain ⟨sb, hsb⟩ : ∃ sb, sb = slipK fs i o := ⟨_, rfl⟩
              obtain ⟨od, hod⟩ : ∃ od : Bool, od = decide (i % 2 = 1) := ⟨_, rfl⟩
              have hoc : o = if od then n - 1 - k else k := by rw [ho, hod]; rfl
              obtain ⟨rr, hrm⟩ : ∃ rr : Int, (i : Int).tmod 2 = rr := ⟨_, rfl⟩
              have HRr : Hid ((od = true ∧ rr = 1) ∨ (od = false ∧ rr = 0)) := by
                show _ ∨ _
                rw [← hrm, hod, Int.tmod_eq_emod_of_nonneg (by omega)]
                by_cases h : i % 2 = 1
                · exact Or.inl ⟨decide_eq_true h, by omega⟩
                · exact Or.inr ⟨decide_eq_false h, by omega⟩
              obtain ⟨fk, hfk0⟩ : ∃ fk, fk = F + k := ⟨_, rfl⟩
              have hfk : IntKind.i64.wrap ((F : Int) + (k : Int)) = (fk : Int) := by rw [hfk0, Int.natCast_add]; exact IntWalk.i64_in _ (by have := HTF.out; omega)
              have hs1 : IntKind.i64.wrap ((T : Int) - 1) = (T : Int) - 1 := IntWalk.i64_in _ (by omega)
              have hXo : Hid (od = false → X = fk) := fun h => by rw [hX, hoc, h, hfk0]; rfl
              have hXt : Hid (od = true → IntKind.i64.wrap ((T : Int) - 1 - (k : Int)) = (X : Int)) := fun h => by
                rw [h, if_pos rfl] at hoc
                have := HTF.out
                rw [hX, hoc, IntWalk.i64_in _ (by omega)]
                omega
              have HO := Lib.hid ho
              have HXe2 := Lib.hid hX
              have HSb := Lib.hid hsb
              clear ho hX hsb hod hoc hfk0
              go_upto_if 129 with fail
              go_cut [18] (fun s18 wx => s18 = .int .i64 (X : Int) ∧ Hid (KnG FF ib K L rb rn rc (rowsK n N) ib wx))
              case first => as_aux_lemma =>
                rcases HRr.out with ⟨h7, h8⟩ | ⟨h7, h8⟩
                · have h9 := hXt.out h7
                  subst h8
                  clear hXt hXo h7 HRr
                  go_wp2_with fail
                  go_meet
                  exact ⟨rfl, HG.out.2⟩
                · have HX9 := Lib.hid (hXo.out h7)
                  subst h8
                  clear hXt hXo h7 HRr
                  go_wp2_with fail
                  go_meet
                  exact ⟨by rw [HX9.out], HG.out.2⟩
              case rest =>
                obtain ⟨rfl, HG2⟩ := hcut
                have HIs := Lib.hid HG.out.1
                clear HG hXt hXo hs1 hfk hrm HRr q0 q0n
                clear rr
                clear W13
                obtain ⟨W14, hW14⟩ : ∃ x : World, x = wc := ⟨_, rfl⟩
                rw [← hW14] at HG2 ⊢
                clear hW14
                go_upto_region 26 with fail
                go_cut [19] (fun s19 wx => s19 = .bool sb ∧ Hid (KnG FF ib K L rb rn rc (rowsK n N) ib wx))
                case first => as_aux_lemma =>
                  by_cases hi0 : i = 0
                  · have e1 : decide ((0 : Int) < (i : Int)) = false := decide_eq_false (by omega)
                    have e1n : decide (0 < i) = false := decide_eq_false (by omega)
                    have HV : Hid (false = sb) := by show _ = _; rw [HSb.out]; unfold slipK; rw [if_pos hi0]
                    clear hi0
                    go_wp2_with fail
                    go_meet
                    exact ⟨by rw [HV.out], HG2.out⟩
                  · obtain ⟨j, hj⟩ : ∃ j, j + 1 = i := ⟨i - 1, by omega⟩
                    have e1 : decide ((0 : Int) < (i : Int)) = true := decide_eq_true (by omega)
                    have e1n : decide (0 < i) = true := decide_eq_true (by omega)
                    have hfw := HFF.out _ HG2.out.f
                    obtain ⟨x1, hx1, hx2, -⟩ := HLp.out.at_ i o (by omega) hon
                    rw [← HLPe.out, ← HFe.out, ← HXe2.out] at hx1
                    have hpl : x1.par.length = 1 := by rw [hx2]; unfold parK; rw [if_neg hi0]; rfl
                    obtain ⟨b1, off1, l1, A1, C1, hoa, hb1, hl1, -, -, k2, -, -⟩ := hfw.ol.at_ (j := X) (by rw [HLK.out]; exact hXK)
                    rw [hx1] at hl1
                    obtain rfl : x1 = l1 := by simpa using hl1
                    rw [hpl] at k2
                    obtain ⟨b2, off2, r, A2, C2, hAe, hb2, hpr, d0, d1, hC2, hsl2⟩ := hfw.sl.at_ (k := j) (by rw [← HNe.out]; omega)
                    have hfr : fs[j]? = some (faceL r) := by rw [HFs.out, List.getElem?_map, hpr]; rfl
                    have hfl : (faceL r).length = n := HPc.out.len _ (List.mem_of_getElem? hfr)
                    obtain ⟨s, hso⟩ : ∃ s, (faceL r)[o]? = some s := ⟨_, List.getElem?_eq_getElem (by omega)⟩
                    have hgd : fs.getD j [] = faceL r := by rw [List.getD_eq_getElem?_getD, hfr]; rfl
                    have hgs : cellK (faceL r) o = s := by unfold cellK; rw [List.getD_eq_getElem?_getD, hso]; rfl
                    have hkb : (s.kind == 8) = sb := by
                      rw [HSb.out]; unfold slipK
                      rw [if_neg hi0, show i - 1 = j by omega, hgd, hgs]
                      by_cases h8 : s.kind = 8
                      · simp [h8]
                      · simp [h8]
                    have HSn := Lib.hid (seen_row HXe.out.symm hpr A2 C2 W14 (hsl2.more HG2.out.hs))
                    have HSo := Lib.hid (And.intro hso hfl)
                    have hv1 : IntKind.i64.wrap ((i : Int) - 1) = (j : Int) := by rw [show (i : Int) - 1 = (j : Int) by omega]; exact IntWalk.i64_in _ (by omega)
                    have hv2 : IntKind.i64.wrap ((X : Int) - (F : Int)) = (o : Int) := by rw [show (X : Int) - (F : Int) = (o : Int) by have := HXe2.out; omega]; exact IntWalk.i64_in _ (by omega)
                    have hv3 : (0 : Int) ≤ (X : Int) := by omega
                    have hv4 : (X : Int) < (K : Int) := by omega
                    have hv5 : (0 : Int) ≤ (j : Int) := by omega
                    have hv6 : (j : Int) < (N : Int) := by omega
                    have hv7 : (0 : Int) ≤ (o : Int) := by omega
                    have hv8 : (o : Int) < (n : Int) := by omega
                    have c1 := hfw.c1
                    obtain ⟨rl, hrl⟩ : ∃ rl, rl = r.2.length := ⟨_, rfl⟩
                    obtain ⟨r1, hr1⟩ : ∃ r1, r1 = r.1 := ⟨_, rfl⟩
                    rw [← hrl] at d1 HSn
                    rw [← hr1] at d0 HSn
                    subst hoa hAe
                    clear hi0 hfw hx1 hx2 hpl hb1 hl1 hb2 hpr hC2 hsl2 hfr hfl hso hrl hr1 hj hgd hgs
                    go_wp2_with ((go_at_call 13; refine HSn.out.mono ?_; rintro e w11 ⟨v, rfl, hv, hb11⟩; obtain ⟨g, gc, rfl⟩ := pxS_at hv HSo.out.1 HSo.out.2; obtain ⟨y0, -, -, -⟩ := pxS_cell hv HSo.out.1; have HB11 := Lib.hid hb11; clear hv hb11))
                    go_meet
                    exact ⟨by first | rfl | simp [hkb], HG2.out.to HUp.out HB11.out⟩
                case rest =>
                  obtain ⟨rfl, HG3⟩ := hcut
                  clear HG2
                  clear W14
                  obtain ⟨W15, hW15⟩ : ∃ x : World, x = wc := ⟨_, rfl⟩
                  rw [← hW15] at HG3 ⊢
                  clear hW15
                  have y1 := HG3.out.is hXK
                  have hv3 : (0 : Int) ≤ (X : Int) := by omega
                  have hv4 : (X : Int) < (K : Int) := by omega
                  cases sb with
                  | true => as_aux_lemma =>
                    have hsl := HSb.out.symm
                    rw [HO.out] at hsl
                    obtain ⟨h0, h1, h2⟩ := slip_cur hlt2 hsl
                    rw [← HO.out] at h2
                    obtain ⟨j, hj⟩ : ∃ j, j + 1 = i := ⟨i - 1, by omega⟩
                    rw [show i - 1 = j by omega] at h2
                    obtain ⟨F1, hF1⟩ : ∃ F1, F1 = n * j := ⟨_, rfl⟩
                    have hF1F : F1 + n = F := by rw [hF1, HFe.out, ← hj, Nat.mul_succ]
                    obtain ⟨Y, hY⟩ : ∃ Y, Y = F1 + o := ⟨_, rfl⟩
                    obtain ⟨fx, hfx⟩ : ∃ fx, fx = F1 + X := ⟨_, rfl⟩
                    have hXe := HXe2.out
                    have z1 : W15.cell? ⟨rb, j, none⟩ = some (.int .i64 (F1 : Int)) := by rw [hF1]; exact HG3.out.row (rowsK_at (by omega))
                    have y2 := HG3.out.is (j := Y) (by omega)
                    have hv1 : IntKind.i64.wrap ((i : Int) - 1) = (j : Int) := by rw [show (i : Int) - 1 = (j : Int) by omega]; exact IntWalk.i64_in _ (by omega)
                    have hv5 : (0 : Int) ≤ (j : Int) := by omega
                    have hv6 : (j : Int) < (rn : Int) := by omega
                    have hv7 : IntKind.i64.wrap ((F1 : Int) + (X : Int)) = (fx : Int) := by rw [hfx, Int.natCast_add]; exact IntWalk.i64_in _ (by omega)
                    have hv8 : IntKind.i64.wrap ((fx : Int) - (F : Int)) = (Y : Int) := by rw [show (fx : Int) - (F : Int) = (Y : Int) by omega]; exact IntWalk.i64_in _ (by omega)
                    have hv9 : (0 : Int) ≤ (Y : Int) := by omega
                    have hv10 : (Y : Int) < (K : Int) := by omega
                    obtain ⟨v, hv⟩ : ∃ v, v = L.getD Y 0 := ⟨_, rfl⟩
                    rw [← hv] at y2
                    have hvc : v = curK n fs i (ordI i n k) := by
                      rw [hv, hY, hF1, HIs.out.rows j o (by omega) hon, ← HO.out, h2]
                    obtain ⟨hg4, hfz⟩ := HG3.out.set HUp.out X v
                    have hst := HIs.out.step hlt2 hvc (by rw [← HFe.out, ← HO.out, ← hXe, HG3.out.hl]; exact hXK)
                    rw [← HFe.out, ← HO.out, ← hXe] at hst
                    have HQ := Lib.hid (And.intro hst hg4)
                    have HM' : Hid (m = mN n fs i (k + 1)) := by show _ = _; rw [HM2.out, h1]
                    clear hsl h0 h1 h2 hj hF1 hF1F hY hfx hXe hv hvc hg4 hst
                    go_wp2
                    go_roundw
                    case rel => exact ⟨k + 1, m, _, _, _, L.set X v, by omega, by go_num, rfl, rfl, rfl, rfl, HM'.out, HQ.out⟩
                    case measure => simp [intOf]; omega
                  | false => as_aux_lemma =>
                    have hsl := HSb.out.symm
                    rw [HO.out] at hsl
                    obtain ⟨h1, h2, h3, h4⟩ := made_cur (j := N) hlt2 (by omega) hsl
                    rw [← HM2.out] at h1 h2 h3 h4
                    rw [← HMd.out] at h3 h4
                    rw [← HTm.out] at h3
                    obtain ⟨hg4, hfz⟩ := HG3.out.set HUp.out X (m : Int)
                    have hst := HIs.out.step hlt2 h2.symm (by rw [← HFe.out, ← HO.out, ← HXe2.out, HG3.out.hl]; exact hXK)
                    rw [← HFe.out, ← HO.out, ← HXe2.out] at hst
                    rw [← HO.out] at h2 h4
                    obtain ⟨m1, hm1⟩ : ∃ m1, m1 = m + 1 := ⟨_, rfl⟩
                    have HM' : Hid (m1 = mN n fs i (k + 1)) := by show _ = _; rw [hm1, h1]
                    have hwm : IntKind.i64.wrap ((m : Int) + 1) = (m1 : Int) := by rw [hm1, Int.natCast_add]; exact IntWalk.i64_in _ (by omega)
                    have hLx : (L.set X (m : Int)).getD X 0 = (m : Int) := by rw [getD_set (by rw [HG3.out.hl]; exact hXK), if_pos rfl]
                    obtain ⟨L2, hL2⟩ : ∃ L2, L2 = L.set X (m : Int) := ⟨_, rfl⟩
                    rw [← hL2] at hg4 hst hLx
                    have HL2 := Lib.hid hLx
                    have HQ := Lib.hid (And.intro hst hg4)
                    have HMk := Lib.hid h4
                    clear hsl h1 h2 h4 hm1 hst hg4 hLx hL2
                    go_upto_region 31 with fail
                    refine abs_world (Q := fun W => Code.wp _ _ _ _ W) (F := fun W => KnG FF ib K L2 rb rn rc (rowsK n N) ib W) _ HQ.out.2 ?_
                    have HIs2 := Lib.hid HQ.out.1
                    clear HQ HG3 HIs HM2 y1 hfz hwm
                    clear W15
                    clear L
                    rintro W16 hG16
                    have HG16 := Lib.hid hG16
                    have y1 := hG16.is hXK
                    rw [HL2.out] at y1
                    have b3 := (HFF.out _ hG16.f).b3
                    have hm0 : (0 : Int) ≤ (m : Int) := by omega
                    have hm2 : decide ((tm : Int) ≤ (m : Int)) = false := decide_eq_false (by omega)
                    have hm2n : decide (tm ≤ m) = false := decide_eq_false (by omega)
                    clear hG16
                    go_quiet (fail)
                    go_upto_region 33 with fail
                    refine abs_world (Q := fun W => Code.wp _ _ _ _ W) (F := fun W => KnG FF ib K L2 rb rn rc (rowsK n N) ib W) _ (HDr.out _ _ _ HG16.out) ?_
                    clear HG16 y1 b3
                    clear W16
                    rintro W17 hG17
                    as_aux_lemma =>
                      have HG17 := Lib.hid hG17
                      have y1 := hG17.is hXK
                      rw [HL2.out] at y1
                      have hfw := HFF.out _ hG17.f
                      have b3 := hfw.b3
                      obtain ⟨bm, offm, mk, Am, Cm, hqa, hbm, hmk, n0, n1, n2, n3, -, hps⟩ := hfw.bd.made.at_ (k := m) (by rw [← HTm.out]; exact h3)
                      rw [hqa] at b3
                      rw [HMk.out] at hmk
                      cases hmk
                      have hm3 : (m : Int) < (tm : Int) := by omega
                      obtain ⟨ps, hpse⟩ : ∃ ps, ps = (if i = 0 then ([] : List Int) else [curK n fs (i - 1) o]) := ⟨_, rfl⟩
                      have HPs := Lib.hid hpse
                      rw [← hpse] at n0 hps
                      obtain ⟨pn, hpn⟩ : ∃ pn, pn = ps.length := ⟨_, rfl⟩
                      obtain ⟨bv, hbv⟩ : ∃ bv : Int, bv = if purlK fs i o then 1 else 0 := ⟨_, rfl⟩
                      have HPn := Lib.hid hpn
                      have HBv := Lib.hid hbv
                      have HPS := Lib.hid hps
                      simp only [← hpn, ← hbv] at n0 n1 n2 n3
                      clear hpse hps
                      have ha1 : ∀ (ob : Obj) (z : Nat), (W17.alloc ob).cell? ⟨ib, z, none⟩ = W17.cell? ⟨ib, z, none⟩ := fun ob z => bcell (al_t W17 ob) (lt_of_cell y1) z
                      have ha2 : ∀ (ob : Obj) (z : Nat), (W17.alloc ob).cell? ⟨bb, z, none⟩ = W17.cell? ⟨bb, z, none⟩ := fun ob z => bcell (al_t W17 ob) (lt_of_cell b3) z
                      have ha3 : ∀ (ob : Obj) (z : Nat), (W17.alloc ob).cell? ⟨bm, z, none⟩ = W17.cell? ⟨bm, z, none⟩ := fun ob z => bcell (al_t W17 ob) (lt_of_cell n0) z
                      clear hG17 hfw hqa hbm hpn hbv
                      go_region
                      go_upto_region 34 with fail
                      obtain ⟨mb, hmb⟩ : ∃ mb, mb = W17.heap.size := ⟨_, rfl⟩
                      refine abs_world (Q := fun W => Code.wp _ _ _ _ W) (F := fun W => KnG FF ib K L2 rb rn rc (rowsK n N) ib W ∧ (W.cell? ⟨mb, 0, none⟩ = some (.slice Am pn Cm) ∧ W.cell? ⟨mb, 1, none⟩ = some (.int .u8 bv) ∧ W.cell? ⟨mb, 2, none⟩ = some (.int .i64 (o : Int)) ∧ W.cell? ⟨mb, 3, none⟩ = some (.int .i64 1)) ∧ SlI W ib Am ps) _ (by
                        have hal := al_t W17 (.cells #[.slice Am pn Cm, .int .u8 bv, .int .i64 (o : Int), .int .i64 1] 57)
                        have hal2 : Below W17.heap.size W17 (W17.alloc (.cells #[.slice Am pn Cm, .int .u8 bv, .int .i64 (o : Int), .int .i64 1] 57)).drew := hal.drew
                        rw [hmb]
                        exact ⟨HG17.out.to HUp.out hal2, ⟨cell_new (w1 := (W17.alloc _)) rfl rfl rfl, cell_new (w1 := (W17.alloc _)) rfl rfl rfl, cell_new (w1 := (W17.alloc _)) rfl rfl rfl, cell_new (w1 := (W17.alloc _)) rfl rfl rfl⟩, HPS.out.below (hal2.mono HG17.out.hs)⟩) ?_
                      rw [← hmb]
                      clear HG17 HPS y1 b3 n0 n1 n2 n3 ha1 ha2 ha3 hm3 hmb
                      clear W17
                      rintro W18 ⟨hG18, ⟨n0, n1, n2, n3⟩, hps⟩
                      as_aux_lemma =>
                        have HG18 := Lib.hid (And.intro hG18 (And.intro (And.intro n0 (And.intro n1 (And.intro n2 n3))) hps))
                        have hfw := HFF.out _ hG18.f
                        obtain ⟨x1, hx1, hx2, hx3⟩ := HLp.out.at_ i o (by omega) hon
                        rw [← HLPe.out, ← HFe.out, ← HXe2.out] at hx1
                        obtain ⟨b1, off1, l1, A1, C1, hoa, hb1, hl1, -, -, k2, k3, -⟩ := hfw.ol.at_ (j := X) (by rw [HLK.out]; exact hXK)
                        rw [hx1] at hl1
                        obtain rfl : x1 = l1 := by simpa using hl1
                        have hpl : x1.par.length = pn := by
                          rw [hx2, HPn.out, HPs.out]
                          unfold parK
                          by_cases h0 : i = 0
                          · rw [if_pos h0, if_pos h0]
                          · rw [if_neg h0, if_neg h0]; rfl
                        rw [hpl] at k2
                        rw [hx3 HSb.out.symm] at k3
                        obtain ⟨pu, hpu⟩ : ∃ pu, pu = purlK fs i o := ⟨_, rfl⟩
                        rw [← hpu] at k3
                        have hbp : ((bv == 1) != pu) = false := by
                          rw [HBv.out, ← hpu]
                          cases pu <;> rfl
                        have hbp2 : ((bv == 1) == pu) = true := by
                          rw [HBv.out, ← hpu]
                          cases pu <;> rfl
                        have hbp3 : (!((bv == 1) == pu)) = false := by rw [hbp2]; rfl
                        have hv2 : IntKind.i64.wrap ((X : Int) - (F : Int)) = (o : Int) := by rw [show (X : Int) - (F : Int) = (o : Int) by have := HXe2.out; omega]; exact IntWalk.i64_in _ (by omega)
                        have hoo : ((o : Int) != (o : Int)) = false := by simp
                        have hpp : ((pn : Int) != (pn : Int)) = false := by simp
                        subst hoa
                        clear hG18 hfw hx1 hx2 hx3 hb1 hl1 hpl hps hpu
                        go_quiet (fail)
                        go_upto_region 36 with fail
                        refine abs_world (Q := fun W => Code.wp _ _ _ _ W) (F := fun W => KnG FF ib K L2 rb rn rc (rowsK n N) ib W ∧ W.cell? ⟨mb, 0, none⟩ = some (.slice Am pn Cm) ∧ SlI W ib Am ps) _ (by
                          obtain ⟨h1, ⟨h2, -, -, -⟩, h3⟩ := HG18.out
                          exact ⟨HDr.out _ _ _ h1, (bcell (below_drewT (Below.refl _ W18) _) (lt_of_cell h2) _).trans h2, h3.below (below_drewT (Below.refl _ W18) _)⟩) ?_
                        clear HG18 n0 n1 n2 n3 k2 k3 hbp hbp2 hbp3 hpp hoo hv2
                        clear W18
                        rintro W19 ⟨hG19, n0, hps⟩
                        as_aux_lemma =>
                          have HG19 := Lib.hid (And.intro hG19 (And.intro n0 hps))
                          by_cases hi0 : i = 0
                          · have e1 : decide ((0 : Int) < (i : Int)) = false := decide_eq_false (by omega)
                            have e1n : decide (0 < i) = false := decide_eq_false (by omega)
                            clear hG19 n0 hps hi0
                            go_quiet (fail)
                            go_wp2
                            go_roundw
                            case rel => exact ⟨k + 1, m1, _, _, _, L2, by omega, by go_num, rfl, rfl, rfl, rfl, HM'.out, HIs2.out, HDr.out _ _ _ HG19.out.1⟩
                            case measure => simp [intOf]; omega
                          · obtain ⟨j, hj⟩ : ∃ j, j + 1 = i := ⟨i - 1, by omega⟩
                            have e1 : decide ((0 : Int) < (i : Int)) = true := decide_eq_true (by omega)
                            have e1n : decide (0 < i) = true := decide_eq_true (by omega)
                            have hps1 : ps = [curK n fs j o] := by rw [HPs.out, if_neg hi0, show i - 1 = j by omega]
                            have hpn1 : pn = 1 := by rw [HPn.out, hps1]; rfl
                            rw [hps1] at hps
                            obtain ⟨b4, off4, z4, hAm, hb4, hz4, hc4⟩ := hps.at_ (k := 0) (by simp)
                            obtain rfl : curK n fs j o = z4 := by simpa using hz4
                            obtain ⟨v, hv⟩ : ∃ v, v = curK n fs j o := ⟨_, rfl⟩
                            rw [← hv] at hc4
                            have hc5 : W19.cell? ⟨b4, off4, none⟩ = some (.int .i64 v) := hc4
                            obtain ⟨F1, hF1⟩ : ∃ F1, F1 = n * j := ⟨_, rfl⟩
                            have hF1F : F1 + n = F := by rw [hF1, HFe.out, ← hj, Nat.mul_succ]
                            obtain ⟨Y, hY⟩ : ∃ Y, Y = F1 + o := ⟨_, rfl⟩
                            obtain ⟨fx, hfx⟩ : ∃ fx, fx = F1 + X := ⟨_, rfl⟩
                            have hXe := HXe2.out
                            have z1 : W19.cell? ⟨rb, j, none⟩ = some (.int .i64 (F1 : Int)) := by rw [hF1]; exact hG19.row (rowsK_at (by omega))
                            have y2 := hG19.is (j := Y) (by omega)
                            rw [hY, hF1, HIs2.out.rows j o (by omega) hon, ← hv, ← hF1, ← hY] at y2
                            have hv1 : IntKind.i64.wrap ((i : Int) - 1) = (j : Int) := by rw [show (i : Int) - 1 = (j : Int) by omega]; exact IntWalk.i64_in _ (by omega)
                            have hv5 : (0 : Int) ≤ (j : Int) := by omega
                            have hv6 : (j : Int) < (rn : Int) := by omega
                            have hv7 : IntKind.i64.wrap ((F1 : Int) + (X : Int)) = (fx : Int) := by rw [hfx, Int.natCast_add]; exact IntWalk.i64_in _ (by omega)
                            have hv8 : IntKind.i64.wrap ((fx : Int) - (F : Int)) = (Y : Int) := by rw [show (fx : Int) - (F : Int) = (Y : Int) by omega]; exact IntWalk.i64_in _ (by omega)
                            have hv9 : (0 : Int) ≤ (Y : Int) := by omega
                            have hv10 : (Y : Int) < (K : Int) := by omega
                            have hv11 : (0 : Int) < (pn : Int) := by omega
                            have hvv : (v != v) = false := by simp
                            subst hAm
                            clear hG19 hps hi0 hj hps1 hpn1 hb4 hz4 hc4 hv hF1 hF1F hY hfx hXe
                            go_quiet (fail)
                            go_wp2
                            go_roundw
                            case rel => exact ⟨k + 1, m1, _, _, _, L2, by omega, by go_num, rfl, rfl, rfl, rfl, HM'.out, HIs2.out, HDr.out _ _ _ HG19.out.1⟩
                            case measure => simp [intOf]; omega
end Go.Proofs.YtbnddpknejgmhaaGreat
