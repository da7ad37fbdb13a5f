/- TransferKnits, walked. -/
import Derived.Test.YtflpikickbellaaGreatZ42
import Derived.Test.YtflpikickbellaaGreatZ48
import Derived.Test.YtflpikickbellaaGreatZ50
namespace Go.Proofs.YtflpikickbellaaGreat
open Go.RowKit Go.Shelf Go.Sort
set_option maxRecDepth 100000
structure TkA (w : World) (A : Option Addr) (l : List Stc) (sb : Nat) (As Fs : Option Addr) (cs fcs : Nat) (s : Sft) (W : World) : Prop where
 lo : Below w.heap.size w W
 cl : SlT W W.heap.size A l
 bx : SfBx sb As Fs cs fcs s W
theorem TkA.to {w W W' : World} {A : Option Addr} {l : List Stc} {sb : Nat} {As Fs : Option Addr} {cs fcs : Nat} {s : Sft} (h : TkA w A l sb As Fs cs fcs s W) (hb : Below W.heap.size W W') : TkA w A l sb As Fs cs fcs s W' :=
 ⟨h.lo.trans (hb.mono h.lo.size), (h.cl.below hb).more hb.size, h.bx.to hb⟩
structure TkB (w : World) (A : Option Addr) (l : List Stc) (sb : Nat) (As Fs : Option Addr) (cs fcs : Nat) (s : Sft) (a1 : Option Addr) (L : List Ins) (bb : Nat) (b : BedS) (p : BedP) (n : Nat) (W : World) : Prop where
 a : TkA w A l sb As Fs cs fcs s W
 x : SlX W W.heap.size a1 L
 c0 : W.cell? ⟨bb, 0, none⟩ = some (.int .i64 b.rack)
 c1 : W.cell? ⟨bb, 1, none⟩ = some (.slice p.ah b.hooks.length p.ch)
 c2 : W.cell? ⟨bb, 2, none⟩ = some (.slice p.af b.feeds.length p.cf)
 c3 : W.cell? ⟨bb, 3, none⟩ = some (.slice p.am n p.cm)
 bd : BedAt W W.heap.size p b
theorem TkB.to {w W W' : World} {A : Option Addr} {l : List Stc} {sb : Nat} {As Fs : Option Addr} {cs fcs : Nat} {s : Sft} {a1 : Option Addr} {L : List Ins} {bb : Nat} {b : BedS} {p : BedP} {n : Nat} (h : TkB w A l sb As Fs cs fcs s a1 L bb b p n W) (hb : Below W.heap.size W W') : TkB w A l sb As Fs cs fcs s a1 L bb b p n W' :=
 have hs := lt_of_cell h.c0
 ⟨h.a.to hb, (h.x.below hb).more hb.size, (bcell hb hs _).trans h.c0, (bcell hb hs _).trans h.c1, (bcell hb hs _).trans h.c2, (bcell hb hs _).trans h.c3, (h.bd.below hb).more hb.size⟩
theorem row_lit {W : World} {A : Option Addr} {c : Nat} {l : List Stc} (hc : l.length ≤ c) (h : SlT W W.heap.size A l) : SlC (W.alloc (.cells #[.bool false, .slice A l.length c] 58)) (W.alloc (.cells #[.bool false, .slice A l.length c] 58)).heap.size (some ⟨W.heap.size, 0, none⟩) [(false, l)] := fun _ => by
 have hal := al_t W (.cells #[.bool false, .slice A l.length c] 58)
 refine ⟨W.heap.size, 0, rfl, by simp, fun j r hr => ?_⟩
 match j with
 | 0 =>
   simp at hr
   subst hr
   exact ⟨A, c, cell_new rfl rfl rfl, cell_new rfl rfl rfl, hc, (h.below hal).more hal.size⟩
 | j + 1 => simp at hr
theorem kx_turn (a b : Int) : ∀ i ∈ turnI a b, i.wf := fun i hi => by
 unfold turnI at hi
 split at hi
 · cases hi
 · rw [List.mem_singleton.1 hi]
   exact ⟨by show (0 : Int) ≤ 8; decide, by show (8 : Int) ≤ 255; decide, by show (0 : Int) ≤ 0; decide, by show (0 : Int) ≤ 255; decide⟩
theorem kx_xf (b n tt : Int) (hb : 0 ≤ b ∧ b ≤ 1) : (xfT b n tt).wf := ⟨by show (0 : Int) ≤ 7; decide, by show (7 : Int) ≤ 255; decide, hb.1, by show b ≤ 255; omega⟩
theorem kx_runP {s : Sft} {l : List Int} (h : okL s l) : ∀ k, k ≤ l.length → ∀ i ∈ (runP s l k).2, i.wf
 | 0, _ => fun i hi => by
   rw [runP_zero] at hi
   unfold frontP at hi
   obtain ⟨j, -, rfl⟩ := List.mem_map.1 hi
   exact kx_xf 0 j j ⟨by decide, by decide⟩
 | k + 1, hk => fun i hi => by
   obtain ⟨j, hj, -⟩ := h l[k] (List.getElem_mem (by omega))
   rw [runP_next (i := j) (by rw [List.getElem?_eq_getElem (by omega), hj])] at hi
   rcases List.mem_append.1 hi with hi | hi
   · exact kx_runP h k (by omega) i hi
   · rcases List.mem_append.1 hi with hi | hi
     · exact kx_turn _ _ i hi
     · rw [List.mem_singleton.1 hi]
       exact kx_xf 1 j _ ⟨by decide, by decide⟩
theorem tk_all {l : List Stc} {s : Sft} {n nd : Nat} {P : List (List Int)} (h : TkS l s n nd P) (hp : (plndE s).2 = 0) (hnd : nd ≤ 101) :
 ∃ t, runS (begT n) (tkI s nd) = (t, (((tkI s nd).length : Nat) : Int), 0) ∧ t.made.length = n + nd ∧ ∀ q, q < nd → ∃ m, t.made[n + q]? = some m ∧ m.parents = P.getD (n + q) [] := by
 have hk := (begT_run (n := n) (by have := h.few; omega)).2
 obtain ⟨t, h1, -, h3, h4⟩ := tk_run h hp hnd hk
 have hlen : (plE s).1.length ≤ 200 := by
  obtain ⟨hs, hF, -, -, hl⟩ := plan_ok hp
  have ep : plE s = (plnI s (plndE s).1, 0) := by unfold plE; rw [if_neg (by simpa using hp)]
  rw [ep]
  show (plnI s (plndE s).1).length ≤ 200
  unfold plnI
  rw [List.length_append]
  have h5 := runP_len hF.ok _ (Nat.le_refl _)
  have h6 := turnI_len (runP s (plndE s).1 (plndE s).1.length).1 0
  have h7 := (ordE_ok s).2
  rw [← hl] at h7
  have h8 := hs.len
  omega
 refine ⟨t, ?_, h3, h4⟩
 unfold runS
 rw [if_neg (by rw [hk.good.err]; decide), if_neg (by unfold tkI; simp only [List.length_append, List.length_map, List.length_range, List.length_singleton]; omega)]
 exact h1
theorem tk_wf {s : Sft} (hp : (plndE s).2 = 0) {nd : Nat} (hnd : nd ≤ 101) : ∀ i ∈ tkI s nd, i.wf := fun i hi => by
 obtain ⟨hs, hF, -, -, hl⟩ := plan_ok hp
 have ep : plE s = (plnI s (plndE s).1, 0) := by unfold plE; rw [if_neg (by simpa using hp)]
 unfold tkI at hi
 rw [ep] at hi
 rcases List.mem_append.1 hi with hi | hi
 · rcases List.mem_append.1 hi with hi | hi
   · have hi : i ∈ plnI s (plndE s).1 := hi
     unfold plnI at hi
     rcases List.mem_append.1 hi with hi | hi
     · exact kx_runP hF.ok _ (Nat.le_refl _) i hi
     · exact kx_turn _ _ i hi
   · rw [List.mem_singleton.1 hi]; exact in2T_good.2
 · obtain ⟨k, hk, rfl⟩ := List.mem_map.1 hi
   exact (kn2T_good (by have := List.mem_range.1 hk; omega)).2
theorem tk_few {s : Sft} (hp : (plndE s).2 = 0) : (plE s).1.length ≤ 200 := by
 obtain ⟨hs, hF, -, -, hl⟩ := plan_ok hp
 have ep : plE s = (plnI s (plndE s).1, 0) := by unfold plE; rw [if_neg (by simpa using hp)]
 rw [ep]
 show (plnI s (plndE s).1).length ≤ 200
 unfold plnI
 rw [List.length_append]
 have h5 := runP_len hF.ok _ (Nat.le_refl _)
 have h6 := turnI_len (runP s (plndE s).1 (plndE s).1.length).1 0
 have h7 := (ordE_ok s).2
 rw [← hl] at h7
 have h8 := hs.len
 omega
set_option maxHeartbeats 32000000 in
theorem knits_walk (A : Option Addr) (c : Nat) (l : List Stc) (hlc : l.length ≤ c) (hw : ∀ s ∈ l, s.wf) (w : World) (hs : SlT w w.heap.size A l) :
 Calls Tryz.prog 4 #[.slice A l.length c] w fun e w' => e = .returned (.bool true) ∧ Below w.heap.size w w' := by
 have HAl := Lib.hid (alive32_any w)
 have HGr : Hid (∀ W, Calls Tryz.prog 16 #[.slice A l.length c] W fun e w' => e = .returned (.bool (greatS l.length)) ∧ Below W.heap.size W w') := fun W => rgreatS_any A l.length c W
 have HSt : Hid (∀ W, Below w.heap.size w W → SlT W W.heap.size A l) := fun W hb => (hs.below hb).more hb.size
 have HOf : Hid (∀ W, Below w.heap.size w W → Calls Tryz.prog 17 #[.slice A l.length c] W fun e w' => ShPost W (ofE l) e w') := fun W hb => pof_any A c l hw W (HSt.out W hb)
 have HLc := Lib.hid hlc
 have HWf := Lib.hid hw
 obtain ⟨ll, hll⟩ : ∃ ll, ll = l.length := ⟨_, rfl⟩
 have HLl := Lib.hid hll
 rw [← hll] at HGr HOf ⊢
 clear hs hlc hw hll
 go_enter Tryz.func4, Tryz.ntmps4
 go_upto_region 2 with ((go_at_call 5; refine HAl.out.mono ?_; rintro e w1 ⟨rfl, hb1⟩))
 have HB1 := Lib.hid hb1
 have HG := Lib.hid (HGr.out w1)
 clear HAl hb1 HGr
 obtain ⟨z, hz⟩ : ∃ z, z = greatS ll := ⟨_, rfl⟩
 rw [← hz] at HG
 clear hz
 cases z with
 | true =>
   go_wp2_with ((go_at_call 16; refine HG.out.mono ?_; rintro e w2 ⟨rfl, hb2⟩))
   go_ret
   exact ⟨rfl, HB1.out.trans (hb2.mono HB1.out.size)⟩
 | false =>
 go_upto_region 4 with ((go_at_call 16; refine HG.out.mono ?_; rintro e w2 ⟨rfl, hb2⟩))
 have HB2 := Lib.hid (HB1.out.trans (hb2.mono HB1.out.size))
 have HO := Lib.hid (HOf.out w2 HB2.out)
 clear hb2 HG HB1 HOf
 clear w1
 unfold ShPost at HO
 by_cases he : (ofE l).2 = 0
 case neg =>
  obtain ⟨x, hx⟩ : ∃ x, x = (ofE l).2 := ⟨_, rfl⟩
  rw [← hx] at HO he
  have d0 : (x != 0) = true := by simpa using he
  clear hx he
  go_upto_region 5 with ((go_at_call 17; refine HO.out.mono ?_; rintro e w3 ⟨At, ct, Af, cf, rfl, h1, h2, hb3⟩))
  have HB3 := Lib.hid ((HB2.out.trans (hb3.mono HB2.out.size)).trans ((al_t w3 (.cells #[.slice At (ofE l).1.to_.length ct, .slice Af (ofE l).1.first.length cf] 25)).mono (Nat.le_trans HB2.out.size hb3.size)))
  clear h1 h2 hb3
  go_wp2
  go_ret
  exact ⟨rfl, HB3.out⟩
 case pos =>
 obtain ⟨n, nd, P, hT, hfar⟩ := tk_of he
 have hval := tk_valid hT hfar
 have hfew := hT.few
 rw [he] at HO
 obtain ⟨hWx, hWl⟩ := workX_one hT
 have hch := tk_chart hT
 have hpl := plnd_errs hval
 have HSn := Lib.hid hT.sn
 have HT := Lib.hid hT
 obtain ⟨s, hse⟩ : ∃ s, s = (ofE l).1 := ⟨_, rfl⟩
 rw [← hse] at HO HT hval hpl HSn
 have hsok := sftE_ok hval
 have hff : s.first.length ≤ 1000000 := by
  have := (ofE_few l (by have := (all_zero hT.all).1; omega)).2
  rw [← hse] at this
  exact this
 clear he hfar hse hT
 go_upto_region 7 with ((go_at_call 17; refine HO.out.mono ?_; rintro e w3 ⟨At, ct, Af, cf, rfl, h1, h2, hb3⟩))
 obtain ⟨sb, hsb⟩ : ∃ sb, sb = w3.heap.size := ⟨_, rfl⟩
 refine abs_world (Q := fun W => Code.wp _ _ _ _ W) (F := fun W => TkA w A l sb At Af ct cf s W) _ (by
  have hal := al_t w3 (sftB At Af ct cf s)
  have hB3 := HB2.out.trans (hb3.mono HB2.out.size)
  have hB4 := hB3.trans (hal.mono hB3.size)
  rw [hsb]
  exact ⟨hB4, HSt.out _ hB4, SfBx.new ct cf ⟨h1, h2⟩⟩) ?_
 rw [← hsb]
 clear hsb h1 h2 hb3 HO HB2 HSt
 clear w3
 clear w2
 rintro W3 hA3
 have HA3 := Lib.hid hA3
 have HG3 : Hid (∀ W, TkA w A l sb At Af ct cf s W → W.cell? ⟨sb, 0, none⟩ = some (.slice At n ct) ∧ W.cell? ⟨sb, 1, none⟩ = some (.slice Af s.first.length cf)) := fun W h => by
  have h0 := h.bx.c0
  rw [show s.to_.length = n from HSn.out] at h0
  exact ⟨h0, h.bx.c1⟩
 have HCk : Hid (∀ W, TkA w A l sb At Af ct cf s W → Calls Tryz.prog 7 #[.agg #[.slice At n ct, .slice Af s.first.length cf]] W fun e w' => e = .returned (.int .i64 0) ∧ Below W.heap.size W w') := fun W h => by
  have h1 := rchk_any At Af ct cf s (by have := HSn.out; have := HT.out.few; show s.n ≤ _; omega) (by omega) W h.bx.at_
  rw [hval] at h1
  unfold sftV at h1
  rw [show s.to_.length = n from HSn.out] at h1
  exact h1
 have HPl : Hid (∀ W, TkA w A l sb At Af ct cf s W → Calls Tryz.prog 8 #[.agg #[.slice At n ct, .slice Af s.first.length cf]] W fun e w' => ∃ a k, e = .returned (.tuple #[.slice a (plE s).1.length k, .int .i64 (plndE s).2]) ∧ SlX w' w'.heap.size a (plE s).1 ∧ Below W.heap.size W w') := fun W h => by
  have h1 := pplan_any At Af ct cf s (by have := HSn.out; have := HT.out.few; show s.n ≤ _; omega) (by omega) W h.bx.at_
  unfold IPost sftV at h1
  rw [show s.to_.length = n from HSn.out] at h1
  have e : (plE s).2 = (plndE s).2 := by
   unfold plE
   by_cases hx : (plndE s).2 = 0
   · rw [if_neg (by simpa using hx), hx]
   · rw [if_pos hx]
  rw [e] at h1
  exact h1
 obtain ⟨g0, g1⟩ := HG3.out W3 hA3
 have HC := Lib.hid (HCk.out W3 hA3)
 clear hA3 HCk hval
 go_upto_region 9 with ((go_at_call 7; refine HC.out.mono ?_; rintro e w4 ⟨rfl, hb4⟩))
 refine abs_world (Q := fun W => Code.wp _ _ _ _ W) (F := fun W => TkA w A l sb At Af ct cf s W) _ (HA3.out.to hb4) ?_
 clear HA3 HC hb4 g0 g1
 clear w4
 clear W3
 rintro W4 hA4
 obtain ⟨g0, g1⟩ := HG3.out W4 hA4
 have HA := Lib.hid hA4
 have HP := Lib.hid (HPl.out W4 hA4)
 clear hA4 HPl
 by_cases hx0 : (plndE s).2 = 0
 case neg =>
  obtain ⟨x, hx⟩ : ∃ x, x = (plndE s).2 := ⟨_, rfl⟩
  rw [← hx] at HP hx0 hpl
  clear hx
  rcases hpl with h1 | h1 | h1
  · exact absurd h1 hx0
  all_goals
   subst h1
   clear hx0
   go_upto_region 10 with ((go_at_call 8; refine HP.out.mono ?_; rintro e w5 ⟨a1, k1, rfl, hsl, hb5⟩))
   have HB5 := Lib.hid (HA.out.to hb5).lo
   clear hsl hb5 HA HP g0 g1
   go_wp2
   go_ret
   exact ⟨rfl, HB5.out⟩
 case pos =>
 rw [hx0] at HP
 have hL2 := tk_few hx0
 have HX0 := Lib.hid hx0
 obtain ⟨L, hL⟩ : ∃ L, L = (plE s).1 := ⟨_, rfl⟩
 have HLe := Lib.hid hL
 rw [← hL] at HP hL2
 clear hpl hx0 hL
 go_upto_region 12 with ((go_at_call 8; refine HP.out.mono ?_; rintro e w5 ⟨a1, k1, rfl, hsl, hb5⟩))
 refine abs_world (Q := fun W => Code.wp _ _ _ _ W) (F := fun W => TkA w A l sb At Af ct cf s W ∧ SlX W W.heap.size a1 L) _ ⟨HA.out.to hb5, hsl⟩ ?_
 clear HA HP hsl hb5 g0 g1
 clear w5
 clear W4
 rintro W5 ⟨hA5, hsl5⟩
 obtain ⟨g0, g1⟩ := HG3.out W5 hA5
 have HA := Lib.hid (And.intro hA5 hsl5)
 have HBg : Hid (Calls Tryz.prog 10 #[.int .i64 (n : Int)] W5 fun e w' => ∃ p, e = .returned (.tuple #[(begT n).val p, .bool true]) ∧ BedAt w' w'.heap.size p (begT n) ∧ Below W5.heap.size W5 w') := begin_any n (by omega) W5
 have hgb := (begT_run (n := n) (by omega)).2
 have hm1 : (begT n).made.length = n := hgb.made
 have HGb := Lib.hid hgb
 unfold BedS.val at HBg
 clear hA5 hsl5 hgb
 obtain ⟨b, hbe⟩ : ∃ b, b = begT n := ⟨_, rfl⟩
 have HBe := Lib.hid hbe
 rw [← hbe] at HBg hm1 HGb
 rw [hm1] at HBg
 have HM1 := Lib.hid hm1
 clear hm1 hbe
 go_upto_region 13 with ((go_at_call 10; refine HBg.out.mono ?_; rintro e w6 ⟨p, rfl, hbp, hb6⟩))
 obtain ⟨bb, hbb⟩ : ∃ bb, bb = w6.heap.size := ⟨_, rfl⟩
 refine abs_world (Q := fun W => Code.wp _ _ _ _ W) (F := fun W => (TkA w A l sb At Af ct cf s W ∧ SlX W W.heap.size a1 L) ∧ (W.cell? ⟨bb, 0, none⟩ = some (.int .i64 b.rack) ∧ W.cell? ⟨bb, 1, none⟩ = some (.slice p.ah b.hooks.length p.ch) ∧ W.cell? ⟨bb, 2, none⟩ = some (.slice p.af b.feeds.length p.cf) ∧ W.cell? ⟨bb, 3, none⟩ = some (.slice p.am n p.cm)) ∧ BedAt W W.heap.size p b) _ (by
  have hal := al_t w6 (.cells #[.int .i64 b.rack, .slice p.ah b.hooks.length p.ch, .slice p.af b.feeds.length p.cf, .slice p.am n p.cm] 39)
  rw [hbb]
  exact ⟨⟨(HA.out.1.to hb6).to hal, (((HA.out.2.below hb6).more hb6.size).below hal).more hal.size⟩, ⟨cell_new rfl rfl rfl, cell_new rfl rfl rfl, cell_new rfl rfl rfl, cell_new rfl rfl rfl⟩, (hbp.below hal).more hal.size⟩) ?_
 rw [← hbb]
 clear HA HBg hbb hbp hb6 g0 g1
 clear w6
 clear W5
 rintro W6 ⟨⟨hA6, hsl6⟩, hB6, hbd6⟩
 obtain ⟨g0, g1⟩ := HG3.out W6 hA6
 have hb6 : TkB w A l sb At Af ct cf s a1 L bb b p n W6 := ⟨hA6, hsl6, hB6.1, hB6.2.1, hB6.2.2.1, hB6.2.2.2, hbd6⟩
 have HB6 := Lib.hid hb6
 obtain ⟨LP, hLP⟩ : ∃ LP, LP = (workX (n : Int) [(false, l)]).lp := ⟨_, rfl⟩
 rw [← hLP] at hWx hWl
 have HLo : Hid (Calls Tryz.prog 18 #[.agg #[.int .i64 (n : Int), .slice (some ⟨W6.heap.size, 0, none⟩) 1 1]] (W6.alloc (.cells #[.bool false, .slice A ll c] 58)) fun e w' => ∃ a ca, e = .returned (.tuple #[.slice a (n + nd) ca, .int .i64 0]) ∧ SlL w' w'.heap.size a LP ∧ Below (W6.alloc (.cells #[.bool false, .slice A ll c] 58)).heap.size (W6.alloc (.cells #[.bool false, .slice A ll c] 58)) w') := by
  rw [HLl.out]
  refine (Of_any (n : Int) (some ⟨W6.heap.size, 0, none⟩) 1 [(false, l)] (fun r hr => by rw [List.mem_singleton.1 hr]) (fun r hr x hx => by
   rw [List.mem_singleton.1 hr] at hx
   have h9 := HT.out.kind
   rw [List.any_eq_false] at h9
   simpa using h9 x hx) (fun r hr => by rw [List.mem_singleton.1 hr]; exact HWf.out) (fun _ => by simp) _ (row_lit HLc.out hA6.cl)).mono ?_
  rintro e w' ⟨vL, vs, e1, hv, ho, hb⟩
  rw [← hLP] at hv ho
  obtain ⟨a, ca, rfl⟩ := pxL_form ho
  rw [hch, hWl] at e1
  exact ⟨a, ca, e1, slL_of ho rfl hv (fun o h => ho.all o (by simp [h])), hb⟩
 have HRw := Lib.hid (al_t W6 (.cells #[.bool false, .slice A ll c] 58))
 have HWx := Lib.hid (And.intro hWx hWl)
 clear hA6 hsl6 hB6 hbd6 hb6 hWx hWl hLP hch
 go_upto_region 14 with ((go_at_call 18; refine HLo.out.mono ?_; rintro e w7 ⟨oa, oc, rfl, hol, hb7⟩))
 refine abs_world (Q := fun W => Code.wp _ _ _ _ W) (F := fun W => TkB w A l sb At Af ct cf s a1 L bb b p n W ∧ SlL W W.heap.size oa LP) _ ⟨HB6.out.to (HRw.out.trans (hb7.mono HRw.out.size)), hol⟩ ?_
 clear HB6 HLo HRw hol hb7 g0 g1
 clear w7
 rintro W7 ⟨hB7, hol7⟩
 obtain ⟨g0, g1⟩ := HG3.out W7 hB7.a
 have HB7 := Lib.hid (And.intro hB7 hol7)
 clear hB7 hol7
 have hndl := HT.out.ndl
 have hw1 : IntKind.i64.wrap (((n + nd : Nat) : Int) - (n : Int)) = (nd : Int) := by rw [show ((n + nd : Nat) : Int) - (n : Int) = (nd : Int) by omega]; exact IntWalk.i64_in _ (by omega)
 obtain ⟨N, hN⟩ : ∃ N, N = n + nd := ⟨_, rfl⟩
 have HN := Lib.hid hN
 rw [← hN] at hw1 ⊢
 have z1 : decide ((N : Int) < (n : Int)) = false := decide_eq_false (by omega)
 have z2 : decide (N < n) = false := decide_eq_false (by omega)
 have z3 : decide ((n : Int) ≤ (N : Int)) = true := decide_eq_true (by omega)
 have z4 : decide ((N : Int) ≥ (n : Int)) = true := decide_eq_true (by omega)
 have z5 : decide (n ≤ N) = true := decide_eq_true (by omega)
 clear hN
 by_cases hnd : nd ≤ 101
 case neg =>
  have y1 : decide ((101 : Int) < (nd : Int)) = true := decide_eq_true (by omega)
  have y2 : decide ((nd : Int) > 101) = true := decide_eq_true (by omega)
  have y3 : decide (101 < nd) = true := decide_eq_true (by omega)
  have HQ := Lib.hid HB7.out.1.a.lo
  clear HB7
  go_wp2
  go_ret
  exact ⟨rfl, HQ.out⟩
 case pos =>
 have y1 : decide ((101 : Int) < (nd : Int)) = false := decide_eq_false (by omega)
 have y2 : decide ((nd : Int) > 101) = false := decide_eq_false (by omega)
 have y3 : decide (101 < nd) = false := decide_eq_false (by omega)
 go_upto_region 16 with fail
 clear z1 z2 z3 z4 z5 y1 y2 y3
 obtain ⟨A5, c5, w5, hr5, ho5, hb5⟩ := pxO_apps (pxO_empty W7) (by simp) (by simp) a1 k1 L (by omega) ((HB7.out.1.x.below (al_t W7 _)).more (al_t W7 _).size)
 obtain ⟨Ln, hLn⟩ : ∃ Ln, Ln = L.length := ⟨_, rfl⟩
 have HLn := Lib.hid hLn
 rw [List.length_nil, Nat.zero_add, List.nil_append] at ho5
 rw [show ([] : List Ins).length = 0 from rfl, Nat.zero_add] at hr5
 obtain ⟨A6, c6, w6, hr6, ho6, hb6⟩ := pxO_app (l := L) ho5 (Nat.le_trans (by simp) hb5.size) (by omega) in2T
 rw [← hLn] at hr5 hr6 ho6 ⊢
 have HO6 : Hid (Owns w6 W7.heap.size [pxO (.slice A6 (Ln + 1) c6) (L ++ [in2T] ++ (List.range 0).map kn2T)] ∧ Below W7.heap.size W7 w6) := by
  refine ⟨by rw [List.range_zero, List.map_nil, List.append_nil]; exact ho6, ?_⟩
  exact ((al_t W7 (.cells #[] 63)).trans hb5).trans hb6
 have hs6 : (Builtin.append_ #[29, 29] 29 #[.slice A5 Ln c5, .slice (some ⟨w5.heap.size, 0, none⟩) 1 1]).run Tryz.prog (w5.alloc (.cells #[.int .u8 1, .bool false, .int .u8 0, .int .i64 0, .int .i64 0, .int .i64 2, .int .i64 0] 63)) = .ok (.slice A6 (Ln + 1) c6) w6 := hr6
 clear ho5 hb5 ho6 hb6 hLn hr6
 go_upto_region 17 with (first
  | (at_builtin; refine wpList_append_run (W7.alloc (.cells #[] 63)) (o := _) rfl _ _ _ _ rfl (.slice (some ⟨W7.heap.size, 0, none⟩) 0 0) (.slice a1 Ln k1) (by rfl) (by rfl) hr5 ?_)
  | (at_builtin; refine wpList_append_run (w5.alloc (.cells #[.int .u8 1, .bool false, .int .u8 0, .int .i64 0, .int .i64 0, .int .i64 2, .int .i64 0] 63)) (o := _) rfl _ _ _ _ rfl (.slice A5 Ln c5) (.slice (some ⟨w5.heap.size, 0, none⟩) 1 1) (by rfl) (by rfl) hs6 ?_))
 clear hr5 hs6 g0 g1
 have HTB : Hid (∀ W', Below W7.heap.size W7 W' → TkB w A l sb At Af ct cf s a1 L bb b p n W' ∧ SlL W' W'.heap.size oa LP) := fun W' hb => ⟨HB7.out.1.to hb, (HB7.out.2.below hb).more hb.size⟩
 clear HB7
 have hL2' : Ln ≤ 200 := by have := HLn.out; omega
 go_wp2
 go_loopw [6, 12] (fun s6 s12 wr => ∃ (k : Nat) (A6 : Option Addr) (c6 : Nat), k ≤ nd ∧ s12 = .int .i64 (k : Int) ∧ s6 = .slice A6 (Ln + 1 + k) c6 ∧ Hid (Owns wr W7.heap.size [pxO (.slice A6 (Ln + 1 + k) c6) (L ++ [in2T] ++ (List.range k).map kn2T)] ∧ Below W7.heap.size W7 wr)) (fun _ s12 _ => nd - (intOf s12).toNat)
 case atStart => exact ⟨0, _, _, Nat.zero_le _, rfl, rfl, HO6.out⟩
 case round =>
  obtain ⟨k, A7, c7, hk, rfl, rfl, HX⟩ := hrel
  clear HO6
  obtain ⟨W8, hW8⟩ : ∃ x : World, x = wr := ⟨_, rfl⟩
  rw [← hW8] at HX ⊢
  clear hW8
  obtain ⟨g0, g1⟩ := HG3.out W8 (HTB.out W8 HX.out.2).1.a
  by_cases hlt : k < nd
  case pos =>
   have hkI : (k : Int) < (nd : Int) := by omega
   have hk0 : (0 : Int) ≤ (k : Int) := by omega
   have HJ : Hid (k + 1 ≤ nd ∧ k < nd) := by show _ ∧ _; omega
   obtain ⟨l2, hl2⟩ : ∃ l2, l2 = L ++ [in2T] ++ (List.range k).map kn2T := ⟨_, rfl⟩
   have hlen : l2.length = Ln + 1 + k := by rw [hl2, List.length_append, List.length_append, List.length_map, List.length_range, List.length_singleton, HLn.out]
   have hx1 := HX.out.1
   rw [← hl2] at hx1
   obtain ⟨A8, c8, w8, hr8, ho8, hb8⟩ := pxO_app (a := A7) (c := c7) (l := l2) (by rw [hlen]; exact hx1) HX.out.2.size (by omega) (kn2T k)
   rw [hlen] at hr8 ho8
   have HQ : Hid (Owns w8 W7.heap.size [pxO (.slice A8 (Ln + 1 + (k + 1)) c8) (L ++ [in2T] ++ (List.range (k + 1)).map kn2T)] ∧ Below W7.heap.size W7 w8) := by
    rw [List.range_succ, List.map_append, ← List.append_assoc, ← hl2]
    exact ⟨ho8, HX.out.2.trans hb8⟩
   have hs8 : (Builtin.append_ #[29, 29] 29 #[.slice A7 (Ln + 1 + k) c7, .slice (some ⟨W8.heap.size, 0, none⟩) 1 1]).run Tryz.prog (W8.alloc (.cells #[.int .u8 3, .bool true, .int .u8 0, .int .i64 (k : Int), .int .i64 0, .int .i64 2, .int .i64 0] 63)) = .ok (.slice A8 (Ln + 1 + k + 1) c8) w8 := hr8
   clear hl2 hlen hx1 ho8 hb8 HX hr8
   go_wp2_with (at_builtin; refine wpList_append_run (W8.alloc (.cells #[.int .u8 3, .bool true, .int .u8 0, .int .i64 (k : Int), .int .i64 0, .int .i64 2, .int .i64 0] 63)) (o := _) rfl _ _ _ _ rfl (.slice A7 (Ln + 1 + k) c7) (.slice (some ⟨W8.heap.size, 0, none⟩) 1 1) (by rfl) (by rfl) hs8 ?_)
   go_roundw
   case rel => exact ⟨k + 1, _, _, HJ.out.1, by go_num, rfl, HQ.out⟩
   case measure => simp [intOf]; have := HJ.out; omega
  case neg =>
   have hkn : nd = k := by omega
   subst hkn
   have hti : L ++ [in2T] ++ (List.range nd).map kn2T = tkI s nd := by unfold tkI; rw [HLe.out]
   have hx := HX.out
   rw [hti] at hx
   have hlen : (tkI s nd).length = Ln + 1 + nd := by rw [← hti, List.length_append, List.length_append, List.length_map, List.length_range, List.length_singleton, HLn.out]
   obtain ⟨t, hrun, hml, hpar⟩ := tk_all HT.out HX0.out hnd
   have hwf := tk_wf HX0.out hnd
   rw [← HBe.out, hlen] at hrun
   have hTB := HTB.out W8 HX.out.2
   have hM1 := HM1.out
   have hR := brun_any b p HGb.out.good.wf ⟨HGb.out.good.seek.1, HGb.out.good.fd.len, by omega⟩ (tkI s nd) (by omega) (fun _ _ => by omega) hwf A7 c7 W8 hTB.1.bd (by
    have h1 := hx.1
    rw [← hlen] at h1
    exact pxO_sl h1)
   unfold runOut BedS.val at hR
   rw [hrun, hlen, hM1] at hR
   have HR : Hid (Calls Tryz.prog 11 #[.agg #[.int .i64 b.rack, .slice p.ah b.hooks.length p.ch, .slice p.af b.feeds.length p.cf, .slice p.am n p.cm], .slice A7 (Ln + 1 + nd) c7] W8 fun e w' => ∃ q, e = .returned (.tuple #[.agg #[.int .i64 t.rack, .slice q.ah t.hooks.length q.ch, .slice q.af t.feeds.length q.cf, .slice q.am N q.cm], .int .i64 ((Ln + 1 + nd : Nat) : Int), .int .i64 0]) ∧ BedAt w' w'.heap.size q t ∧ Below W8.heap.size W8 w') := hR.mono fun e w' h => by
    obtain ⟨q, e1, e2, e3⟩ := h
    have e1 : e = .returned (.tuple #[.agg #[.int .i64 t.rack, .slice q.ah t.hooks.length q.ch, .slice q.af t.feeds.length q.cf, .slice q.am t.made.length q.cm], .int .i64 ((Ln + 1 + nd : Nat) : Int), .int .i64 0]) := e1
    rw [hml, ← HN.out] at e1
    exact ⟨q, e1, e2.at_, e3⟩
   have HPar : Hid (∀ i, n ≤ i → i < N → ∃ m, t.made[i]? = some m ∧ ∃ lp, LP[i]? = some lp ∧ m.parents = lp.par) := fun i h1 h2 => by
    obtain ⟨m, e1, e2⟩ := hpar (i - n) (by have := HN.out; omega)
    rw [show n + (i - n) = i by omega] at e1 e2
    have hil : i < LP.length := by rw [HWx.out.2]; have := HN.out; omega
    refine ⟨m, e1, LP[i], List.getElem?_eq_getElem hil, ?_⟩
    rw [e2, ← HWx.out.1, List.getD_eq_getElem?_getD, List.getElem?_map, List.getElem?_eq_getElem hil]
    rfl
   have HPf : Hid (∀ (i : Nat) (m : Mk), t.made[i]? = some m → m.parents.length ≤ 1000000) := fun i m hm => by
    obtain ⟨t', ht', hg, -⟩ := tk_run HT.out HX0.out hnd HGb.out
    have e : t' = t := by
     have h1 : runS b (tkI s nd) = (t', (((tkI s nd).length : Nat) : Int), 0) := by
      unfold runS
      rw [if_neg (by rw [HGb.out.good.err]; decide), if_neg (by omega)]
      exact ht'
     rw [hrun] at h1
     exact (congrArg Prod.fst h1).symm
    rw [e] at hg
    have := bed_parents hg.err m (List.mem_of_getElem? hm)
    omega
   have HMl : Hid (t.made.length = N) := by show _ = _; rw [hml, HN.out]
   have b0 := hTB.1.c0
   have b1 := hTB.1.c1
   have b2 := hTB.1.c2
   have b3 := hTB.1.c3
   clear hti hx hlen hrun hml hpar hwf hTB hM1 hR
   go_upto_region 22 with ((go_at_call 11; refine HR.out.mono ?_; rintro e w9 ⟨q, rfl, hbq, hb9⟩))
   obtain ⟨tb, htb⟩ : ∃ tb, tb = w9.heap.size := ⟨_, rfl⟩
   refine abs_world (Q := fun W => Code.wp _ _ _ _ W) (F := fun W => (TkB w A l sb At Af ct cf s a1 L bb b p n W ∧ SlL W W.heap.size oa LP) ∧ W.cell? ⟨tb, 3, none⟩ = some (.slice q.am N q.cm) ∧ SlM W W.heap.size q.am t.made) _ (by
    have hal := al_t w9 (.cells #[.int .i64 t.rack, .slice q.ah t.hooks.length q.ch, .slice q.af t.feeds.length q.cf, .slice q.am N q.cm] 39)
    have h1 := HTB.out _ (HX.out.2.trans ((hb9.trans (hal.mono hb9.size)).mono HX.out.2.size))
    rw [htb]
    exact ⟨h1, cell_new rfl rfl rfl, (hbq.made.below hal).more hal.size⟩) ?_
   rw [← htb]
   clear HX HR htb hbq hb9 g0 g1 b0 b1 b2 b3 HTB
   clear w9
   clear W8
   rintro W9 ⟨⟨hB9, ho9⟩, q3, hm9⟩
   have HS9 := Lib.hid (And.intro (And.intro hB9 ho9) (And.intro q3 hm9))
   obtain ⟨g0, g1⟩ := HG3.out W9 hB9.a
   clear hB9 ho9 hm9
   have hnN : n ≤ N := by have := HN.out; omega
   have hN26 : N ≤ 2600 := by have := HN.out; omega
   clear hw1
   have y0 : (N != N) = false := by simp
   have y1 : ((N : Int) != (N : Int)) = false := by simp
   have HT9 : Hid (∀ W', Below W9.heap.size W9 W' → (TkB w A l sb At Af ct cf s a1 L bb b p n W' ∧ SlL W' W'.heap.size oa LP) ∧ W'.cell? ⟨tb, 3, none⟩ = some (.slice q.am N q.cm) ∧ SlM W' W'.heap.size q.am t.made) := fun W' hb =>
    ⟨⟨HS9.out.1.1.to hb, (HS9.out.1.2.below hb).more hb.size⟩, (bcell hb (lt_of_cell q3) _).trans q3, (HS9.out.2.2.below hb).more hb.size⟩
   clear HS9
   go_upto_region 25 with fail
   clear q3 g0 g1 y0 y1
   go_loopw [16] (fun s16 wr => ∃ i : Nat, n ≤ i ∧ i ≤ N ∧ s16 = .int .i64 (i : Int) ∧ Hid (Below W9.heap.size W9 wr)) (fun s16 _ => N - (intOf s16).toNat)
   case atStart => exact ⟨n, Nat.le_refl _, hnN, rfl, Below.refl _ _⟩
   case round =>
    obtain ⟨i, hi0, hi, rfl, HX⟩ := hrel
    obtain ⟨W10, hW10⟩ : ∃ x : World, x = wr := ⟨_, rfl⟩
    rw [← hW10] at HX ⊢
    clear hW10
    by_cases hlt : i < N
    case neg =>
     have HQ := Lib.hid (HT9.out W10 HX.out).1.1.a.lo
     have hlt2 : ¬ (i : Int) < (N : Int) := by omega
     clear HX
     go_wp2
     go_ret
     exact ⟨rfl, HQ.out⟩
    case pos =>
     have hS := HT9.out W10 HX.out
     obtain ⟨m, e1, lp, e2, e3⟩ := HPar.out i hi0 hlt
     obtain ⟨mb, moff, m', A1, C1, ea, -, hm', m0, -, -, -, -, hs1⟩ := hS.2.2.at_ (k := i) (by rw [HMl.out]; exact hlt)
     rw [e1] at hm'
     cases hm'
     obtain ⟨ob, ooff, lp', A2, C2, eo, -, hl', -, -, o2, -, hs2⟩ := hS.1.2.at_ (j := i) (by rw [HWx.out.2]; have := HN.out; omega)
     rw [e2] at hl'
     cases hl'
     have q3 := hS.2.1
     rw [ea] at q3
     subst eo
     rw [← e3] at o2 hs2
     obtain ⟨pr, hpr⟩ : ∃ pr, pr = m.parents := ⟨_, rfl⟩
     have hpl : pr.length ≤ 1000000 := by rw [hpr]; exact HPf.out i m e1
     rw [← hpr] at m0 o2 hs1 hs2
     have HC := Lib.hid (fun z => sameI_any A1 A2 C1 C2 pr (W10.drewN z) ((hs1.below (below_drewT (Below.refl W10.heap.size W10) z)).more (below_drewT (Below.refl W10.heap.size W10) z).size) ((hs2.below (below_drewT (Below.refl W10.heap.size W10) z)).more (below_drewT (Below.refl W10.heap.size W10) z).size) (by omega))
     obtain ⟨pl, hple⟩ : ∃ pl, pl = pr.length := ⟨_, rfl⟩
     rw [← hple] at m0 o2 HC
     have hiI : (i : Int) < (N : Int) := by omega
     have hi00 : (0 : Int) ≤ (i : Int) := by omega
     have HJ : Hid (n ≤ i + 1 ∧ i + 1 ≤ N ∧ i < N) := by show _ ∧ _ ∧ _; omega
     clear hS e1 e2 e3 hs1 hs2 hpr hpl hple ea
     go_upto_region 27 with fail
     go_quiet ((go_at_call 19; exact Calls.quiet_of (HC.out _)))
     go_wp2
     go_roundw
     case rel => exact ⟨i + 1, HJ.out.1, HJ.out.2.1, by go_num, HX.out.trans (below_drewT (Below.refl _ _) _)⟩
     case measure => simp [intOf]; have := HJ.out; omega
end Go.Proofs.YtflpikickbellaaGreat
