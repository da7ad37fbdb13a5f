/- TransferCells, walked. -/
import Derived.Test.YtflpikickbellaaKG20
import Derived.Test.YtflpikickbellaaKG23
import Derived.Test.YtflpikickbellaaKG22
import Derived.Test.YtflpikickbellaaKG24
import Derived.Test.YtflpikickbellaaKG9
namespace Go.Proofs.Ytflpikickbellaa
open Go.RowKit Go.Shelf Go.Sort
set_option maxRecDepth 100000

set_option maxHeartbeats 2000000 in
theorem same32_any (A F A' F' : Option Addr) (c fc c' fc' : Nat) (s : Sft) (n m : Nat) (hn : n = s.to_.length) (hm : m = s.first.length) (w : World) (h : SfAt A F s w) (h' : SfAt A' F' s w) (hn1 : n ≤ 4611686018427387904) (hm1 : m ≤ 4611686018427387904) :
    Calls Try.prog 25 #[.agg #[.slice A n c, .slice F m fc], .agg #[.slice A' n c', .slice F' m fc']] w fun e w' => e = .returned (.bool true) ∧ Below w.heap.size w w' := by
  have hb1 := al_t w (.cells #[.slice A n c, .slice F m fc] 25)
  have hb2 := al_t (w.alloc (.cells #[.slice A n c, .slice F m fc] 25)) (.cells #[.slice A' n c', .slice F' m fc'] 25)
  have hb := hb1.trans (hb2.mono hb1.size)
  have x0 : (w.alloc (.cells #[.slice A n c, .slice F m fc] 25)).cell? ⟨w.heap.size, 0, none⟩ = some (.slice A n c) := cell_new rfl rfl rfl
  have x1 : (w.alloc (.cells #[.slice A n c, .slice F m fc] 25)).cell? ⟨w.heap.size, 1, none⟩ = some (.slice F m fc) := cell_new rfl rfl rfl
  have HF : Hid (∀ W, Below ((w.alloc (.cells #[.slice A n c, .slice F m fc] 25)).alloc (.cells #[.slice A' n c', .slice F' m fc'] 25)).heap.size ((w.alloc (.cells #[.slice A n c, .slice F m fc] 25)).alloc (.cells #[.slice A' n c', .slice F' m fc'] 25)) W →
      W.cell? ⟨w.heap.size, 1, none⟩ = some (.slice F m fc) ∧ W.cell? ⟨w.heap.size + 1, 1, none⟩ = some (.slice F' m fc') ∧ SfAt A F s W ∧ SfAt A' F' s W ∧ Below w.heap.size w W) := fun W hW => by
    have y1 : ((w.alloc (.cells #[.slice A n c, .slice F m fc] 25)).alloc (.cells #[.slice A' n c', .slice F' m fc'] 25)).cell? ⟨w.heap.size + 1, 1, none⟩ = some (.slice F' m fc') := cell_new rfl (by simp) rfl
    have y0 := cell_al x1 (.cells #[.slice A' n c', .slice F' m fc'] 25)
    exact ⟨(bcell hW (lt_of_cell y0) _).trans y0, (bcell hW (lt_of_cell y1) _).trans y1, (h.to hb).to hW, (h'.to hb).to hW, hb.trans (hW.mono hb.size)⟩
  obtain ⟨-, -, hs1, hs2, -⟩ := HF.out _ (Below.refl _ _)
  have hc1 := sameI_any A A' c c' s.to_ _ hs1.tz hs2.tz (by omega)
  rw [← hn] at hc1
  have HC1 := Lib.hid hc1
  have HC2 : Hid (∀ W, SfAt A F s W → SfAt A' F' s W → Calls Try.prog 59 #[.slice F m fc, .slice F' m fc'] W fun e w' => e = .returned (.bool true) ∧ ∃ k, w' = W.drewN k) := fun W h1 h2 => by
    have := samePr_any F F' fc fc' s.first W h1.fr h2.fr (by omega)
    rwa [← hm] at this
  clear h h' hb hb1 hb2 hs1 hs2 hc1 hn hm x0 x1
  go_enter Try.func25, Try.ntmps25
  go_wp2_with (first
    | (go_at_call 17; refine HC1.out.mono ?_; rintro e w1 ⟨rfl, k1, hw1⟩; obtain ⟨y0, y1, z1, z2, hbw⟩ := HF.out w1 (by rw [hw1]; exact below_drewT (Below.refl _ _) _); clear hw1)
    | (go_at_call 59; refine (HC2.out w1 z1 z2).mono ?_; rintro e w2 ⟨rfl, k2, hw2⟩; have hb2 : Below w1.heap.size w1 w2 := (by rw [hw2]; exact below_drewT (Below.refl _ _) _); clear hw2))
  go_ret
  exact ⟨rfl, hbw.trans (hb2.mono hbw.size)⟩
/-- The law's arguments at later worlds. -/
structure CeA (w : World) (pb : Nat) (A : Option Addr) (l : List Stc) (As Fs : Option Addr) (cs fcs : Nat) (s : Sft) (Ao : Option Addr) (order : List Int) (W : World) : Prop where
  lo : Below w.heap.size w W
  cl : SlT W W.heap.size A l
  bx : SfBx pb As Fs cs fcs s W
  od : SlI W W.heap.size Ao order
theorem CeA.to {w W W' : World} {pb : Nat} {A : Option Addr} {l : List Stc} {As Fs : Option Addr} {cs fcs : Nat} {s : Sft} {Ao : Option Addr} {order : List Int} (h : CeA w pb A l As Fs cs fcs s Ao order W) (hb : Below W.heap.size W W') : CeA w pb A l As Fs cs fcs s Ao order W' :=
  ⟨h.lo.trans (hb.mono h.lo.size), (h.cl.below hb).more hb.size, h.bx.to hb, (h.od.below hb).more hb.size⟩
set_option maxHeartbeats 8000000 in
theorem cells_walk (A : Option Addr) (c : Nat) (l : List Stc) (hlc : l.length ≤ c) (hw : ∀ s ∈ l, s.wf) (As Fs : Option Addr) (cs fcs : Nat) (s : Sft) (Ao : Option Addr) (k0 : Nat) (order : List Int) (w : World) (hs : SlT w w.heap.size A l) (hst : SlI w w.heap.size As s.to_) (hsf : SlPr w w.heap.size Fs s.first) (hso : SlI w w.heap.size Ao order) :
    Calls Try.prog 4 #[.slice A l.length c, sftV As Fs cs fcs s, .slice Ao order.length k0] w fun e w' => e = .returned (.bool true) ∧ Below w.heap.size w w' := by
  have hb0 := al_t w (sftB As Fs cs fcs s)
  have HA0 : Hid (CeA w w.heap.size A l As Fs cs fcs s Ao order (w.alloc (sftB As Fs cs fcs s))) := ⟨hb0, (hs.below hb0).more hb0.size, SfBx.new cs fcs ⟨hst, hsf⟩, (hso.below hb0).more hb0.size⟩
  have HG1 := Lib.hid (fun W => rgreatS_any A l.length c W)
  have HG2 : Hid (∀ W, CeA w w.heap.size A l As Fs cs fcs s Ao order W → Calls Try.prog 8 #[sftV As Fs cs fcs s] W fun e w' => e = .returned (.bool (grtB s)) ∧ Below W.heap.size W w') := fun W h => rgreat_any As Fs cs fcs s W h.bx.at_
  have g0 := HA0.out.bx.c0
  have g1 := HA0.out.bx.c1
  have HXa : Hid (∀ W', Below (w.alloc (sftB As Fs cs fcs s)).heap.size (w.alloc (sftB As Fs cs fcs s)) W' → CeA w w.heap.size A l As Fs cs fcs s Ao order W') := fun W' hb => HA0.out.to hb
  obtain ⟨pb, hpb⟩ : ∃ pb, pb = w.heap.size := ⟨_, rfl⟩
  clear hs hst hsf hso hb0
  cases hg1 : greatS l.length with
  | true =>
    rw [hg1] at HG1
    clear hg1 hpb
    go_enter Try.func4, Try.ntmps4
    go_wp2_with (first | (go_at_call 20; refine (HG1.out _).mono ?_; rintro e w1 ⟨rfl, hb1⟩))
    go_ret
    exact ⟨rfl, (HXa.out _ hb1).lo⟩
  | false =>
  rw [hg1] at HG1
  cases hg2 : grtB s with
  | true =>
    rw [hg2] at HG2
    clear hg1 hg2 hpb
    go_enter Try.func4, Try.ntmps4
    go_wp2_with (first
      | (go_at_call 20; refine (HG1.out _).mono ?_; rintro e w1 ⟨rfl, hb1⟩; obtain ⟨q0, q1⟩ := And.intro (HXa.out _ hb1).bx.c0 (HXa.out _ hb1).bx.c1)
      | (go_at_call 8; refine (HG2.out w1 (HXa.out _ hb1)).mono ?_; rintro e w2 ⟨rfl, hb2⟩))
    go_ret
    exact ⟨rfl, (HXa.out _ (hb1.trans (hb2.mono hb1.size))).lo⟩
  | false =>
  rw [hg2] at HG2
  obtain ⟨hs50, hs100⟩ := great_no hg2
  have hl300 : l.length ≤ 300 := by
    unfold greatS at hg1
    rw [Bool.or_eq_false_iff, decide_eq_false_iff_not, decide_eq_false_iff_not] at hg1
    omega
  by_cases ho : order.length ≤ 100
  case neg =>
    have d1 : decide ((100 : Int) < (order.length : Int)) = true := decide_eq_true (by omega)
    have d2 : decide (100 < order.length) = true := decide_eq_true (by omega)
    clear hg1 hg2 hpb ho
    go_enter Try.func4, Try.ntmps4
    go_wp2_with (first
      | (go_at_call 20; refine (HG1.out _).mono ?_; rintro e w1 ⟨rfl, hb1⟩; obtain ⟨q0, q1⟩ := And.intro (HXa.out _ hb1).bx.c0 (HXa.out _ hb1).bx.c1)
      | (go_at_call 8; refine (HG2.out w1 (HXa.out _ hb1)).mono ?_; rintro e w2 ⟨rfl, hb2⟩))
    go_ret
    exact ⟨rfl, (HXa.out _ (hb1.trans (hb2.mono hb1.size))).lo⟩
  case pos =>
  have d1 : decide ((100 : Int) < (order.length : Int)) = false := decide_eq_false (by omega)
  have d2 : decide (100 < order.length) = false := decide_eq_false (by omega)
  have HO1 : Hid (∀ W, CeA w pb A l As Fs cs fcs s Ao order W → Calls Try.prog 21 #[.slice A l.length c] W fun e w' => ShPost W (ofE l) e w') := fun W h => pof_any A c l hw W h.cl
  have HO2 : Hid (∀ W, CeA w pb A l As Fs cs fcs s Ao order W → Calls Try.prog 22 #[.slice A l.length c] W fun e w' => ShPost W (ofE l) e w') := fun W h => rof_any A c l hlc W h.cl
  have HM1 : Hid (∀ W, CeA w pb A l As Fs cs fcs s Ao order W → Calls Try.prog 23 #[sftV As Fs cs fcs s, .slice Ao order.length k0] W fun e w' => MyPost W (mayE s order) e w') := fun W h => pmay_any As Fs cs fcs s (by omega) (by omega) Ao k0 order (by omega) W h.bx.at_ h.od
  have HM2 : Hid (∀ W, CeA w pb A l As Fs cs fcs s Ao order W → Calls Try.prog 24 #[sftV As Fs cs fcs s, .slice Ao order.length k0] W fun e w' => MyPost W (mayE s order) e w') := fun W h => rmay_any As Fs cs fcs s (by omega) (by omega) Ao k0 order (by omega) W h.bx.at_ h.od
  obtain ⟨⟨R, re⟩, hR⟩ : ∃ R, R = ofE l := ⟨_, rfl⟩
  obtain ⟨⟨mb, me⟩, hM⟩ : ∃ R, R = mayE s order := ⟨_, rfl⟩
  simp only [← hR] at HO1 HO2
  simp only [← hM] at HM1 HM2
  have hRl : R.to_.length ≤ 100000 ∧ R.first.length ≤ 1000000 := by
    have e : R = (ofE l).1 := by rw [← hR]
    rw [e]
    exact ofE_few l hl300
  obtain ⟨n, hn⟩ : ∃ n, n = R.to_.length := ⟨_, rfl⟩
  obtain ⟨m, hm⟩ : ∃ m, m = R.first.length := ⟨_, rfl⟩
  rw [← hn, ← hm] at hRl
  have HO1' : Hid (∀ W, CeA w pb A l As Fs cs fcs s Ao order W → Calls Try.prog 21 #[.slice A l.length c] W fun e w' => ∃ At ct Af cf, e = .returned (.tuple #[.agg #[.slice At n ct, .slice Af m cf], .int .i64 re]) ∧ SfAt At Af R w' ∧ Below W.heap.size W w') := fun W h => (HO1.out W h).mono fun e w' ⟨At, ct, Af, cf, h1, h2, h3, h4⟩ => ⟨At, ct, Af, cf, by rw [h1, hn, hm], ⟨h2, h3⟩, h4⟩
  have HO2' : Hid (∀ W, CeA w pb A l As Fs cs fcs s Ao order W → Calls Try.prog 22 #[.slice A l.length c] W fun e w' => ∃ At ct Af cf, e = .returned (.tuple #[.agg #[.slice At n ct, .slice Af m cf], .int .i64 re]) ∧ SfAt At Af R w' ∧ Below W.heap.size W w') := fun W h => (HO2.out W h).mono fun e w' ⟨At, ct, Af, cf, h1, h2, h3, h4⟩ => ⟨At, ct, Af, cf, by rw [h1, hn, hm], ⟨h2, h3⟩, h4⟩
  have HN := Lib.hid (And.intro hn hm)
  have hRl1 := hRl.1
  have hRl2 := hRl.2
  clear HO1 HO2 hR hM hn hm hRl hg1 hg2
  go_enter Try.func4, Try.ntmps4
  go_upto_region 3 with (first
    | (go_at_call 20; refine (HG1.out _).mono ?_; rintro e w1 ⟨rfl, hb1⟩; obtain ⟨q0, q1⟩ := And.intro (HXa.out _ hb1).bx.c0 (HXa.out _ hb1).bx.c1)
    | (go_at_call 8; refine (HG2.out w1 (HXa.out _ hb1)).mono ?_; rintro e w2 ⟨rfl, hb2⟩))
  have hCe := HXa.out _ (hb1.trans (hb2.mono hb1.size))
  refine abs_world (Q := fun W => Code.wp _ _ _ _ W) (F := fun W => CeA w w.heap.size A l As Fs cs fcs s Ao order W) _ hCe ?_
  clear hCe HXa hb1 hb2 q0 q1 g0 g1 HA0 HG1 HG2
  rw [← hpb]
  clear hpb
  intro W2 hA
  have HA := Lib.hid hA
  clear hA
  go_upto_region 4 with ((go_at_call 21; refine (HO1'.out _ HA.out).mono ?_; rintro e w3 ⟨A1, c1, F1, f1, rfl, hs1, hb3⟩))
  have hX1 := SfBx.new c1 f1 hs1
  have hb4 := hb3.trans ((al_t w3 (sftB A1 F1 c1 f1 R)).mono hb3.size)
  obtain ⟨xb, hxb⟩ : ∃ x, x = w3.heap.size := ⟨_, rfl⟩
  have HX1 : Hid (CeA w pb A l As Fs cs fcs s Ao order (w3.alloc (.cells #[.slice A1 n c1, .slice F1 m f1] 25)) ∧ SfBx xb A1 F1 c1 f1 R (w3.alloc (.cells #[.slice A1 n c1, .slice F1 m f1] 25))) := by
    rw [hxb, HN.out.1, HN.out.2]; exact ⟨HA.out.to hb4, hX1⟩
  refine abs_world (Q := fun W => Code.wp _ _ _ _ W) (F := fun W => CeA w pb A l As Fs cs fcs s Ao order W ∧ SfBx xb A1 F1 c1 f1 R W) _ HX1.out ?_
  rw [← hxb]
  clear HX1 hX1 hb4 hs1 hb3 hxb HA
  rintro W3 ⟨hA, hx⟩
  have HA := Lib.hid hA
  have HXb := Lib.hid hx
  clear hA hx
  go_upto_region 5 with ((go_at_call 22; refine (HO2'.out _ HA.out).mono ?_; rintro e w3 ⟨A2, c2, F2, f2, rfl, hs1, hb3⟩))
  have hX1 := SfBx.new c2 f2 hs1
  have hb4 := hb3.trans ((al_t w3 (sftB A2 F2 c2 f2 R)).mono hb3.size)
  obtain ⟨yb, hyb⟩ : ∃ x, x = w3.heap.size := ⟨_, rfl⟩
  have HX1 : Hid ((CeA w pb A l As Fs cs fcs s Ao order (w3.alloc (.cells #[.slice A2 n c2, .slice F2 m f2] 25)) ∧ SfBx xb A1 F1 c1 f1 R (w3.alloc (.cells #[.slice A2 n c2, .slice F2 m f2] 25))) ∧ SfBx yb A2 F2 c2 f2 R (w3.alloc (.cells #[.slice A2 n c2, .slice F2 m f2] 25))) := by
    rw [hyb, HN.out.1, HN.out.2]; exact ⟨⟨HA.out.to hb4, HXb.out.to hb4⟩, hX1⟩
  refine abs_world (Q := fun W => Code.wp _ _ _ _ W) (F := fun W => (CeA w pb A l As Fs cs fcs s Ao order W ∧ SfBx xb A1 F1 c1 f1 R W) ∧ SfBx yb A2 F2 c2 f2 R W) _ HX1.out ?_
  rw [← hyb]
  clear HX1 hX1 hb4 hs1 hb3 hyb HA HXb
  rintro W4 ⟨⟨hA, hx⟩, hy⟩
  obtain ⟨q0, q1⟩ := And.intro hA.bx.c0 hA.bx.c1
  have HA := Lib.hid hA
  have HXb := Lib.hid hx
  have HYb := Lib.hid hy
  clear hA hx hy
  go_upto_region 6 with ((go_at_call 23; refine (HM1.out _ HA.out).mono ?_; rintro e w3 ⟨rfl, hb3⟩))
  refine abs_world (Q := fun W => Code.wp _ _ _ _ W) (F := fun W => (CeA w pb A l As Fs cs fcs s Ao order W ∧ SfBx xb A1 F1 c1 f1 R W) ∧ SfBx yb A2 F2 c2 f2 R W) _ ⟨⟨HA.out.to hb3, HXb.out.to hb3⟩, HYb.out.to hb3⟩ ?_
  clear hb3 HA HXb HYb q0 q1
  rintro W5 ⟨⟨hA, hx⟩, hy⟩
  obtain ⟨q0, q1⟩ := And.intro hA.bx.c0 hA.bx.c1
  have HA := Lib.hid hA
  have HXb := Lib.hid hx
  have HYb := Lib.hid hy
  clear hA hx hy
  go_upto_region 7 with ((go_at_call 24; refine (HM2.out _ HA.out).mono ?_; rintro e w3 ⟨rfl, hb3⟩))
  refine abs_world (Q := fun W => Code.wp _ _ _ _ W) (F := fun W => (CeA w pb A l As Fs cs fcs s Ao order W ∧ SfBx xb A1 F1 c1 f1 R W) ∧ SfBx yb A2 F2 c2 f2 R W) _ ⟨⟨HA.out.to hb3, HXb.out.to hb3⟩, HYb.out.to hb3⟩ ?_
  clear hb3 HA HXb HYb q0 q1
  rintro W6 ⟨⟨hA, hx⟩, hy⟩
  have x0 := hx.c0
  have x1 := hx.c1
  have y0 := hy.c0
  have y1 := hy.c1
  rw [← HN.out.1] at x0 y0
  rw [← HN.out.2] at x1 y1
  have HSm := Lib.hid (same32_any A1 F1 A2 F2 c1 f1 c2 f2 R n m HN.out.1 HN.out.2 W6 hx.at_ hy.at_ (by omega) (by omega))
  have HLo := Lib.hid hA.lo
  have bb : (mb == mb) = true := by simp
  clear hA hx hy
  go_wp2_with ((go_at_call 25; refine HSm.out.mono ?_; rintro e w7 ⟨rfl, hb7⟩))
  go_ret
  exact ⟨rfl, HLo.out.trans (hb7.mono HLo.out.size)⟩
end Go.Proofs.Ytflpikickbellaa
