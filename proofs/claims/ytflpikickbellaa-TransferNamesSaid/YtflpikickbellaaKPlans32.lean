/- TransferPlans, walked: Check, Order, Plan and Held return what the reference returns. -/
import Derived.Test.YtflpikickbellaaKPq
import Derived.Test.YtflpikickbellaaKPh
import Derived.Test.YtflpikickbellaaKG9
import Derived.Deep.RegionHeld3
namespace Go.Proofs.Ytflpikickbellaa
open Go.RowKit Go.Shelf Go.Sort
set_option maxRecDepth 100000

structure Ag (w : World) (A F : Option Addr) (c fc : Nat) (s : Sft) (W : World) : Prop where
  lo : Below w.heap.size w W
  bx : SfBx w.heap.size A F c fc s W
theorem Ag.to {w W W' : World} {A F : Option Addr} {c fc : Nat} {s : Sft} (h : Ag w A F c fc s W) (hb : Below W.heap.size W W') : Ag w A F c fc s W' := ⟨h.lo.trans (hb.mono h.lo.size), h.bx.to hb⟩
theorem ord_len (s : Sft) (h : s.to_.length ≤ 50) : (ordE s).1.length ≤ 50 := by
  have := (ordE_ok s).2
  have e : s.n = s.to_.length := rfl
  omega
theorem pln_len (s : Sft) (h : s.to_.length ≤ 50) : (plE s).1.length ≤ 1000 := by
  unfold plE
  split
  · simp
  · rename_i h0
    have h0' : (plndE s).2 = 0 := by simpa using h0
    obtain ⟨hle, -⟩ := plndE_l h0'
    have hok := ordE_ok s
    rw [← hle] at hok
    have e : s.n = s.to_.length := rfl
    show (plnI s (plndE s).1).length ≤ 1000
    unfold plnI
    rw [List.length_append]
    have := runP_len hok.1 _ (Nat.le_refl _)
    have := turnI_len (runP s (plndE s).1 (plndE s).1.length).1 0
    omega
theorem hld_len (s : Sft) (h : s.to_.length ≤ 50) : (hldE s).1.length ≤ 101 ∧ ∀ p ∈ (hldE s).1, p.2.length ≤ 101 := by
  unfold hldE
  split
  · exact ⟨by simp, fun p hp => by cases hp⟩
  · rename_i h0
    have h0' : (plndE s).2 = 0 := by simpa using h0
    obtain ⟨hle, -⟩ := plndE_l h0'
    have hok := ordE_ok s
    rw [← hle] at hok
    refine ⟨heldN_len s _ 101, fun p hp => ?_⟩
    have e := (heldN_mem hp).2
    have e2 : s.n = s.to_.length := rfl
    rw [e, ← conB_held]
    have := conB_len s (plndE s).1 (plndE s).1.length (p.1 : Int)
    omega
set_option maxHeartbeats 16000000 in
theorem plans_walk (A F : Option Addr) (c fc : Nat) (s : Sft) (w : World) (hs : SlI w w.heap.size A s.to_) (hp : SlPr w w.heap.size F s.first) :
    Calls Try.prog 3 #[sftV A F c fc s] w fun e w' => e = .returned (.bool true) ∧ Below w.heap.size w w' := by
  have hb1 := al_t w (sftB A F c fc s)
  have HX : Hid (Ag w A F c fc s (w.alloc (sftB A F c fc s))) := ⟨hb1, SfBx.new c fc ⟨hs, hp⟩⟩
  clear hb1 hs hp
  go_enter Try.func3, Try.ntmps3
  go_upto_region 1 with fail
  refine abs_world (Q := fun W => Code.wp _ _ _ _ W) (F := fun W => Ag w A F c fc s W) _ HX.out ?_
  clear HX
  rintro W1 hA1
  obtain ⟨g0, g1⟩ := And.intro hA1.bx.c0 hA1.bx.c1
  have HA1 := Lib.hid hA1
  have HGr := Lib.hid (rgreat_any A F c fc s W1 hA1.bx.at_)
  clear hA1
  cases hgr : grtB s with
  | true =>
    rw [hgr] at HGr
    clear hgr
    go_wp2_with ((go_at_call 8; refine HGr.out.mono ?_; rintro e w2 ⟨rfl, hb2⟩))
    go_ret
    exact ⟨rfl, HA1.out.lo.trans (hb2.mono HA1.out.lo.size)⟩
  | false =>
  rw [hgr] at HGr
  obtain ⟨h50, h100⟩ := great_no hgr
  clear hgr
  have hol := ord_len s h50
  have hpl := pln_len s h50
  obtain ⟨hhl, hhm⟩ := hld_len s h50
  have HO1 : Hid (∀ W, Ag w A F c fc s W → Calls Try.prog 9 #[sftV A F c fc s] W fun e w' => ∃ a k, e = .returned (.tuple #[.slice a (ordE s).1.length k, .int .i64 (ordE s).2]) ∧ SlI w' w'.heap.size a (ordE s).1 ∧ Below W.heap.size W w') := fun W h => porder_any A F c fc s (by omega) (by omega) W h.bx.at_
  have HO2 : Hid (∀ W, Ag w A F c fc s W → Calls Try.prog 10 #[sftV A F c fc s] W fun e w' => ∃ a k, e = .returned (.tuple #[.slice a (ordE s).1.length k, .int .i64 (ordE s).2]) ∧ SlI w' w'.heap.size a (ordE s).1 ∧ Below W.heap.size W w') := fun W h => rorder_any A F c fc s (by omega) (by omega) W h.bx.at_
  have HP1 : Hid (∀ W, Ag w A F c fc s W → Calls Try.prog 11 #[sftV A F c fc s] W fun e w' => ∃ a k, e = .returned (.tuple #[.slice a (plE s).1.length k, .int .i64 (plE s).2]) ∧ SlX w' w'.heap.size a (plE s).1 ∧ Below W.heap.size W w') := fun W h => pplan_any A F c fc s (by omega) (by omega) W h.bx.at_
  have HP2 : Hid (∀ W, Ag w A F c fc s W → Calls Try.prog 12 #[sftV A F c fc s] W fun e w' => ∃ a k, e = .returned (.tuple #[.slice a (plE s).1.length k, .int .i64 (plE s).2]) ∧ SlX w' w'.heap.size a (plE s).1 ∧ Below W.heap.size W w') := fun W h => rplan_any A F c fc s (by omega) (by omega) W h.bx.at_
  have HH1 : Hid (∀ W, Ag w A F c fc s W → Calls Try.prog 13 #[sftV A F c fc s] W fun e w' => ∃ a k, e = .returned (.tuple #[.slice a (hldE s).1.length k, .int .i64 (hldE s).2]) ∧ SlHk w' w'.heap.size a ((hldE s).1.map hkOf) ∧ Below W.heap.size W w') := fun W h => pheld_any A F c fc s (by omega) (by omega) W h.bx.at_
  have HH2 : Hid (∀ W, Ag w A F c fc s W → Calls Try.prog 14 #[sftV A F c fc s] W fun e w' => ∃ a k, e = .returned (.tuple #[.slice a (hldE s).1.length k, .int .i64 (hldE s).2]) ∧ SlHk w' w'.heap.size a ((hldE s).1.map hkOf) ∧ Below W.heap.size W w') := fun W h => rheld_any A F c fc s (by omega) (by omega) W h.bx.at_
  have HC1 : Hid (∀ W, Ag w A F c fc s W → Calls Try.prog 15 #[sftV A F c fc s] W fun e w' => e = .returned (.int .i64 (sftE s)) ∧ Below W.heap.size W w') := fun W h => pchk_any A F c fc s (by omega) (by omega) W h.bx.at_
  have HC2 : Hid (∀ W, Ag w A F c fc s W → Calls Try.prog 16 #[sftV A F c fc s] W fun e w' => e = .returned (.int .i64 (sftE s)) ∧ Below W.heap.size W w') := fun W h => rchk_any A F c fc s (by omega) (by omega) W h.bx.at_
  obtain ⟨⟨ol, ox⟩, hoe⟩ : ∃ y, y = ordE s := ⟨_, rfl⟩
  obtain ⟨⟨pl, px⟩, hpe⟩ : ∃ y, y = plE s := ⟨_, rfl⟩
  obtain ⟨⟨hl, hx⟩, hhe⟩ : ∃ y, y = hldE s := ⟨_, rfl⟩
  obtain ⟨cx, hce⟩ : ∃ y, y = sftE s := ⟨_, rfl⟩
  rw [← hoe] at HO1 HO2 hol
  rw [← hpe] at HP1 HP2 hpl
  rw [← hhe] at HH1 HH2 hhl hhm
  rw [← hce] at HC1 HC2
  replace hol : ol.length ≤ 50 := hol
  replace hpl : pl.length ≤ 1000 := hpl
  replace hhl : hl.length ≤ 101 := hhl
  replace hhm : ∀ p ∈ hl, p.2.length ≤ 101 := hhm
  have HHm := Lib.hid hhm
  clear hoe hpe hhe hce hhm h50 h100
  go_upto_region 3 with ((go_at_call 8; refine HGr.out.mono ?_; rintro e w2 ⟨rfl, hb2⟩))
  refine abs_world (Q := fun W => Code.wp _ _ _ _ W) (F := fun W => Ag w A F c fc s W) _ (HA1.out.to hb2) ?_
  clear HGr hb2 HA1 g0 g1
  rintro W2 hA2
  obtain ⟨g0, g1⟩ := And.intro hA2.bx.c0 hA2.bx.c1
  have HA := Lib.hid hA2
  clear hA2
  go_upto_region 4 with ((go_at_call 9; refine (HO1.out _ HA.out).mono ?_; rintro e w3 ⟨a1, k1, rfl, hsl, hb⟩))
  refine abs_world (Q := fun W => Code.wp _ _ _ _ W) (F := fun W => Ag w A F c fc s W ∧ SlI W W.heap.size a1 ol) _ ⟨HA.out.to hb, hsl⟩ ?_
  clear hsl hb HA HO1  g0 g1
  rintro W3 ⟨hA, h1⟩
  obtain ⟨g0, g1⟩ := And.intro hA.bx.c0 hA.bx.c1
  have HA := Lib.hid hA
  have HS1 := Lib.hid h1
  clear hA h1
  go_upto_region 5 with ((go_at_call 10; refine (HO2.out _ HA.out).mono ?_; rintro e w3 ⟨a2, k2, rfl, hsl, hb⟩))
  refine abs_world (Q := fun W => Code.wp _ _ _ _ W) (F := fun W => Ag w A F c fc s W ∧ SlI W W.heap.size a1 ol ∧ SlI W W.heap.size a2 ol) _ ⟨HA.out.to hb, (HS1.out.below hb).more hb.size, hsl⟩ ?_
  clear hsl hb HA HO2 HS1 g0 g1
  rintro W4 ⟨hA, h1, h2⟩
  obtain ⟨g0, g1⟩ := And.intro hA.bx.c0 hA.bx.c1
  have HA := Lib.hid hA
  have HS1 := Lib.hid h1
  have HS2 := Lib.hid h2
  clear hA h1 h2
  go_upto_region 6 with ((go_at_call 11; refine (HP1.out _ HA.out).mono ?_; rintro e w3 ⟨a3, k3, rfl, hsl, hb⟩))
  refine abs_world (Q := fun W => Code.wp _ _ _ _ W) (F := fun W => Ag w A F c fc s W ∧ SlI W W.heap.size a1 ol ∧ SlI W W.heap.size a2 ol ∧ SlX W W.heap.size a3 pl) _ ⟨HA.out.to hb, (HS1.out.below hb).more hb.size, (HS2.out.below hb).more hb.size, hsl⟩ ?_
  clear hsl hb HA HP1 HS1 HS2 g0 g1
  rintro W5 ⟨hA, h1, h2, h3⟩
  obtain ⟨g0, g1⟩ := And.intro hA.bx.c0 hA.bx.c1
  have HA := Lib.hid hA
  have HS1 := Lib.hid h1
  have HS2 := Lib.hid h2
  have HS3 := Lib.hid h3
  clear hA h1 h2 h3
  go_upto_region 7 with ((go_at_call 12; refine (HP2.out _ HA.out).mono ?_; rintro e w3 ⟨a4, k4, rfl, hsl, hb⟩))
  refine abs_world (Q := fun W => Code.wp _ _ _ _ W) (F := fun W => Ag w A F c fc s W ∧ SlI W W.heap.size a1 ol ∧ SlI W W.heap.size a2 ol ∧ SlX W W.heap.size a3 pl ∧ SlX W W.heap.size a4 pl) _ ⟨HA.out.to hb, (HS1.out.below hb).more hb.size, (HS2.out.below hb).more hb.size, (HS3.out.below hb).more hb.size, hsl⟩ ?_
  clear hsl hb HA HP2 HS1 HS2 HS3 g0 g1
  rintro W6 ⟨hA, h1, h2, h3, h4⟩
  obtain ⟨g0, g1⟩ := And.intro hA.bx.c0 hA.bx.c1
  have HA := Lib.hid hA
  have HS1 := Lib.hid h1
  have HS2 := Lib.hid h2
  have HS3 := Lib.hid h3
  have HS4 := Lib.hid h4
  clear hA h1 h2 h3 h4
  go_upto_region 8 with ((go_at_call 13; refine (HH1.out _ HA.out).mono ?_; rintro e w3 ⟨a5, k5, rfl, hsl, hb⟩))
  refine abs_world (Q := fun W => Code.wp _ _ _ _ W) (F := fun W => Ag w A F c fc s W ∧ SlI W W.heap.size a1 ol ∧ SlI W W.heap.size a2 ol ∧ SlX W W.heap.size a3 pl ∧ SlX W W.heap.size a4 pl ∧ SlHk W W.heap.size a5 (hl.map hkOf)) _ ⟨HA.out.to hb, (HS1.out.below hb).more hb.size, (HS2.out.below hb).more hb.size, (HS3.out.below hb).more hb.size, (HS4.out.below hb).more hb.size, hsl⟩ ?_
  clear hsl hb HA HH1 HS1 HS2 HS3 HS4 g0 g1
  rintro W7 ⟨hA, h1, h2, h3, h4, h5⟩
  obtain ⟨g0, g1⟩ := And.intro hA.bx.c0 hA.bx.c1
  have HA := Lib.hid hA
  have HS1 := Lib.hid h1
  have HS2 := Lib.hid h2
  have HS3 := Lib.hid h3
  have HS4 := Lib.hid h4
  have HS5 := Lib.hid h5
  clear hA h1 h2 h3 h4 h5
  go_upto_region 9 with ((go_at_call 14; refine (HH2.out _ HA.out).mono ?_; rintro e w3 ⟨a6, k6, rfl, hsl, hb⟩))
  refine abs_world (Q := fun W => Code.wp _ _ _ _ W) (F := fun W => Ag w A F c fc s W ∧ SlI W W.heap.size a1 ol ∧ SlI W W.heap.size a2 ol ∧ SlX W W.heap.size a3 pl ∧ SlX W W.heap.size a4 pl ∧ SlHk W W.heap.size a5 (hl.map hkOf) ∧ SlHk W W.heap.size a6 (hl.map hkOf)) _ ⟨HA.out.to hb, (HS1.out.below hb).more hb.size, (HS2.out.below hb).more hb.size, (HS3.out.below hb).more hb.size, (HS4.out.below hb).more hb.size, (HS5.out.below hb).more hb.size, hsl⟩ ?_
  clear hsl hb HA HH2 HS1 HS2 HS3 HS4 HS5 g0 g1
  rintro W8 ⟨hA, h1, h2, h3, h4, h5, h6⟩
  obtain ⟨g0, g1⟩ := And.intro hA.bx.c0 hA.bx.c1
  have HA := Lib.hid hA
  have HS1 := Lib.hid h1
  have HS2 := Lib.hid h2
  have HS3 := Lib.hid h3
  have HS4 := Lib.hid h4
  have HS5 := Lib.hid h5
  have HS6 := Lib.hid h6
  clear hA h1 h2 h3 h4 h5 h6
  obtain ⟨W, hW⟩ : ∃ W, W = W8 := ⟨_, rfl⟩
  rw [← hW] at HA HS1 HS2 HS3 HS4 HS5 HS6 g0 g1 ⊢
  clear hW
  have HG : Hid (∀ W', Below W.heap.size W W' → W'.cell? ⟨w.heap.size, 0, none⟩ = some (.slice A s.to_.length c) ∧ W'.cell? ⟨w.heap.size, 1, none⟩ = some (.slice F s.first.length fc) ∧ Below W.heap.size W W') := fun W' hb => ⟨(HA.out.to hb).bx.c0, (HA.out.to hb).bx.c1, hb⟩
  have HD1 : Hid (∀ W', Below W.heap.size W W' → Calls Try.prog 15 #[sftV A F c fc s] W' fun e w' => e = .returned (.int .i64 cx) ∧ Below W.heap.size W w') := fun W' hb => (HC1.out W' (HA.out.to hb)).mono fun e w' h => ⟨h.1, hb.trans (h.2.mono hb.size)⟩
  have HD2 : Hid (∀ W', Below W.heap.size W W' → Calls Try.prog 16 #[sftV A F c fc s] W' fun e w' => e = .returned (.int .i64 cx) ∧ Below W.heap.size W w') := fun W' hb => (HC2.out W' (HA.out.to hb)).mono fun e w' h => ⟨h.1, hb.trans (h.2.mono hb.size)⟩
  have HE1 : Hid (∀ W', Below W.heap.size W W' → Calls Try.prog 17 #[.slice a1 ol.length k1, .slice a2 ol.length k2] W' fun e w' => e = .returned (.bool true) ∧ Below W.heap.size W w') := fun W' hb => (sameI_any a1 a2 k1 k2 ol W' ((HS1.out.below hb).more hb.size) ((HS2.out.below hb).more hb.size) (by omega)).mono fun e w' h => ⟨h.1, by obtain ⟨m, hm⟩ := h.2; rw [hm]; exact below_drewT hb m⟩
  have HE2 : Hid (∀ W', Below W.heap.size W W' → Calls Try.prog 18 #[.slice a3 pl.length k3, .slice a4 pl.length k4] W' fun e w' => e = .returned (.bool true) ∧ Below W.heap.size W w') := fun W' hb => (sameInstrs_any a3 a4 k3 k4 pl W' ((HS3.out.below hb).more hb.size) ((HS4.out.below hb).more hb.size) (by omega)).mono fun e w' h => ⟨h.1, hb.trans (h.2.mono hb.size)⟩
  have HE3 : Hid (∀ W', Below W.heap.size W W' → Calls Try.prog 19 #[.slice a5 hl.length k5, .slice a6 hl.length k6] W' fun e w' => e = .returned (.bool true) ∧ Below W.heap.size W w') := fun W' hb => by
    have := sameHooks_any a5 a6 k5 k6 (hl.map hkOf) W' ((HS5.out.below hb).more hb.size) ((HS6.out.below hb).more hb.size) (by rw [List.length_map]; omega) (fun x hx => by
      obtain ⟨p, hp, rfl⟩ := List.mem_map.1 hx
      have := HHm.out p hp
      show p.2.length ≤ _
      omega)
    rw [List.length_map] at this
    exact this.mono fun e w' h => ⟨h.1, hb.trans (h.2.mono hb.size)⟩
  have HLo := Lib.hid HA.out.lo
  have e1 : (cx == cx) = true := by simp
  have e2 : (ox == ox) = true := by simp
  have e3 : (px == px) = true := by simp
  have e4 : (hx == hx) = true := by simp
  clear HA HS1 HS2 HS3 HS4 HS5 HS6 HC1 HC2 HHm
  go_region_held3 (fun W' => W'.cell? ⟨w.heap.size, 0, none⟩ = some (.slice A s.to_.length c) ∧ W'.cell? ⟨w.heap.size, 1, none⟩ = some (.slice F s.first.length fc) ∧ Below W.heap.size W W')
    (first | exact HG.out _ (Below.drew (Below.refl _ _)) | exact HG.out _ (by assumption) | fail)
    (first
      | (go_at_call 15; refine (HD1.out _ (by first | assumption | exact And.right (And.right (by assumption)))).mono ?_; rintro e w' ⟨rfl, hb3⟩)
      | (go_at_call 16; refine (HD2.out _ (by first | assumption | exact And.right (And.right (by assumption)))).mono ?_; rintro e w' ⟨rfl, hb3⟩)
      | (go_at_call 17; refine (HE1.out _ (by first | assumption | exact And.right (And.right (by assumption)))).mono ?_; rintro e w' ⟨rfl, hb3⟩)
      | (go_at_call 18; refine (HE2.out _ (by first | assumption | exact And.right (And.right (by assumption)))).mono ?_; rintro e w' ⟨rfl, hb3⟩)
      | (go_at_call 19; refine (HE3.out _ (by first | assumption | exact And.right (And.right (by assumption)))).mono ?_; rintro e w' ⟨rfl, hb3⟩)
      | fail)
  rename_i hS1
  have HB3 := Lib.hid hS1.2.2
  clear hS1
  go_wp2
  go_ret
  exact ⟨by simp, HLo.out.trans (HB3.out.mono HLo.out.size)⟩
end Go.Proofs.Ytflpikickbellaa
