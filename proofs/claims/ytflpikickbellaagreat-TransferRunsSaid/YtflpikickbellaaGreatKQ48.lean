/- TransferRuns, walked. TransferRuns, walked: the law. -/
import Derived.Test.YtflpikickbellaaGreatKTrW
import Derived.Test.YtflpikickbellaaGreatKQ18
import Derived.Test.YtflpikickbellaaGreatKQ49
import Derived.Test.YtflpikickbellaaGreatKQ20
import Derived.Deep.RegionHeld3
import Derived.BigQuiet
namespace Go.Proofs.YtflpikickbellaaGreat
open Go.RowKit Go.Shelf Go.Sort
set_option maxRecDepth 100000

theorem xf_wf (b n tt : Int) (hb : 0 ≤ b ∧ b ≤ 1) : (xfT b n tt).wf := ⟨by show (0 : Int) ≤ 7; decide, by show (7 : Int) ≤ 255; decide, hb.1, by show b ≤ 255; omega⟩
theorem rack_wf (r : Int) : (rackI r).wf := ⟨by show (0 : Int) ≤ 8; decide, by show (8 : Int) ≤ 255; decide, by show (0 : Int) ≤ 0; decide, by show (0 : Int) ≤ 255; decide⟩
theorem turn_wf (a b : Int) : ∀ i ∈ turnI a b, i.wf := fun i hi => by
  unfold turnI at hi
  split at hi
  · cases hi
  · rw [List.mem_singleton.1 hi]; exact rack_wf b
theorem runP_wf {s : Sft} {l : List Int} (h : okL s l) : ∀ k, k ≤ l.length → ∀ i ∈ (runP s l k).2, i.wf
  | 0, _ => fun i hi => by
    rw [runP_zero] at hi
    unfold frontP at hi
    obtain ⟨j, -, rfl⟩ := List.mem_map.1 hi
    exact xf_wf 0 j j ⟨by decide, by decide⟩
  | k + 1, hk => fun i hi => by
    obtain ⟨j, hj, -⟩ := h l[k] (List.getElem_mem (by omega))
    rw [runP_next (i := j) (by rw [List.getElem?_eq_getElem (by omega), hj])] at hi
    rcases List.mem_append.1 hi with hi | hi
    · exact runP_wf h k (by omega) i hi
    · rcases List.mem_append.1 hi with hi | hi
      · exact turn_wf _ _ i hi
      · rw [List.mem_singleton.1 hi]
        exact xf_wf 1 j _ ⟨by decide, by decide⟩
theorem pln_wf {s : Sft} {l : List Int} (h : okL s l) : ∀ i ∈ plnI s l, i.wf := fun i hi => by
  unfold plnI at hi
  rcases List.mem_append.1 hi with hi | hi
  · exact runP_wf h _ (Nat.le_refl _) i hi
  · exact turn_wf _ _ i hi
theorem pln_few {s : Sft} (hn : s.n ≤ 40) {l : List Int} (h : okL s l) (hl : l.length ≤ s.n) : (plnI s l).length ≤ 200 := by
  unfold plnI
  rw [List.length_append]
  have := runP_len h _ (Nat.le_refl _)
  have := turnI_len (runP s l l.length).1 0
  omega
/-- What the law looks at behind the run. -/
structure TrE (s : Sft) (t : BedS) : Prop where
  good : Good t
  rack : t.rack = 0
  hooks : t.hooks = (hldE s).1.map hkOf
  made : t.made.length = s.n
  has : ∀ i, i < s.n → ((heldAt t.hooks 0 (s.to_.getD i 0)).any fun y => decide (y = (i : Int))) = true
  ahd : ∀ p ∈ s.first, s.to_.getD p.1.toNat 0 = s.to_.getD p.2.toNat 0 → aheadE (heldAt t.hooks 0 (s.to_.getD p.2.toNat 0)) p.1 p.2 = true
def trT (s : Sft) : BedS := (runS (begT s.n) (plE s).1).1
theorem tr_all {s : Sft} (hp : (plndE s).2 = 0) : runS (begT s.n) (plE s).1 = (trT s, (((plE s).1.length : Nat) : Int), 0) ∧ TrE s (trT s) ∧ (∀ i ∈ (plE s).1, i.wf) ∧ (plE s).1.length ≤ 200 ∧ (plE s).2 = 0 ∧ (hldE s).2 = 0 := by
  obtain ⟨hs, hF, hst, ho, hl⟩ := plan_ok hp
  have hk := (begT_run (n := s.n) (by have := hs.len; omega)).2
  obtain ⟨t, h1, h2⟩ := plan_run hp hk.mst
  have ep : plE s = (plnI s (plndE s).1, 0) := by unfold plE; rw [if_neg (by simpa using hp)]
  have eh : hldE s = (heldN s (plndE s).1 101, 0) := by unfold hldE; rw [if_neg (by simpa using hp)]
  have hlen := pln_few hs.len hF.ok (by rw [hl]; exact (ordE_ok s).2)
  have er : runS (begT s.n) (plE s).1 = (t, (((plE s).1.length : Nat) : Int), 0) := by
    rw [ep]
    unfold runS
    rw [if_neg (by rw [hk.good.err]; decide), if_neg (by show ¬ 2000 < (plnI s (plndE s).1).length; omega)]
    exact h1
  have et : trT s = t := by unfold trT; rw [er]
  have hM := (may_iff hs _).1 (ex_may ho)
  rw [← hl] at hM
  rw [et]
  refine ⟨er, ⟨h2.good, h2.rack, ?_, by rw [h2.made]; exact hk.made, fun i hi => ?_, fun p hp' hto => ?_⟩, ?_, ?_, ?_, ?_⟩
  · rw [eh]; exact plan_hooks hs hF.ok h2
  · rw [h2.front]
    exact List.any_eq_true.2 ⟨_, tr_has hF hi, decide_eq_true rfl⟩
  · rw [h2.front]
    exact tr_ahead hs hF hM hp' hto
  · rw [ep]; exact pln_wf hF.ok
  · rw [ep]; exact hlen
  · rw [ep]
  · rw [eh]
theorem plh_same (s : Sft) : (plE s).2 = (plndE s).2 ∧ (hldE s).2 = (plndE s).2 := by
  unfold plE hldE
  by_cases h : (plndE s).2 = 0
  · rw [if_neg (by simpa using h), if_neg (by simpa using h), h]; exact ⟨rfl, rfl⟩
  · rw [if_pos h, if_pos h]; exact ⟨rfl, rfl⟩
/-- The shift's box. -/
structure TgA (w : World) (A F : Option Addr) (c fc : Nat) (s : Sft) (W : World) : Prop where
  lo : Below w.heap.size w W
  bx : SfBx w.heap.size A F c fc s W
theorem TgA.to {w W W' : World} {A F : Option Addr} {c fc : Nat} {s : Sft} (h : TgA w A F c fc s W) (hb : Below W.heap.size W W') : TgA w A F c fc s W' := ⟨h.lo.trans (hb.mono h.lo.size), h.bx.to hb⟩
/-- A state in a box. -/
structure TbA (qb : Nat) (t : BedS) (q : BedP) (W : World) : Prop where
  b0 : W.cell? ⟨qb, 0, none⟩ = some (.int .i64 t.rack)
  b1 : W.cell? ⟨qb, 1, none⟩ = some (.slice q.ah t.hooks.length q.ch)
  b2 : W.cell? ⟨qb, 2, none⟩ = some (.slice q.af t.feeds.length q.cf)
  b3 : W.cell? ⟨qb, 3, none⟩ = some (.slice q.am t.made.length q.cm)
  st : BedAt W W.heap.size q t
theorem TbA.to {qb : Nat} {t : BedS} {q : BedP} {W W' : World} (h : TbA qb t q W) (hb : Below W.heap.size W W') : TbA qb t q W' :=
  have hs := lt_of_cell h.b0
  ⟨(bcell hb hs _).trans h.b0, (bcell hb hs _).trans h.b1, (bcell hb hs _).trans h.b2, (bcell hb hs _).trans h.b3, (h.st.below hb).more hb.size⟩
theorem TbA.new {t : BedS} {q : BedP} {W : World} (h : BedAt W W.heap.size q t) : TbA W.heap.size t q (W.alloc (.cells #[.int .i64 t.rack, .slice q.ah t.hooks.length q.ch, .slice q.af t.feeds.length q.cf, .slice q.am t.made.length q.cm] 39)) :=
  have hb := al_t W (.cells #[.int .i64 t.rack, .slice q.ah t.hooks.length q.ch, .slice q.af t.feeds.length q.cf, .slice q.am t.made.length q.cm] 39)
  ⟨cell_new rfl rfl rfl, cell_new rfl rfl rfl, cell_new rfl rfl rfl, cell_new rfl rfl rfl, (h.below hb).more hb.size⟩
abbrev TbA.at4 (qb : Nat) (q : BedP) (rk : Int) (nh nf nm : Nat) (W : World) : Prop := W.cell? ⟨qb, 0, none⟩ = some (.int .i64 rk) ∧ W.cell? ⟨qb, 1, none⟩ = some (.slice q.ah nh q.ch) ∧ W.cell? ⟨qb, 2, none⟩ = some (.slice q.af nf q.cf) ∧ W.cell? ⟨qb, 3, none⟩ = some (.slice q.am nm q.cm)
end Go.Proofs.YtflpikickbellaaGreat
namespace Go.Proofs.YtflpikickbellaaGreat
open Go.RowKit Go.Shelf Go.Sort
set_option maxRecDepth 100000

set_option maxHeartbeats 32000000 in
theorem runs_walk (A F : Option Addr) (c fc : Nat) (s : Sft) (w : World) (hs : SlI w w.heap.size A s.to_) (hp : SlPr w w.heap.size F s.first) :
    Calls Tryz.prog 3 #[sftV A F c fc s] w fun e w' => e = .returned (.bool true) ∧ Below w.heap.size w w' := by
  have hb1 := al_t w (sftB A F c fc s)
  have HX : Hid (TgA w A F c fc s (w.alloc (sftB A F c fc s))) := ⟨hb1, SfBx.new c fc ⟨hs, hp⟩⟩
  have HAl := Lib.hid (alive32_any (w.alloc (sftB A F c fc s)))
  clear hb1 hs hp
  go_enter Tryz.func3, Tryz.ntmps3
  go_upto_region 2 with ((go_at_call 5; refine HAl.out.mono ?_; rintro e w1 ⟨rfl, hb1⟩))
  obtain ⟨xb, hxb⟩ : ∃ xb, xb = w.heap.size := ⟨_, rfl⟩
  refine abs_world (Q := fun W => Code.wp _ _ _ _ W) (F := fun W => TgA w A F c fc s W) _ (HX.out.to hb1) ?_
  clear HX HAl hb1
  rintro W1 hA1
  obtain ⟨g0, g1⟩ := And.intro hA1.bx.c0 hA1.bx.c1
  rw [← hxb] at g0 g1 ⊢
  have HXb := Lib.hid hxb
  have HA1 := Lib.hid hA1
  have HGr := Lib.hid (rgreat_any A F c fc s W1 hA1.bx.at_)
  clear hA1 hxb
  cases hgr : grtB s with
  | true =>
    rw [hgr] at HGr
    clear hgr
    go_wp2_with ((go_at_call 6; refine HGr.out.mono ?_; rintro e w2 ⟨rfl, hb2⟩))
    go_ret
    exact ⟨rfl, HA1.out.lo.trans (hb2.mono HA1.out.lo.size)⟩
  | false =>
  rw [hgr] at HGr
  obtain ⟨h50, h100⟩ := great_no hgr
  clear hgr
  have HC2 : Hid (∀ W, Below W1.heap.size W1 W → (W.cell? ⟨xb, 0, none⟩ = some (.slice A s.to_.length c) ∧ W.cell? ⟨xb, 1, none⟩ = some (.slice F s.first.length fc)) ∧ Calls Tryz.prog 7 #[sftV A F c fc s] W fun e w' => e = .returned (.int .i64 (sftE s)) ∧ Below W.heap.size W w') := fun W h => by
    rw [HXb.out]
    exact ⟨⟨(HA1.out.to h).bx.c0, (HA1.out.to h).bx.c1⟩, rchk_any A F c fc s (by omega) (by omega) W (HA1.out.to h).bx.at_⟩
  by_cases hE : sftE s = 0
  case neg =>
    have d0 : (sftE s != 0) = true := by simpa using hE
    obtain ⟨x, hx⟩ : ∃ x, x = sftE s := ⟨_, rfl⟩
    rw [← hx] at HC2 d0
    clear hE hx
    go_wp2_with (first
      | (go_at_call 6; refine HGr.out.mono ?_; rintro e w2 ⟨rfl, hb2⟩; obtain ⟨q0, q1⟩ := (HC2.out w2 hb2).1)
      | (go_at_call 7; refine (HC2.out w2 hb2).2.mono ?_; rintro e w3 ⟨rfl, hb3⟩))
    go_ret
    exact ⟨rfl, HA1.out.lo.trans ((hb2.trans (hb3.mono hb2.size)).mono HA1.out.lo.size)⟩
  case pos =>
  have HS := Lib.hid (sftE_ok hE)
  rw [hE] at HC2
  clear hE
  go_upto_region 4 with (first
    | (go_at_call 6; refine HGr.out.mono ?_; rintro e w2 ⟨rfl, hb2⟩; obtain ⟨q0, q1⟩ := (HC2.out w2 hb2).1)
    | (go_at_call 7; refine (HC2.out w2 hb2).2.mono ?_; rintro e w3 ⟨rfl, hb3⟩))
  refine abs_world (Q := fun W => Code.wp _ _ _ _ W) (F := fun W => TgA w A F c fc s W) _ (HA1.out.to (hb2.trans (hb3.mono hb2.size))) ?_
  clear HGr hb2 hb3 HA1 HC2 g0 g1 q0 q1
  clear W1
  rintro W2 hA2
  obtain ⟨g0, g1⟩ := And.intro hA2.bx.c0 hA2.bx.c1
  rw [← HXb.out] at g0 g1
  have HA := Lib.hid hA2
  have hpl : Hid (Calls Tryz.prog 8 #[sftV A F c fc s] W2 fun e w' => IPost W2 (plE s) e w') := pplan_any A F c fc s (by omega) (by omega) W2 hA2.bx.at_
  have HHd : Hid (∀ W, TgA w A F c fc s W → Calls Tryz.prog 9 #[sftV A F c fc s] W fun e w' => ∃ a k, e = .returned (.tuple #[.slice a (hldE s).1.length k, .int .i64 (hldE s).2]) ∧ SlHk w' w'.heap.size a ((hldE s).1.map hkOf) ∧ Below W.heap.size W w') := fun W h => pheld_any A F c fc s (by omega) (by omega) W h.bx.at_
  unfold IPost at hpl
  have HPl := hpl
  clear hA2 hpl
  obtain ⟨ex1, ex2⟩ := plh_same s
  rw [ex1] at HPl
  rw [ex2] at HHd
  by_cases hx0 : (plndE s).2 = 0
  case neg =>
    obtain ⟨x, hx⟩ : ∃ x, x = (plndE s).2 := ⟨_, rfl⟩
    rw [← hx] at HPl HHd hx0
    have d0 : (x != 0) = true := by simpa using hx0
    have d1 : (x == x) = true := beq_self_eq_true x
    clear hx hx0 ex1 ex2
    go_upto_region 5 with ((go_at_call 8; refine HPl.out.mono ?_; rintro e w3 ⟨a1, k1, rfl, hsl, hb3⟩))
    have hA3 := HA.out.to hb3
    have HD := Lib.hid (HHd.out w3 hA3)
    obtain ⟨q0, q1⟩ := And.intro hA3.bx.c0 hA3.bx.c1
    rw [← HXb.out] at q0 q1
    have HA3 := Lib.hid hA3
    clear hsl hb3 hA3 HA HPl HHd g0 g1
    go_wp2_with ((go_at_call 9; refine HD.out.mono ?_; rintro e w4 ⟨a2, k2, rfl, hsl, hb4⟩))
    go_ret
    exact ⟨rfl, (HA3.out.to hb4).lo⟩
  case pos =>
  obtain ⟨hrun, hE, hwf, hfew, -, -⟩ := tr_all hx0
  rw [hx0] at HPl HHd
  clear ex1 ex2 hx0
  have h40 := HS.out.len
  have hbg : ∀ W, Calls Tryz.prog 10 #[.int .i64 (s.n : Int)] W fun e w' => ∃ p, e = .returned (.tuple #[(begT s.n).val p, .bool true]) ∧ BedAt w' w'.heap.size p (begT s.n) ∧ Below W.heap.size W w' := fun W => begin_any s.n (by omega) W
  have hgb := (begT_run (n := s.n) (by omega)).2
  have HBg := Lib.hid hbg
  have HRn : Hid (∀ (p : BedP) (a : Option Addr) (k : Nat) (W : World), BedAt W W.heap.size p (begT s.n) → SlX W W.heap.size a (plE s).1 → Calls Tryz.prog 11 #[(begT s.n).val p, .slice a (plE s).1.length k] W fun e w' => ∃ q, e = .returned (.tuple #[(trT s).val q, .int .i64 (((plE s).1.length : Nat) : Int), .int .i64 0]) ∧ BedAt w' w'.heap.size q (trT s) ∧ Below W.heap.size W w') := fun p a k W hb hx => by
    have h := brun_any (begT s.n) p hgb.good.wf ⟨hgb.good.seek.1, hgb.good.fd.len, by rw [hgb.made]; omega⟩ (plE s).1 (by omega) (fun _ _ => by rw [hgb.made]; omega) hwf a k W hb hx
    unfold runOut at h
    rw [hrun] at h
    exact h.mono fun e w' ⟨q, e1, e2, e3⟩ => ⟨q, e1, e2.at_, e3⟩
  have hm1 : (begT s.n).made.length = s.n := hgb.made
  have hm2 : (trT s).made.length = s.n := hE.made
  have hr2 : (trT s).rack = 0 := hE.rack
  have HTr := Lib.hid hE
  have HSame : Hid (∀ (q : BedP) (a : Option Addr) (k : Nat) (W : World), BedAt W W.heap.size q (trT s) → SlHk W W.heap.size a ((hldE s).1.map hkOf) → Calls Tryz.prog 12 #[.slice q.ah (trT s).hooks.length q.ch, .slice a (hldE s).1.length k] W fun e w' => e = .returned (.bool true) ∧ Below W.heap.size W w') := fun q a k W hb hh => by
    have h1 := hb.hooks
    rw [hE.hooks] at h1
    have h := sameHooks_any q.ah a q.ch k _ W h1 hh (by rw [← hE.hooks]; have := hE.good.seek.1; omega) (fun x hx => by rw [← hE.hooks] at hx; have := (hE.good.hooks x hx).2.2.2; omega)
    rw [← hE.hooks] at h
    have e : (hldE s).1.length = (trT s).hooks.length := by rw [hE.hooks, List.length_map]
    rw [e]
    exact h
  have HOn : Hid (∀ (q : BedP) (i : Nat) (W : World), i < s.n → BedAt W W.heap.size q (trT s) → Calls Tryz.prog 13 #[(trT s).val q, .int .u8 0, .int .i64 (s.to_.getD i 0)] W fun e w' => ∃ A c, e = .returned (.tuple #[.slice A (heldAt (trT s).hooks 0 (s.to_.getD i 0)).length c, .int .i64 0]) ∧ SlI w' w'.heap.size A (heldAt (trT s).hooks 0 (s.to_.getD i 0)) ∧ (heldAt (trT s).hooks 0 (s.to_.getD i 0)).length ≤ c ∧ Below W.heap.size W w') := fun q i W hi hb => by
    have h1 := HS.out.to_ i hi
    exact on_ok (trT s) q hE.good ⟨hE.good.seek.1, hE.good.fd.len, by rw [hm2]; omega⟩ 0 _ (by decide) ⟨by decide, by unfold needleP; omega⟩ W hb
  have HL6 : Hid (∀ u, (heldAt (trT s).hooks 0 u).length ≤ 6) := fun u => hE.good.heldLen 0 u
  unfold BedS.val at HBg HRn HOn
  rw [hm1] at HBg HRn
  rw [hm2, hr2] at HRn
  rw [hm2, hr2] at HOn
  obtain ⟨b, hbe⟩ : ∃ b, b = begT s.n := ⟨_, rfl⟩
  obtain ⟨t, hte⟩ : ∃ t, t = trT s := ⟨_, rfl⟩
  rw [← hbe] at HBg HRn hm1
  rw [← hte] at HRn HTr HSame HOn HL6 hm2 hr2
  obtain ⟨L, hL⟩ : ∃ L, L = (plE s).1 := ⟨_, rfl⟩
  obtain ⟨H, hH⟩ : ∃ H, H = (hldE s).1 := ⟨_, rfl⟩
  rw [← hL] at HPl HRn hfew
  rw [← hH] at HHd HSame
  have HM2 := Lib.hid (And.intro hm1 (And.intro hm2 hr2))
  clear hrun hE hwf hbg hgb hbe hte hL hH hm1 hm2 hr2
  obtain ⟨n, hn⟩ : ∃ n, n = s.n := ⟨_, rfl⟩
  have hn' : s.to_.length = n := hn.symm
  have HN := Lib.hid hn
  obtain ⟨nf, hnf⟩ : ∃ nf, nf = s.first.length := ⟨_, rfl⟩
  have HNf := Lib.hid hnf
  rw [← hn] at h40 HBg HRn HOn HM2
  rw [hn'] at h50 g0
  rw [← hnf] at h100 g1
  unfold sftV at HPl HHd
  rw [hn', ← hnf] at HPl HHd
  clear hn hn' hnf
  go_upto_region 5 with ((go_at_call 8; refine HPl.out.mono ?_; rintro e w3 ⟨a1, k1, rfl, hsl, hb3⟩))
  refine abs_world (Q := fun W => Code.wp _ _ _ _ W) (F := fun W => TgA w A F c fc s W ∧ SlX W W.heap.size a1 L) _ ⟨HA.out.to hb3, hsl⟩ ?_
  clear HA HPl hsl hb3 g0 g1
  clear w3
  clear W2
  rintro W3 ⟨hA3, hsl3⟩
  obtain ⟨g0, g1⟩ := And.intro hA3.bx.c0 hA3.bx.c1
  rw [← HXb.out, show s.to_.length = n from HN.out.symm] at g0
  rw [← HXb.out, ← HNf.out] at g1
  have HD := Lib.hid (HHd.out W3 hA3)
  have HA := Lib.hid (And.intro hA3 hsl3)
  clear hA3 hsl3 HHd
  go_upto_region 8 with ((go_at_call 9; refine HD.out.mono ?_; rintro e w4 ⟨a2, k2, rfl, hh, hb4⟩))
  refine abs_world (Q := fun W => Code.wp _ _ _ _ W) (F := fun W => TgA w A F c fc s W ∧ SlX W W.heap.size a1 L ∧ SlHk W W.heap.size a2 (H.map hkOf)) _ ⟨HA.out.1.to hb4, (HA.out.2.below hb4).more hb4.size, hh⟩ ?_
  clear HA HD hh hb4 g0 g1
  clear w4
  clear W3
  rintro W4 ⟨hA4, hsl4, hh4⟩
  obtain ⟨g0, g1⟩ := And.intro hA4.bx.c0 hA4.bx.c1
  rw [← HXb.out, show s.to_.length = n from HN.out.symm] at g0
  rw [← HXb.out, ← HNf.out] at g1
  have HB := Lib.hid (HBg.out W4)
  have HA := Lib.hid (And.intro hA4 (And.intro hsl4 hh4))
  clear hA4 hsl4 hh4 HBg
  go_upto_region 9 with ((go_at_call 10; refine HB.out.mono ?_; rintro e w5 ⟨p, rfl, hbp, hb5⟩))
  obtain ⟨bb, hbb⟩ : ∃ bb, bb = w5.heap.size := ⟨_, rfl⟩
  refine abs_world (Q := fun W => Code.wp _ _ _ _ W) (F := fun W => (TgA w A F c fc s W ∧ SlX W W.heap.size a1 L ∧ SlHk W W.heap.size a2 (H.map hkOf)) ∧ TbA bb b p W) _ (by
    have hal := al_t w5 (.cells #[.int .i64 b.rack, .slice p.ah b.hooks.length p.ch, .slice p.af b.feeds.length p.cf, .slice p.am b.made.length p.cm] 39)
    rw [hbb, ← HM2.out.1]
    exact ⟨⟨(HA.out.1.to hb5).to hal, (((HA.out.2.1.below hb5).more hb5.size).below hal).more hal.size, (((HA.out.2.2.below hb5).more hb5.size).below hal).more hal.size⟩, TbA.new hbp⟩) ?_
  rw [← hbb]
  clear HA HB hbb hbp hb5 g0 g1
  clear w5
  clear W4
  rintro W5 ⟨⟨hA5, hsl5, hh5⟩, hB5⟩
  obtain ⟨g0, g1⟩ := And.intro hA5.bx.c0 hA5.bx.c1
  rw [← HXb.out, show s.to_.length = n from HN.out.symm] at g0
  rw [← HXb.out, ← HNf.out] at g1
  have b0 := hB5.b0
  have b1 := hB5.b1
  have b2 := hB5.b2
  have b3 := hB5.b3
  rw [HM2.out.1] at b3
  have HR := Lib.hid (HRn.out p a1 k1 W5 hB5.st hsl5)
  have HA := Lib.hid (And.intro hA5 (And.intro hh5 hB5))
  clear hA5 hsl5 hh5 hB5 HRn
  go_upto_region 12 with ((go_at_call 11; refine HR.out.mono ?_; rintro e w6 ⟨q, rfl, hbq, hb6⟩))
  obtain ⟨qb, hqb⟩ : ∃ qb, qb = w6.heap.size := ⟨_, rfl⟩
  refine abs_world (Q := fun W => Code.wp _ _ _ _ W) (F := fun W => (TgA w A F c fc s W ∧ SlHk W W.heap.size a2 (H.map hkOf)) ∧ TbA bb b p W ∧ TbA qb t q W) _ (by
    have hal := al_t w6 (.cells #[.int .i64 t.rack, .slice q.ah t.hooks.length q.ch, .slice q.af t.feeds.length q.cf, .slice q.am t.made.length q.cm] 39)
    have h1 := TbA.new hbq
    rw [HM2.out.2.1, HM2.out.2.2] at hal h1
    rw [hqb]
    exact ⟨⟨(HA.out.1.to hb6).to hal, (((HA.out.2.1.below hb6).more hb6.size).below hal).more hal.size⟩, (HA.out.2.2.to hb6).to hal, h1⟩) ?_
  rw [← hqb]
  clear HA HR hqb hbq hb6 g0 g1 b0 b1 b2 b3
  clear w6
  clear W5
  rintro W6 ⟨⟨hA6, hh6⟩, hB6, hQ6⟩
  have b3 := hB6.b3
  rw [HM2.out.1] at b3
  have q0 := hQ6.b0
  have q1 := hQ6.b1
  have q3 := hQ6.b3
  rw [HM2.out.2.2] at q0
  rw [HM2.out.2.1] at q3
  have HSm := Lib.hid (HSame.out q a2 k2 W6 hQ6.st hh6)
  have HA := Lib.hid (And.intro hA6 (And.intro hB6 hQ6))
  have HHl : Hid (∀ W', Below W6.heap.size W6 W' → W'.cell? ⟨qb, 3, none⟩ = some (.slice q.am n q.cm) ∧ W'.cell? ⟨bb, 3, none⟩ = some (.slice p.am n p.cm)) := fun W' hb => by
    have h1 := (hQ6.to hb).b3
    have h2 := (hB6.to hb).b3
    rw [HM2.out.2.1] at h1
    rw [HM2.out.1] at h2
    exact ⟨h1, h2⟩
  clear hA6 hh6 hB6 hQ6 HSame
  go_upto_region 15 with ((go_at_call 12; refine HSm.out.mono ?_; rintro e w7 ⟨rfl, hb7⟩; obtain ⟨r3, s3⟩ := HHl.out w7 hb7))
  refine abs_world (Q := fun W => Code.wp _ _ _ _ W) (F := fun W => TgA w A F c fc s W ∧ TbA qb t q W) _ ⟨HA.out.1.to hb7, HA.out.2.2.to hb7⟩ ?_
  clear HA HSm HHl hb7 r3 s3 b3 q0 q1 q3
  clear w7
  clear W6
  rintro W7 ⟨hA7, hQ7⟩
  have HA := Lib.hid (And.intro hA7 hQ7)
  clear hA7 hQ7
  have HC0 : Hid (∀ W, TgA w A F c fc s W → W.cell? ⟨xb, 0, none⟩ = some (.slice A n c) ∧ W.cell? ⟨xb, 1, none⟩ = some (.slice F nf fc)) := fun W h => by
    have h0 := h.bx.c0
    have h1 := h.bx.c1
    rw [← HXb.out, show s.to_.length = n from HN.out.symm] at h0
    rw [← HXb.out, ← HNf.out] at h1
    exact ⟨h0, h1⟩
  have HQ4 : Hid (∀ W, TbA qb t q W → W.cell? ⟨qb, 0, none⟩ = some (.int .i64 0) ∧ W.cell? ⟨qb, 1, none⟩ = some (.slice q.ah t.hooks.length q.ch) ∧ W.cell? ⟨qb, 2, none⟩ = some (.slice q.af t.feeds.length q.cf) ∧ W.cell? ⟨qb, 3, none⟩ = some (.slice q.am n q.cm)) := fun W h => by
    have h0 := h.b0
    have h3 := h.b3
    rw [HM2.out.2.2] at h0
    rw [HM2.out.2.1] at h3
    exact ⟨h0, h.b1, h.b2, h3⟩
  have hn50 : n ≤ 50 := h50
  clear h50 h40 hfew
  go_loopw [13, 14, 15, 16, 17] (fun s13 s14 s15 s16 s17 wr => ∃ (i : Nat) (v14 v15 v16 v17 : Value), i ≤ n ∧ s13 = .int .i64 (i : Int) ∧ v14 = s14 ∧ v15 = s15 ∧ v16 = s16 ∧ v17 = s17 ∧ Hid (TgA w A F c fc s wr ∧ TbA qb t q wr)) (fun s13 _ _ _ _ _ => n - (intOf s13).toNat)
  case atStart => exact ⟨0, _, _, _, _, Nat.zero_le _, rfl, rfl, rfl, rfl, rfl, HA.out⟩
  case round =>
    obtain ⟨i, v14, v15, v16, v17, hi, rfl, rfl, rfl, rfl, rfl, HX⟩ := hrel
    clear HA
    obtain ⟨W8, hW8⟩ : ∃ x : World, x = wr := ⟨_, rfl⟩
    rw [← hW8] at HX ⊢
    clear hW8
    obtain ⟨g0, g1⟩ := HC0.out W8 HX.out.1
    by_cases hlt : i < n
    case neg =>
      have HB := Lib.hid HX.out.1.lo
      clear HX
      go_wp2
      go_ret
      exact ⟨rfl, HB.out⟩
    case pos =>
      have hin : i < s.n := by have := HN.out; omega
      obtain ⟨tb, toff, ea, x0⟩ := HX.out.1.bx.to_at hin
      subst ea
      have hon : ∀ W', Below W8.heap.size W8 W' → _ := fun W' hb => HOn.out q i W' hlt (HX.out.2.to hb).st
      obtain ⟨ti, hti⟩ : ∃ z, z = s.to_.getD i 0 := ⟨_, rfl⟩
      have HTi := Lib.hid hti
      rw [← hti] at x0 hon
      obtain ⟨l, hl⟩ : ∃ l, l = heldAt t.hooks 0 ti := ⟨_, rfl⟩
      have HLe := Lib.hid hl
      rw [← hl] at hon
      have hl6 : l.length ≤ 6 := by rw [hl]; exact HL6.out ti
      obtain ⟨ln, hln⟩ : ∃ ln, ln = l.length := ⟨_, rfl⟩
      have HLn := Lib.hid hln
      rw [← hln] at hon hl6
      have HOnI := Lib.hid hon
      have hiI : (i : Int) < (n : Int) := by omega
      have hi0 : (0 : Int) ≤ (i : Int) := by omega
      have HJ : Hid (i + 1 ≤ n ∧ i < n) := by show _ ∧ _; omega
      have HSb : Hid (∀ W', Below W8.heap.size W8 W' → W'.cell? ⟨qb, 0, none⟩ = some (.int .i64 0) ∧ W'.cell? ⟨qb, 1, none⟩ = some (.slice q.ah t.hooks.length q.ch) ∧ W'.cell? ⟨qb, 2, none⟩ = some (.slice q.af t.feeds.length q.cf) ∧ W'.cell? ⟨qb, 3, none⟩ = some (.slice q.am n q.cm) ∧ W'.cell? ⟨xb, 0, none⟩ = some (.slice (some ⟨tb, toff, none⟩) n c) ∧ W'.cell? ⟨tb, toff + i, none⟩ = some (.int .i64 ti)) := fun W' hb => by
        obtain ⟨h0, h1, h2, h3⟩ := HQ4.out W' (HX.out.2.to hb)
        exact ⟨h0, h1, h2, h3, (HC0.out W' (HX.out.1.to hb)).1, (bcell hb (lt_of_cell x0) _).trans x0⟩
      have HBd : Hid (Below W8.heap.size W8 W8.drew) := Below.drew (Below.refl _ _)
      clear hon hti hl hln hin x0
      go_upto_region 17 with fail
      go_region_held3 (fun W' => W'.cell? ⟨qb, 0, none⟩ = some (.int .i64 0) ∧ W'.cell? ⟨qb, 1, none⟩ = some (.slice q.ah t.hooks.length q.ch) ∧ W'.cell? ⟨qb, 2, none⟩ = some (.slice q.af t.feeds.length q.cf) ∧ W'.cell? ⟨qb, 3, none⟩ = some (.slice q.am n q.cm) ∧ W'.cell? ⟨xb, 0, none⟩ = some (.slice (some ⟨tb, toff, none⟩) n c) ∧ W'.cell? ⟨tb, toff + i, none⟩ = some (.int .i64 ti))
        (first | (with_reducible exact HSb.out _ HBw.out) | (with_reducible exact HSb.out _ HBd.out) | fail)
        (first | (go_at_call 13; refine (HOnI.out _ HBd.out).mono ?_; rintro e wd ⟨oa, oc, rfl, hsl, hlc, hbd⟩; have HBw := Lib.hid (HBd.out.trans (hbd.mono HBd.out.size)); have HSl := Lib.hid (And.intro hsl hlc); clear hsl hlc hbd) | fail)
      rename_i hS1
      clear hS1
      go_upto_region 18 with fail
      refine abs_world (Q := fun W => Code.wp _ _ _ _ W) (F := fun W => (TgA w (some ⟨tb, toff, none⟩) F c fc s W ∧ TbA qb t q W) ∧ SlI W W.heap.size oa l) _ ⟨⟨HX.out.1.to HBw.out, HX.out.2.to HBw.out⟩, HSl.out.1⟩ ?_
      have HOc : Hid (l.length ≤ oc) := by show _ ≤ _; rw [← HLn.out]; exact HSl.out.2
      clear HSb HBw HBd HSl HOnI g0 g1 HX
      clear wd
      clear W8
      rintro W9 ⟨hX9, hsl9⟩
      have HHs := Lib.hid (rhas_any oa oc l (i : Int) (by have := HLn.out; omega) W9 hsl9)
      have hany : (l.any fun y => decide (y = (i : Int))) = true := by
        rw [HLe.out, HTi.out]
        exact HTr.out.has i (by have := HN.out; omega)
      rw [hany, ← HLn.out] at HHs
      have HX9 := Lib.hid (And.intro hX9 hsl9)
      clear hany hX9 hsl9
      go_upto_region 21 with (go_at_call 14; refine HHs.out.mono ?_; rintro e w10 ⟨rfl, rfl⟩)
      clear HHs
      go_loopw [16, 17] (fun s16 s17 wr => ∃ (k : Nat) (v17 : Value), k ≤ nf ∧ s16 = .int .i64 (k : Int) ∧ v17 = s17 ∧ Hid ((TgA w (some ⟨tb, toff, none⟩) F c fc s wr ∧ TbA qb t q wr) ∧ SlI wr wr.heap.size oa l)) (fun s16 _ _ => nf - (intOf s16).toNat)
      case atStart => exact ⟨0, _, Nat.zero_le _, rfl, rfl, HX9.out⟩
      case round =>
        obtain ⟨k, v17', hk, rfl, rfl, HX⟩ := hrel
        clear HX9
        obtain ⟨W10, hW10⟩ : ∃ x : World, x = wr := ⟨_, rfl⟩
        rw [← hW10] at HX ⊢
        clear hW10
        obtain ⟨g0, g1⟩ := HC0.out W10 HX.out.1.1
        by_cases hkf : k < nf
        case neg =>
          have HQ := Lib.hid HX.out.1
          clear HX
          go_wp2
          go_roundw
          case rel => exact ⟨i + 1, _, _, _, _, HJ.out.1, by go_num, rfl, rfl, rfl, rfl, HQ.out⟩
          case measure => simp [intOf]; have := HJ.out; omega
        case pos =>
          obtain ⟨fb, foff, p, ef, -, hp, p0, p1⟩ := HX.out.1.1.bx.at_.fr.at_ (k := k) (by have := HNf.out; omega)
          subst ef
          have hpm : p ∈ s.first := List.mem_of_getElem? hp
          obtain ⟨a1', a2', b1', b2', -⟩ := HS.out.first p hpm
          have hah := HTr.out.ahd p hpm
          obtain ⟨pa, pb⟩ := p
          simp only at p0 p1 a1' a2' b1' b2' hah
          obtain ⟨a, rfl⟩ : ∃ a : Nat, pa = (a : Int) := ⟨pa.toNat, by omega⟩
          obtain ⟨b, rfl⟩ : ∃ b : Nat, pb = (b : Int) := ⟨pb.toNat, by omega⟩
          rw [Int.toNat_natCast, Int.toNat_natCast] at hah
          have HAh := Lib.hid hah
          have ha : a < n := by have := HN.out; omega
          have hkI : (k : Int) < (nf : Int) := by omega
          have hk0 : (0 : Int) ≤ (k : Int) := by omega
          have HK : Hid (k + 1 ≤ nf ∧ k < nf) := by show _ ∧ _; omega
          clear hp hpm a1' a2' b1' b2' hah
          go_upto_region 24 with fail
          obtain ⟨ab, hab⟩ : ∃ ab, ab = W10.heap.size := ⟨_, rfl⟩
          refine abs_world (Q := fun W => Code.wp _ _ _ _ W) (F := fun W => ((TgA w (some ⟨tb, toff, none⟩) (some ⟨fb, foff, none⟩) c fc s W ∧ TbA qb t q W) ∧ SlI W W.heap.size oa l) ∧ W.cell? ⟨ab, 0, none⟩ = some (.int .i64 (a : Int)) ∧ W.cell? ⟨ab, 1, none⟩ = some (.int .i64 (b : Int))) _ (by
            have hal := al_t W10 (.cells #[.int .i64 (a : Int), .int .i64 (b : Int)] 48)
            rw [hab]
            exact ⟨⟨⟨HX.out.1.1.to hal, HX.out.1.2.to hal⟩, (HX.out.2.below hal).more hal.size⟩, cell_new rfl rfl rfl, cell_new rfl rfl rfl⟩) ?_
          rw [← hab]
          clear HX hab g0 g1 p0 p1
          clear W10
          rintro W11 ⟨hX11, y0, y1⟩
          obtain ⟨g0, g1⟩ := HC0.out W11 hX11.1.1
          obtain ⟨tb', toff', e1, x0⟩ := hX11.1.1.bx.to_at (i := i) (by have := HN.out; omega)
          simp only [Option.some.injEq, Addr.mk.injEq] at e1
          obtain ⟨rfl, rfl, -⟩ := e1
          obtain ⟨tb', toff', e1, x1⟩ := hX11.1.1.bx.to_at (i := a) (by have := HN.out; omega)
          simp only [Option.some.injEq, Addr.mk.injEq] at e1
          obtain ⟨rfl, rfl, -⟩ := e1
          have HXe := Lib.hid hX11
          rw [← HTi.out] at x0
          obtain ⟨ta, hta⟩ : ∃ z, z = s.to_.getD a 0 := ⟨_, rfl⟩
          rw [← hta] at x1
          have HTa := Lib.hid hta
          have haI : (a : Int) < (n : Int) := by omega
          have ha0 : (0 : Int) ≤ (a : Int) := by omega
          clear hta
          by_cases hbi : b = i
          case neg =>
            have d1 : ((b : Int) == (i : Int)) = false := by simp; omega
            have hbd := Lib.hid (fun m => below_drewT (Below.refl W11.heap.size W11) m)
            clear hX11 hbi
            go_quiet (fail)
            go_wp2
            go_roundw
            case rel => exact ⟨k + 1, _, HK.out.1, by go_num, rfl, ⟨⟨HXe.out.1.1.to (hbd.out _), HXe.out.1.2.to (hbd.out _)⟩, (HXe.out.2.below (hbd.out _)).more (hbd.out _).size⟩⟩
            case measure => simp [intOf]; have := HK.out; omega
          case pos =>
            subst hbi
            have d1 : ((b : Int) == (b : Int)) = true := by simp
            by_cases hte : ta = ti
            case neg =>
              have d2 : (ta == ti) = false := by simp [hte]
              have hbd := Lib.hid (fun m => below_drewT (Below.refl W11.heap.size W11) m)
              clear hX11 hte
              go_quiet (fail)
              go_wp2
              go_roundw
              case rel => exact ⟨k + 1, _, HK.out.1, by go_num, rfl, ⟨⟨HXe.out.1.1.to (hbd.out _), HXe.out.1.2.to (hbd.out _)⟩, (HXe.out.2.below (hbd.out _)).more (hbd.out _).size⟩⟩
              case measure => simp [intOf]; have := HK.out; omega
            case pos =>
              have d2 : (ta == ti) = true := by simp [hte]
              have hbd := Lib.hid (fun m => below_drewT (Below.refl W11.heap.size W11) m)
              have hv : aheadE l (a : Int) (b : Int) = true := by
                have h1 := HAh.out (by rw [← HTa.out, ← HTi.out]; exact hte)
                rw [← HTi.out, ← HLe.out] at h1
                exact h1
              have HAd : Hid (∀ m, Calls Tryz.prog 15 #[.slice oa ln oc, .int .i64 (a : Int), .int .i64 (b : Int)] (W11.drewN m) fun e w' => e = .returned (.bool true) ∧ w' = W11.drewN m) := fun m => by
                have h1 := ahead_any oa oc l (a : Int) (b : Int) (by have := HLn.out; omega) HOc.out (W11.drewN m) ((HXe.out.2.below (hbd.out m)).more (hbd.out m).size)
                rw [hv, ← HLn.out] at h1
                exact h1.mono fun e w' h => ⟨h.1, h.2.symm⟩
              clear hX11 hte hv
              go_quiet ((go_at_call 15; exact Calls.quiet_of_same (HAd.out _)))
              go_wp2
              go_roundw
              case rel => exact ⟨k + 1, _, HK.out.1, by go_num, rfl, ⟨⟨HXe.out.1.1.to (hbd.out _), HXe.out.1.2.to (hbd.out _)⟩, (HXe.out.2.below (hbd.out _)).more (hbd.out _).size⟩⟩
              case measure => simp [intOf]; have := HK.out; omega
end Go.Proofs.YtflpikickbellaaGreat
