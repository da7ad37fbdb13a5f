/- TransferRuns. -/
import Derived.Test.YtflpikickbellaaGreatZ30
import Derived.Test.YtflpikickbellaaGreatZ44
import Derived.Test.YtflpikickbellaaGreatZ45
import Derived.Test.YtflpikickbellaaGreatZ47
namespace Go.Proofs.YtflpikickbellaaGreat
open Go.RowKit Go.Shelf
set_option maxRecDepth 100000
theorem bed0_wf0 : bed0.wf := ⟨fun _ h => absurd h List.not_mem_nil, fun _ h => absurd h List.not_mem_nil⟩
theorem zero_at (w : World) {wd : World} {B : Nat} (hb : Below B (w.alloc bedZero) wd) (hB : w.heap.size < B) : BdIn wd w.heap.size bed0 bedP0 ∧ ∀ k, wd.frozen? ⟨w.heap.size, k, none⟩ = false :=
 ⟨(BdIn.zero w).below hb hB, fun k => (Below.frozen hb (p := ⟨w.heap.size, k, none⟩) hB).trans (thawed_new' _ _ _ k rfl)⟩
def begT (n : Nat) : BedS := (runS bed0 (headL n)).1
theorem begT_run {n : Nat} (hn : n ≤ 101) : runS bed0 (headL n) = (begT n, (((headL n).length : Nat) : Int), 0) ∧ KSt n (begT n) := by
 obtain ⟨t, h1, h2⟩ := begin_run hn
 have e : begT n = t := by unfold begT; rw [h1]
 rw [e]
 exact ⟨h1, h2⟩
theorem begin_close {W : World} {tmps : Array Value} {s : BedS} {p : BedP} {x : Bool} {b : Nat} {R : Ending → World → Prop} (hF : BdIn W b s p) (h2 : tmps[2]?.getD undef = .pointer (some ⟨b, 0, none⟩)) (h3 : tmps[3]?.getD undef = .bool x) (hR : R (.returned (.tuple #[s.val p, .bool x])) W) :
 bodyPost Tryz.prog Tryz.f10 R .ret { tmps := tmps, defers := [] } W := by
 obtain ⟨c0, c1, c2, c3⟩ := hF
 refine bodyPost_ret (v := .tuple #[s.val p, .bool x]) ?_ rfl hR
 simp [results, Tryz.results10, go_sem, h2, h3, c0, c1, c2, c3, BedS.val]
theorem head_wf {n : Nat} (hn : n ≤ 101) : ∀ i ∈ headL n, i.wf := fun i hi => by
 rcases List.mem_cons.1 hi with rfl | h
 · exact inT_good.2
 · obtain ⟨k, hk, rfl⟩ := List.mem_map.1 h
   exact (knT_good (by have := List.mem_range.1 hk; omega)).2
structure BgnM (w : World) (lo rb sb : Nat) (t : BedS) (p : BedP) (W : World) : Prop where
 s0 : W.cell? ⟨sb, 0, none⟩ = some (.int .i64 t.rack)
 s1 : W.cell? ⟨sb, 1, none⟩ = some (.slice p.ah t.hooks.length p.ch)
 s2 : W.cell? ⟨sb, 2, none⟩ = some (.slice p.af t.feeds.length p.cf)
 s3 : W.cell? ⟨sb, 3, none⟩ = some (.slice p.am t.made.length p.cm)
 r0 : W.cell? ⟨rb, 0, none⟩ = some (.int .i64 0)
 r1 : W.cell? ⟨rb, 1, none⟩ = some (.slice none 0 0)
 r2 : W.cell? ⟨rb, 2, none⟩ = some (.slice none 0 0)
 r3 : W.cell? ⟨rb, 3, none⟩ = some (.slice none 0 0)
 rf : ∀ k, W.frozen? ⟨rb, k, none⟩ = false
 fr : BedFr lo W p t
 bel : Below w.heap.size w W
theorem BgnM.to {w : World} {lo rb sb : Nat} {t : BedS} {p : BedP} {W W' : World} (h : BgnM w lo rb sb t p W) (hb : Below W.heap.size W W') : BgnM w lo rb sb t p W' :=
 have hs := lt_of_cell h.s0
 have hr := lt_of_cell h.r0
 ⟨(bcell hb hs _).trans h.s0, (bcell hb hs _).trans h.s1, (bcell hb hs _).trans h.s2, (bcell hb hs _).trans h.s3, (bcell hb hr _).trans h.r0, (bcell hb hr _).trans h.r1, (bcell hb hr _).trans h.r2, (bcell hb hr _).trans h.r3, fun k => (Below.frozen hb (p := ⟨rb, k, none⟩) hr).trans (h.rf k), h.fr.to hb, h.bel.trans (hb.mono h.bel.size)⟩
set_option maxHeartbeats 8000000 in
theorem begin_any (n : Nat) (hn : n ≤ 101) (w : World) :
 Calls Tryz.prog 10 #[.int .i64 (n : Int)] w fun e w' => ∃ p, e = .returned (.tuple #[(begT n).val p, .bool true]) ∧ BedAt w' w'.heap.size p (begT n) ∧ Below w.heap.size w w' := by
 obtain ⟨hrun, hK⟩ := begT_run hn
 obtain ⟨hc1, hc2⟩ := comp_empty hn
 have hb1 := (Below.refl w.heap.size w).alloc (Nat.le_refl _) bedZero
 obtain ⟨hz, hzf⟩ := zero_at w (B := (w.alloc bedZero).heap.size) (Below.refl _ _) (by simp)
 have hcp := compile_any (n : Int) none 0 [] (fun r hr => by cases hr) (Or.inl fun r hr => by cases hr) (w.alloc bedZero) (fun hne => absurd rfl hne)
 have HRn : Hid (∀ (A : Option Addr) (c : Nat) (W : World), SlX W W.heap.size A (headL n) → Calls Tryz.prog 11 #[.agg #[.int .i64 0, .slice none 0 0, .slice none 0 0, .slice none 0 0], .slice A (n + 1) c] W fun e w' => ∃ p, e = .returned (.tuple #[(begT n).val p, .int .i64 ((n + 1 : Nat) : Int), .int .i64 0]) ∧ BedFr W.heap.size w' p (begT n) ∧ Below W.heap.size W w') := fun A c W hx => by
  have h := brun_any bed0 bedP0 bed0_wf0 ⟨by decide, by decide, by decide⟩ (headL n) (by rw [head_len]; omega) (fun _ _ => by rw [head_len]; show 0 + (n + 1) ≤ 3999; omega) (head_wf hn) A c W (bedAt0 _ _) hx
  unfold runOut at h
  rw [hrun, head_len] at h
  exact h
 have HGd := Lib.hid hK.good
 have hl : (begT n).hooks.length = n := hK.hooks
 have hm : (begT n).made.length = n := hK.made
 obtain ⟨t, ht⟩ : ∃ t, t = begT n := ⟨_, rfl⟩
 rw [← ht] at HRn HGd hl hm ⊢
 have HL := Lib.hid (And.intro hl hm)
 unfold BedS.val at HRn
 have HCp : Hid (Calls Tryz.prog 31 #[.agg #[.int .i64 (n : Int), .slice none 0 0]] (w.alloc bedZero) fun e w' => ∃ A c, e = .returned (.tuple #[.slice A (n + 1) c, .int .i64 0]) ∧ SlX w' w'.heap.size A (headL n) ∧ Below (w.alloc bedZero).heap.size (w.alloc bedZero) w') := hcp.mono fun e w' h => by
  obtain ⟨A, c, e1, h1, -, h2⟩ := h
  rw [hc1, hc2] at e1
  rw [hc2] at h1
  rw [head_len] at e1
  exact ⟨A, c, e1, h1, h2⟩
 have HB1 := Lib.hid hb1
 have HZ := Lib.hid (And.intro hz hzf)
 clear hrun hK hc1 hc2 hb1 hz hzf hcp hl hm ht
 go_enter Tryz.func10, Tryz.ntmps10
 go_upto_region 2 with (go_at_call 31; refine HCp.out.mono ?_; rintro e w2 ⟨A, c, rfl, hx, hb2⟩)
 have HR := Lib.hid (HRn.out A c w2 hx)
 have HB2 := Lib.hid hb2
 clear hx hb2 HCp HRn
 go_upto_region 3 with (go_at_call 11; refine HR.out.mono ?_; rintro e w3 ⟨p, rfl, hfr, hb3⟩)
 obtain ⟨rb, hrb⟩ : ∃ rb, rb = w.heap.size := ⟨_, rfl⟩
 obtain ⟨sb, hsb⟩ : ∃ sb, sb = w3.heap.size := ⟨_, rfl⟩
 have hX : BgnM w w2.heap.size rb sb t p (w3.alloc (.cells #[.int .i64 t.rack, .slice p.ah t.hooks.length p.ch, .slice p.af t.feeds.length p.cf, .slice p.am t.made.length p.cm] 39)) := by
  have hal := al_t w3 (.cells #[.int .i64 t.rack, .slice p.ah t.hooks.length p.ch, .slice p.af t.feeds.length p.cf, .slice p.am t.made.length p.cm] 39)
  have hlo : w.heap.size < (w.alloc bedZero).heap.size := by simp
  have hb23 := (HB2.out.trans (hb3.mono HB2.out.size)).trans (hal.mono (Nat.le_trans HB2.out.size hb3.size))
  have hz := HZ.out.1.below hb23 hlo
  obtain ⟨z0, z1, z2, z3⟩ := hz
  rw [hrb, hsb]
  exact ⟨cell_new rfl rfl rfl, cell_new rfl rfl rfl, cell_new rfl rfl rfl, cell_new rfl rfl rfl, z0, z1, z2, z3, fun k => (Below.frozen hb23 (p := ⟨w.heap.size, k, none⟩) hlo).trans (HZ.out.2 k), hfr.to hal, HB1.out.trans (hb23.mono HB1.out.size)⟩
 have hlo2 : rb < w2.heap.size := by
  have h1 := HB2.out.size
  simp at h1
  omega
 refine abs_world (Q := fun W => Code.wp _ _ _ _ W) (F := fun W => BgnM w w2.heap.size rb sb t p W) _ hX ?_
 rw [← hrb, ← hsb]
 obtain ⟨lo, hloe⟩ : ∃ lo, lo = w2.heap.size := ⟨_, rfl⟩
 rw [← hloe] at hlo2 ⊢
 have HLo := Lib.hid hlo2
 have HRb : Hid (w.heap.size ≤ rb) := by show _ ≤ _; omega
 have HNs : Hid (rb ≠ sb) := by show rb ≠ sb; have := hb3.size; omega
 clear hX hrb hsb hfr hb3 HR HB2 HB1 HZ hlo2 hloe
 clear w3
 clear w2
 rintro W h
 have HM : Hid (∀ W', Below W.heap.size W W' → BgnM w lo rb sb t p W') := fun W' hb => h.to hb
 have HCk : Hid (∀ W', Below W.heap.size W W' → Calls Tryz.prog 32 #[t.val p] W' fun e w' => e = .returned (.int .i64 0) ∧ Below W'.heap.size W' w') := fun W' hb => by
  have h1 := rbcheck_ok t p HGd.out.err HGd.out.wf ⟨by rw [HL.out.1]; omega, by have := HGd.out.fd.len; omega, by rw [HL.out.2]; omega⟩ W' ((h.to hb).fr.at_)
  unfold RetB8 at h1
  rw [HGd.out.err] at h1
  exact h1
 unfold BedS.val at HCk
 have hHk := HL.out.1
 have hMk := HL.out.2
 have hz : t.rack = 0 ∨ True := Or.inr trivial
 clear hz
 have HSb : Hid (∀ W', Below W.heap.size W W' → (W'.cell? ⟨sb, 0, none⟩ = some (.int .i64 t.rack) ∧ W'.cell? ⟨sb, 1, none⟩ = some (.slice p.ah n p.ch) ∧ W'.cell? ⟨sb, 2, none⟩ = some (.slice p.af t.feeds.length p.cf) ∧ W'.cell? ⟨sb, 3, none⟩ = some (.slice p.am n p.cm))) := fun W' hb => by
  have h1 := h.to hb
  refine ⟨h1.s0, ?_, h1.s2, ?_⟩
  · rw [← hHk]; exact h1.s1
  · rw [← hMk]; exact h1.s3
 have hne : rb ≠ sb := HNs.out
 have HSt : Hid (∀ (W' : World) (v0 v1 v2 v3 : Value), (W'.cell? ⟨sb, 0, none⟩ = some (.int .i64 t.rack) ∧ W'.cell? ⟨sb, 1, none⟩ = some (.slice p.ah n p.ch) ∧ W'.cell? ⟨sb, 2, none⟩ = some (.slice p.af t.feeds.length p.cf) ∧ W'.cell? ⟨sb, 3, none⟩ = some (.slice p.am n p.cm)) → (((((W'.setCell ⟨rb, 0, none⟩ v0).setCell ⟨rb, 1, none⟩ v1).setCell ⟨rb, 2, none⟩ v2).setCell ⟨rb, 3, none⟩ v3).cell? ⟨sb, 0, none⟩ = some (.int .i64 t.rack) ∧ ((((W'.setCell ⟨rb, 0, none⟩ v0).setCell ⟨rb, 1, none⟩ v1).setCell ⟨rb, 2, none⟩ v2).setCell ⟨rb, 3, none⟩ v3).cell? ⟨sb, 1, none⟩ = some (.slice p.ah n p.ch) ∧ ((((W'.setCell ⟨rb, 0, none⟩ v0).setCell ⟨rb, 1, none⟩ v1).setCell ⟨rb, 2, none⟩ v2).setCell ⟨rb, 3, none⟩ v3).cell? ⟨sb, 2, none⟩ = some (.slice p.af t.feeds.length p.cf) ∧ ((((W'.setCell ⟨rb, 0, none⟩ v0).setCell ⟨rb, 1, none⟩ v1).setCell ⟨rb, 2, none⟩ v2).setCell ⟨rb, 3, none⟩ v3).cell? ⟨sb, 3, none⟩ = some (.slice p.am n p.cm))) := fun W' v0 v1 v2 v3 hc => by
  have e : ∀ k, ((((W'.setCell ⟨rb, 0, none⟩ v0).setCell ⟨rb, 1, none⟩ v1).setCell ⟨rb, 2, none⟩ v2).setCell ⟨rb, 3, none⟩ v3).cell? ⟨sb, k, none⟩ = W'.cell? ⟨sb, k, none⟩ := fun k => by
   rw [World.cell?_setCell_far _ _ _ _ hne, World.cell?_setCell_far _ _ _ _ hne, World.cell?_setCell_far _ _ _ _ hne, World.cell?_setCell_far _ _ _ _ hne]
  rw [e, e, e, e]
  exact hc
 rw [hHk, hMk] at HCk
 have HBd : Hid (Below W.heap.size W W.drew) := Below.drew (Below.refl _ _)
 clear h hHk hMk hne
 go_region_held3 (fun W' => W'.cell? ⟨sb, 0, none⟩ = some (.int .i64 t.rack) ∧ W'.cell? ⟨sb, 1, none⟩ = some (.slice p.ah n p.ch) ∧ W'.cell? ⟨sb, 2, none⟩ = some (.slice p.af t.feeds.length p.cf) ∧ W'.cell? ⟨sb, 3, none⟩ = some (.slice p.am n p.cm))
  (first | (with_reducible exact HSb.out _ HBw.out) | (with_reducible exact HSb.out _ HBd.out) | (with_reducible exact HSt.out _ _ _ _ _ (by assumption)) | fail)
  (first | (go_at_call 32; refine (HCk.out _ HBd.out).mono ?_; rintro e wd ⟨rfl, hbd⟩; have HBw := Lib.hid (HBd.out.trans (hbd.mono HBd.out.size)); clear hbd; have hmm := HM.out wd HBw.out; have r0 := hmm.r0; have r1 := hmm.r1; have r2 := hmm.r2; have r3 := hmm.r3; have rf := hmm.rf; clear hmm) | fail)
 have hmm := HM.out wd HBw.out
 have hw : BdIn.set wd rb t p = (((wd.setCell ⟨rb, 0, none⟩ (.int .i64 t.rack)).setCell ⟨rb, 1, none⟩ (.slice p.ah n p.ch)).setCell ⟨rb, 2, none⟩ (.slice p.af t.feeds.length p.cf)).setCell ⟨rb, 3, none⟩ (.slice p.am n p.cm) := by
  unfold BdIn.set
  rw [HL.out.1, HL.out.2]
 have hz : BdIn wd rb bed0 bedP0 := ⟨hmm.r0, hmm.r1, hmm.r2, hmm.r3⟩
 have HZ := Lib.hid (hz.stored t p)
 have HF := Lib.hid (hmm.fr.sets (t := t) (q := p) HLo.out).at_
 have HK := Lib.hid (BdIn.kept hmm.bel HRb.out t p)
 rw [hw] at HZ HF HK
 clear hmm hw hz r0 r1 r2 r3 rf
 go_wp2
 exact begin_close HZ.out rfl rfl ⟨p, rfl, HF.out, HK.out⟩
end Go.Proofs.YtflpikickbellaaGreat
