/- TransferRuns: On at a valid state, ahead, begin. -/
import Derived.Test.YtflpikickbellaaGreatKQ47
import Derived.Test.YtflpikickbellaaGreatKQ39
import Derived.Test.YtflpikickbellaaGreatKQ45
import Derived.Test.YtflpikickbellaaGreatKQ41
import Derived.Deep.RegionHeld3
namespace Go.Proofs.YtflpikickbellaaGreat
open Go.RowKit Go.Shelf
set_option maxRecDepth 100000

set_option maxHeartbeats 4000000 in
theorem on_ok (s : BedS) (p : BedP) (hg : Good s) (hn : s.hooks.length ≤ 9000 ∧ s.feeds.length ≤ 9000 ∧ s.made.length ≤ 9000) (b n : Int) (hb : 0 ≤ b) (hbn : b ≤ 1 ∧ needleP n) (w : World) (hs : BedAt w w.heap.size p s) :
    Calls Tryz.prog 13 #[s.val p, .int .u8 b, .int .i64 n] w fun e w' => ∃ A c, e = .returned (.tuple #[.slice A (heldAt s.hooks b n).length c, .int .i64 0]) ∧ SlI w' w'.heap.size A (heldAt s.hooks b n) ∧ (heldAt s.hooks b n).length ≤ c ∧ Below w.heap.size w w' := by
  have hwf := hg.wf
  have he := hg.err
  have HC := Lib.hid (fun (w1 : World) (hb : Below w.heap.size w w1) => bcheck_any s p hwf ⟨by omega, by omega, by omega⟩ w1 ((hs.below hb).more hb.size))
  have HAl := Lib.hid ((Below.refl w.heap.size w).alloc (Nat.le_refl _) (.cells #[.int .i64 s.rack, .slice p.ah s.hooks.length p.ch, .slice p.af s.feeds.length p.cf, .slice p.am s.made.length p.cm] 39))
  have HCS := Lib.hid (bed_box w s p)
  have HN := Lib.hid (fun w => needle_any n w)
  unfold RetB8 at HC
  rw [he] at HC
  have HCo := Lib.hid (fun (w1 : World) (hb : Below w.heap.size w w1) => copied_any s p hn ⟨fun h hh => (bed_loops he h hh).2, bed_parents he⟩ w1 ((hs.below hb).more hb.size))
  have HTk := Lib.hid (fun (B pb : Nat) (w1 : World) (hBw : B ≤ w1.heap.size) (h : WorkX 90 w1 B pb s []) => take_any B pb s [] (bed_seek he hwf hn.1) b n ⟨hb, hbn.1⟩ hbn.2 w1 hBw h)
  rw [decide_eq_true hbn.2] at HN
  unfold BedS.val at HC HCo ⊢
  have hb1 : ¬ 1 < b := by omega
  clear hs he hbn hwf hg
  go_enter Tryz.func13, Tryz.ntmps13
  go_upto_region 1 with fail
  obtain ⟨c0, c1, c2, c3⟩ := HCS.out _ (Below.refl _ _)
  go_wp2_with fail
  refine (HC.out _ HAl.out).mono ?_
  rintro e w1 ⟨rfl, hb1⟩
  have HB1 := Lib.hid (HAl.out.trans (hb1.mono (by simp)))
  obtain ⟨d0, d1, d2, d3⟩ := HCS.out w1 (hb1.mono (by simp))
  clear hb1 c0 c1 c2 c3
  go_wp2_with (go_at_call 37; refine (HN.out _).mono ?_; rintro e w2 ⟨rfl, rfl⟩)
  refine (HCo.out _ HB1.out).mono ?_
  rintro e w2 ⟨pb, rfl, hw2, hb2⟩
  have HW2 := Lib.hid hw2
  have HB2 := Lib.hid hb2
  clear hw2 hb2 d0 d1 d2 d3
  go_wp2_with fail
  refine (HTk.out _ _ _ HB2.out.size HW2.out).mono ?_
  rintro e w3 ⟨v, rfl, hw3, hb3⟩
  obtain ⟨A, c, rfl, hlc, hs3⟩ := rowI_form (hw3.row List.mem_cons_self)
  have HS3 := Lib.hid (And.intro hs3 hlc)
  have HB3 := Lib.hid (HB1.out.trans ((HB2.out.trans hb3).mono HB1.out.size))
  clear hw3 hb3 hs3 hlc
  go_wp2
  go_ret2
  exact ⟨_, _, rfl, HS3.out.1, HS3.out.2, HB3.out⟩
/-! ahead -/
theorem info_intT : (Tryz.prog.info? 3).map (fun i => (i.zero, i.size, i.bytes)) = some (some (.int .i64 0), 1, 8) := by kernel_rfl
theorem run_dropI (A : Option Addr) (len c n : Nat) (hn : n ≤ len) (w : World) :
    (Instr.slice 22 (.slice A len c) (some (.int .i64 (n : Int))) none none).run Tryz.prog w = .ok (.slice (if c = n then A else A.map (·.add (n * 1))) (len - n) (c - n)) w := by
  obtain ⟨i0, hi, hz0, hz1, -⟩ := info_parts info_intT
  simp [Instr.slice, Instr.sliceBounds, Instr.sliceBound, run_underlying Tryz.underlying22, sizeOf, typeInfo, hi, hz1, Result.andThen, asIntOf, hn]
theorem drop_exI {w : World} {B : Nat} {A : Option Addr} {l : List Int} (h : SlI w B A l) {n c : Nat} (hc : l.length ≤ c) (hn : n < l.length) :
    ∃ A2, (∀ W : World, (Instr.slice 22 (.slice A l.length c) (some (.int .i64 (n : Int))) none none).run Tryz.prog W = .ok (.slice A2 (l.length - n) (c - n)) W) ∧ SlI w B A2 (l.drop n) := by
  refine ⟨_, run_dropI A l.length c n (by omega), ?_⟩
  rw [if_neg (by omega)]
  intro _
  obtain ⟨b, off, rfl, hB, hc⟩ := h (fun e => by subst e; simp at hn)
  refine ⟨b, off + n * 1, by simp [Addr.add], hB, fun j x hx => ?_⟩
  rw [List.getElem?_drop] at hx
  have := hc (n + j) x hx
  rw [Nat.mul_one, Nat.add_assoc]
  exact this
theorem ahead_drop {l : List Int} {k : Nat} {x : Int} (h : l[k]? = some x) (a b : Int) : aheadE (l.drop k) a b = if x = a then (l.drop k).any (fun y => decide (y = b)) else aheadE (l.drop (k + 1)) a b := by
  obtain ⟨hk, e⟩ := List.getElem?_eq_some_iff.1 h
  rw [List.drop_eq_getElem_cons hk, e]
  rfl
set_option maxHeartbeats 2000000 in
theorem ahead_any (A : Option Addr) (c : Nat) (l : List Int) (a b : Int) (hl : l.length ≤ 1000000) (hlc : l.length ≤ c) (w : World) (hs : SlI w w.heap.size A l) :
    Calls Tryz.prog 15 #[.slice A l.length c, .int .i64 a, .int .i64 b] w fun e w' => e = .returned (.bool (aheadE l a b)) ∧ w = w' := by
  have HS := Lib.hid hs
  have HL := Lib.hid hlc
  obtain ⟨n, hn⟩ : ∃ n, n = l.length := ⟨_, rfl⟩
  have HN := Lib.hid hn
  rw [← hn] at hl ⊢
  clear hs hlc hn
  go_enter Tryz.func15, Tryz.ntmps15
  go_wp2
  go_loopw [7] (fun s7 wr => ∃ k : Nat, k ≤ n ∧ s7 = .int .i64 (k : Int) ∧ Hid (aheadE l a b = aheadE (l.drop k) a b) ∧ w = wr) (fun s7 _ => n - (intOf s7).toNat)
  case atStart => exact ⟨0, Nat.zero_le _, rfl, rfl, rfl⟩
  case round =>
    obtain ⟨k, hk, rfl, H, rfl⟩ := hrel
    by_cases hlt : k < n
    case neg =>
      have HF : Hid (aheadE l a b = false) := by
        show _ = _
        rw [H.out, List.drop_eq_nil_of_le (by have := HN.out; omega)]
        rfl
      clear H
      go_wp2
      go_ret
      exact ⟨by rw [HF.out]; rfl, rfl⟩
    case pos =>
      obtain ⟨hb, ho, y, rfl, -, hr, hc⟩ := HS.out.at_ (k := k) (by have := HN.out; omega)
      have hd := ahead_drop hr a b
      have hkI : (k : Int) < (n : Int) := by omega
      have hk0 : (0 : Int) ≤ (k : Int) := by omega
      have HJ : Hid (k + 1 ≤ n ∧ k < n) := by show _ ∧ _; omega
      by_cases he : y = a
      case pos =>
        rw [if_pos he] at hd
        obtain ⟨A2, hrun, hs2⟩ := drop_exI (c := c) HS.out (n := k) HL.out (by have := HN.out; omega)
        have HH := Lib.hid (rhas_any A2 (c - k) (l.drop k) b (by rw [List.length_drop]; have := HN.out; omega) w hs2)
        rw [List.length_drop, ← HN.out] at HH
        rw [← HN.out] at hrun
        have HF : Hid (aheadE l a b = (l.drop k).any fun y => decide (y = b)) := H.out.trans hd
        obtain ⟨z, hz⟩ : ∃ z, z = (l.drop k).any fun y => decide (y = b) := ⟨_, rfl⟩
        rw [← hz] at HH HF
        have e1 : (y == a) = true := by simp [he]
        clear H hd he hz hr hs2
        go_wp2_with (go_at_call 14; refine HH.out.mono ?_; rintro e w2 ⟨rfl, rfl⟩)
        go_ret
        exact ⟨by rw [HF.out]; rfl, rfl⟩
      case neg =>
        rw [if_neg he] at hd
        have HQ : Hid (aheadE l a b = aheadE (l.drop (k + 1)) a b) := H.out.trans hd
        have e1 : (y == a) = false := by simp [he]
        clear H hd he hr
        go_wp2
        go_roundw
        case rel => exact ⟨k + 1, HJ.out.1, by go_num, HQ.out, by first | rfl | trivial⟩
        case measure => simp [intOf]; have := HJ.out; omega
/-! begin -/
theorem bed0_wf0 : bed0.wf := ⟨fun _ h => absurd h List.not_mem_nil, fun _ h => absurd h List.not_mem_nil⟩
theorem zero_at (w : World) {wd : World} {B : Nat} (hb : Below B (w.alloc bedZero) wd) (hB : w.heap.size < B) : BdIn wd w.heap.size bed0 bedP0 ∧ ∀ k, wd.frozen? ⟨w.heap.size, k, none⟩ = false :=
  ⟨(BdIn.zero w).below hb hB, fun k => (Below.frozen hb (p := ⟨w.heap.size, k, none⟩) hB).trans (thawed_new' _ _ _ k rfl)⟩
def begT (n : Nat) : BedS := (runS bed0 (headL n)).1
theorem begT_run {n : Nat} (hn : n ≤ 101) : runS bed0 (headL n) = (begT n, (((headL n).length : Nat) : Int), 0) ∧ KSt n (begT n) := by
  obtain ⟨t, h1, h2⟩ := begin_run hn
  have e : begT n = t := by unfold begT; rw [h1]
  rw [e]
  exact ⟨h1, h2⟩
theorem begin_close {W : World} {tmps : Array Value} {s : BedS} {p : BedP} {x : Bool} {b : Nat} {R : Ending → World → Prop} (hF : BdIn W b s p) (h2 : tmps[2]?.getD undef = .pointer (some ⟨b, 0, none⟩)) (h3 : tmps[3]?.getD undef = .bool x) (hR : R (.returned (.tuple #[s.val p, .bool x])) W) :
    bodyPost Tryz.prog Tryz.f10 R .ret { tmps := tmps, defers := [] } W := by
  obtain ⟨c0, c1, c2, c3⟩ := hF
  refine bodyPost_ret (v := .tuple #[s.val p, .bool x]) ?_ rfl hR
  simp [results, Tryz.results10, go_sem, h2, h3, c0, c1, c2, c3, BedS.val]
theorem head_wf {n : Nat} (hn : n ≤ 101) : ∀ i ∈ headL n, i.wf := fun i hi => by
  rcases List.mem_cons.1 hi with rfl | h
  · exact inT_good.2
  · obtain ⟨k, hk, rfl⟩ := List.mem_map.1 h
    exact (knT_good (by have := List.mem_range.1 hk; omega)).2
/-- Behind begin's Run: the state in its box, the answer's box. -/
structure BgnM (w : World) (lo rb sb : Nat) (t : BedS) (p : BedP) (W : World) : Prop where
  s0 : W.cell? ⟨sb, 0, none⟩ = some (.int .i64 t.rack)
  s1 : W.cell? ⟨sb, 1, none⟩ = some (.slice p.ah t.hooks.length p.ch)
  s2 : W.cell? ⟨sb, 2, none⟩ = some (.slice p.af t.feeds.length p.cf)
  s3 : W.cell? ⟨sb, 3, none⟩ = some (.slice p.am t.made.length p.cm)
  r0 : W.cell? ⟨rb, 0, none⟩ = some (.int .i64 0)
  r1 : W.cell? ⟨rb, 1, none⟩ = some (.slice none 0 0)
  r2 : W.cell? ⟨rb, 2, none⟩ = some (.slice none 0 0)
  r3 : W.cell? ⟨rb, 3, none⟩ = some (.slice none 0 0)
  rf : ∀ k, W.frozen? ⟨rb, k, none⟩ = false
  fr : BedFr lo W p t
  bel : Below w.heap.size w W
theorem BgnM.to {w : World} {lo rb sb : Nat} {t : BedS} {p : BedP} {W W' : World} (h : BgnM w lo rb sb t p W) (hb : Below W.heap.size W W') : BgnM w lo rb sb t p W' :=
  have hs := lt_of_cell h.s0
  have hr := lt_of_cell h.r0
  ⟨(bcell hb hs _).trans h.s0, (bcell hb hs _).trans h.s1, (bcell hb hs _).trans h.s2, (bcell hb hs _).trans h.s3, (bcell hb hr _).trans h.r0, (bcell hb hr _).trans h.r1, (bcell hb hr _).trans h.r2, (bcell hb hr _).trans h.r3, fun k => (Below.frozen hb (p := ⟨rb, k, none⟩) hr).trans (h.rf k), h.fr.to hb, h.bel.trans (hb.mono h.bel.size)⟩
set_option maxHeartbeats 8000000 in
theorem begin_any (n : Nat) (hn : n ≤ 101) (w : World) :
    Calls Tryz.prog 10 #[.int .i64 (n : Int)] w fun e w' => ∃ p, e = .returned (.tuple #[(begT n).val p, .bool true]) ∧ BedAt w' w'.heap.size p (begT n) ∧ Below w.heap.size w w' := by
  obtain ⟨hrun, hK⟩ := begT_run hn
  obtain ⟨hc1, hc2⟩ := comp_empty hn
  have hb1 := (Below.refl w.heap.size w).alloc (Nat.le_refl _) bedZero
  obtain ⟨hz, hzf⟩ := zero_at w (B := (w.alloc bedZero).heap.size) (Below.refl _ _) (by simp)
  have hcp := compile_any (n : Int) none 0 [] (fun r hr => by cases hr) (Or.inl fun r hr => by cases hr) (w.alloc bedZero) (fun hne => absurd rfl hne)
  have HRn : Hid (∀ (A : Option Addr) (c : Nat) (W : World), SlX W W.heap.size A (headL n) → Calls Tryz.prog 11 #[.agg #[.int .i64 0, .slice none 0 0, .slice none 0 0, .slice none 0 0], .slice A (n + 1) c] W fun e w' => ∃ p, e = .returned (.tuple #[(begT n).val p, .int .i64 ((n + 1 : Nat) : Int), .int .i64 0]) ∧ BedFr W.heap.size w' p (begT n) ∧ Below W.heap.size W w') := fun A c W hx => by
    have h := brun_any bed0 bedP0 bed0_wf0 ⟨by decide, by decide, by decide⟩ (headL n) (by rw [head_len]; omega) (fun _ _ => by rw [head_len]; show 0 + (n + 1) ≤ 3999; omega) (head_wf hn) A c W (bedAt0 _ _) hx
    unfold runOut at h
    rw [hrun, head_len] at h
    exact h
  have HGd := Lib.hid hK.good
  have hl : (begT n).hooks.length = n := hK.hooks
  have hm : (begT n).made.length = n := hK.made
  obtain ⟨t, ht⟩ : ∃ t, t = begT n := ⟨_, rfl⟩
  rw [← ht] at HRn HGd hl hm ⊢
  have HL := Lib.hid (And.intro hl hm)
  unfold BedS.val at HRn
  have HCp : Hid (Calls Tryz.prog 31 #[.agg #[.int .i64 (n : Int), .slice none 0 0]] (w.alloc bedZero) fun e w' => ∃ A c, e = .returned (.tuple #[.slice A (n + 1) c, .int .i64 0]) ∧ SlX w' w'.heap.size A (headL n) ∧ Below (w.alloc bedZero).heap.size (w.alloc bedZero) w') := hcp.mono fun e w' h => by
    obtain ⟨A, c, e1, h1, -, h2⟩ := h
    rw [hc1, hc2] at e1
    rw [hc2] at h1
    rw [head_len] at e1
    exact ⟨A, c, e1, h1, h2⟩
  have HB1 := Lib.hid hb1
  have HZ := Lib.hid (And.intro hz hzf)
  clear hrun hK hc1 hc2 hb1 hz hzf hcp hl hm ht
  go_enter Tryz.func10, Tryz.ntmps10
  go_upto_region 2 with (go_at_call 31; refine HCp.out.mono ?_; rintro e w2 ⟨A, c, rfl, hx, hb2⟩)
  have HR := Lib.hid (HRn.out A c w2 hx)
  have HB2 := Lib.hid hb2
  clear hx hb2 HCp HRn
  go_upto_region 3 with (go_at_call 11; refine HR.out.mono ?_; rintro e w3 ⟨p, rfl, hfr, hb3⟩)
  obtain ⟨rb, hrb⟩ : ∃ rb, rb = w.heap.size := ⟨_, rfl⟩
  obtain ⟨sb, hsb⟩ : ∃ sb, sb = w3.heap.size := ⟨_, rfl⟩
  have hX : BgnM w w2.heap.size rb sb t p (w3.alloc (.cells #[.int .i64 t.rack, .slice p.ah t.hooks.length p.ch, .slice p.af t.feeds.length p.cf, .slice p.am t.made.length p.cm] 39)) := by
    have hal := al_t w3 (.cells #[.int .i64 t.rack, .slice p.ah t.hooks.length p.ch, .slice p.af t.feeds.length p.cf, .slice p.am t.made.length p.cm] 39)
    have hlo : w.heap.size < (w.alloc bedZero).heap.size := by simp
    have hb23 := (HB2.out.trans (hb3.mono HB2.out.size)).trans (hal.mono (Nat.le_trans HB2.out.size hb3.size))
    have hz := HZ.out.1.below hb23 hlo
    obtain ⟨z0, z1, z2, z3⟩ := hz
    rw [hrb, hsb]
    exact ⟨cell_new rfl rfl rfl, cell_new rfl rfl rfl, cell_new rfl rfl rfl, cell_new rfl rfl rfl, z0, z1, z2, z3, fun k => (Below.frozen hb23 (p := ⟨w.heap.size, k, none⟩) hlo).trans (HZ.out.2 k), hfr.to hal, HB1.out.trans (hb23.mono HB1.out.size)⟩
  have hlo2 : rb < w2.heap.size := by
    have h1 := HB2.out.size
    simp at h1
    omega
  refine abs_world (Q := fun W => Code.wp _ _ _ _ W) (F := fun W => BgnM w w2.heap.size rb sb t p W) _ hX ?_
  rw [← hrb, ← hsb]
  obtain ⟨lo, hloe⟩ : ∃ lo, lo = w2.heap.size := ⟨_, rfl⟩
  rw [← hloe] at hlo2 ⊢
  have HLo := Lib.hid hlo2
  have HRb : Hid (w.heap.size ≤ rb) := by show _ ≤ _; omega
  have HNs : Hid (rb ≠ sb) := by show rb ≠ sb; have := hb3.size; omega
  clear hX hrb hsb hfr hb3 HR HB2 HB1 HZ hlo2 hloe
  clear w3
  clear w2
  rintro W h
  have HM : Hid (∀ W', Below W.heap.size W W' → BgnM w lo rb sb t p W') := fun W' hb => h.to hb
  have HCk : Hid (∀ W', Below W.heap.size W W' → Calls Tryz.prog 32 #[t.val p] W' fun e w' => e = .returned (.int .i64 0) ∧ Below W'.heap.size W' w') := fun W' hb => by
    have h1 := rbcheck_ok t p HGd.out.err HGd.out.wf ⟨by rw [HL.out.1]; omega, by have := HGd.out.fd.len; omega, by rw [HL.out.2]; omega⟩ W' ((h.to hb).fr.at_)
    unfold RetB8 at h1
    rw [HGd.out.err] at h1
    exact h1
  unfold BedS.val at HCk
  have hHk := HL.out.1
  have hMk := HL.out.2
  have hz : t.rack = 0 ∨ True := Or.inr trivial
  clear hz
  have HSb : Hid (∀ W', Below W.heap.size W W' → (W'.cell? ⟨sb, 0, none⟩ = some (.int .i64 t.rack) ∧ W'.cell? ⟨sb, 1, none⟩ = some (.slice p.ah n p.ch) ∧ W'.cell? ⟨sb, 2, none⟩ = some (.slice p.af t.feeds.length p.cf) ∧ W'.cell? ⟨sb, 3, none⟩ = some (.slice p.am n p.cm))) := fun W' hb => by
    have h1 := h.to hb
    refine ⟨h1.s0, ?_, h1.s2, ?_⟩
    · rw [← hHk]; exact h1.s1
    · rw [← hMk]; exact h1.s3
  have hne : rb ≠ sb := HNs.out
  have HSt : Hid (∀ (W' : World) (v0 v1 v2 v3 : Value), (W'.cell? ⟨sb, 0, none⟩ = some (.int .i64 t.rack) ∧ W'.cell? ⟨sb, 1, none⟩ = some (.slice p.ah n p.ch) ∧ W'.cell? ⟨sb, 2, none⟩ = some (.slice p.af t.feeds.length p.cf) ∧ W'.cell? ⟨sb, 3, none⟩ = some (.slice p.am n p.cm)) → (((((W'.setCell ⟨rb, 0, none⟩ v0).setCell ⟨rb, 1, none⟩ v1).setCell ⟨rb, 2, none⟩ v2).setCell ⟨rb, 3, none⟩ v3).cell? ⟨sb, 0, none⟩ = some (.int .i64 t.rack) ∧ ((((W'.setCell ⟨rb, 0, none⟩ v0).setCell ⟨rb, 1, none⟩ v1).setCell ⟨rb, 2, none⟩ v2).setCell ⟨rb, 3, none⟩ v3).cell? ⟨sb, 1, none⟩ = some (.slice p.ah n p.ch) ∧ ((((W'.setCell ⟨rb, 0, none⟩ v0).setCell ⟨rb, 1, none⟩ v1).setCell ⟨rb, 2, none⟩ v2).setCell ⟨rb, 3, none⟩ v3).cell? ⟨sb, 2, none⟩ = some (.slice p.af t.feeds.length p.cf) ∧ ((((W'.setCell ⟨rb, 0, none⟩ v0).setCell ⟨rb, 1, none⟩ v1).setCell ⟨rb, 2, none⟩ v2).setCell ⟨rb, 3, none⟩ v3).cell? ⟨sb, 3, none⟩ = some (.slice p.am n p.cm))) := fun W' v0 v1 v2 v3 hc => by
    have e : ∀ k, ((((W'.setCell ⟨rb, 0, none⟩ v0).setCell ⟨rb, 1, none⟩ v1).setCell ⟨rb, 2, none⟩ v2).setCell ⟨rb, 3, none⟩ v3).cell? ⟨sb, k, none⟩ = W'.cell? ⟨sb, k, none⟩ := fun k => by
      rw [World.cell?_setCell_far _ _ _ _ hne, World.cell?_setCell_far _ _ _ _ hne, World.cell?_setCell_far _ _ _ _ hne, World.cell?_setCell_far _ _ _ _ hne]
    rw [e, e, e, e]
    exact hc
  rw [hHk, hMk] at HCk
  have HBd : Hid (Below W.heap.size W W.drew) := Below.drew (Below.refl _ _)
  clear h hHk hMk hne
  go_region_held3 (fun W' => W'.cell? ⟨sb, 0, none⟩ = some (.int .i64 t.rack) ∧ W'.cell? ⟨sb, 1, none⟩ = some (.slice p.ah n p.ch) ∧ W'.cell? ⟨sb, 2, none⟩ = some (.slice p.af t.feeds.length p.cf) ∧ W'.cell? ⟨sb, 3, none⟩ = some (.slice p.am n p.cm))
    (first | (with_reducible exact HSb.out _ HBw.out) | (with_reducible exact HSb.out _ HBd.out) | (with_reducible exact HSt.out _ _ _ _ _ (by assumption)) | fail)
    (first | (go_at_call 32; refine (HCk.out _ HBd.out).mono ?_; rintro e wd ⟨rfl, hbd⟩; have HBw := Lib.hid (HBd.out.trans (hbd.mono HBd.out.size)); clear hbd; have hmm := HM.out wd HBw.out; have r0 := hmm.r0; have r1 := hmm.r1; have r2 := hmm.r2; have r3 := hmm.r3; have rf := hmm.rf; clear hmm) | fail)
  have hmm := HM.out wd HBw.out
  have hw : BdIn.set wd rb t p = (((wd.setCell ⟨rb, 0, none⟩ (.int .i64 t.rack)).setCell ⟨rb, 1, none⟩ (.slice p.ah n p.ch)).setCell ⟨rb, 2, none⟩ (.slice p.af t.feeds.length p.cf)).setCell ⟨rb, 3, none⟩ (.slice p.am n p.cm) := by
    unfold BdIn.set
    rw [HL.out.1, HL.out.2]
  have hz : BdIn wd rb bed0 bedP0 := ⟨hmm.r0, hmm.r1, hmm.r2, hmm.r3⟩
  have HZ := Lib.hid (hz.stored t p)
  have HF := Lib.hid (hmm.fr.sets (t := t) (q := p) HLo.out).at_
  have HK := Lib.hid (BdIn.kept hmm.bel HRb.out t p)
  rw [hw] at HZ HF HK
  clear hmm hw hz r0 r1 r2 r3 rf
  go_wp2
  exact begin_close HZ.out rfl rfl ⟨p, rfl, HF.out, HK.out⟩
end Go.Proofs.YtflpikickbellaaGreat
