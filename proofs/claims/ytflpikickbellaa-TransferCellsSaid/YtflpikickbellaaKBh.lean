/- Layer 32: the program's begin, walked. -/
import Derived.Test.YtflpikickbellaaKG12
import Derived.Deep.RegionHeld3
import Derived.Carry
namespace Go.Proofs.Ytflpikickbellaa
open Go.RowKit Go.Shelf Go.Sort
set_option maxRecDepth 100000

/-- What begin leaves. -/
def BgPost (w : World) (A F : Option Addr) (c fc : Nat) (s : Sft) (e : Ending) (w' : World) : Prop :=
  ∃ (mb n : Nat) (G : Int → Option Value), e = .returned (wkV A F c fc s mb) ∧ n ≤ s.n ∧ MpR w' w.heap.size mb n G (waitsN s fun _ => false) ∧ (∀ t, (G t).isSome = decide (waitsN s (fun _ => false) t ≠ [])) ∧ Below w.heap.size w w'
theorem bg_start (w : World) (A F : Option Addr) (c fc : Nat) (s : Sft) : ∃ n G, BgM w (w.heap.size + 1) (w.heap.size + 1 + 1 + 1) (w.heap.size + 1 + 1) A F c fc s 0 n G ((((w.alloc (.cells #[.slice A s.to_.length c, .slice F s.first.length fc] 25)).alloc (.cells #[.slice none 0 0, .slice none 0 0, .map none] 72)).alloc (.map #[] 0)).alloc (.cells #[.slice A s.to_.length c, .slice F s.first.length fc, .map (some (w.heap.size + 1 + 1))] 72)) := by
  obtain ⟨w1, h1⟩ : ∃ w1, w1 = w.alloc (.cells #[.slice A s.to_.length c, .slice F s.first.length fc] 25) := ⟨_, rfl⟩
  have z1 : w1.heap.size = w.heap.size + 1 := by rw [h1]; simp
  have b1 : Below w.heap.size w w1 := by rw [h1]; exact al_t _ _
  rw [← h1]
  obtain ⟨w2, h2⟩ : ∃ w2, w2 = w1.alloc (.cells #[.slice none 0 0, .slice none 0 0, .map none] 72) := ⟨_, rfl⟩
  have z2 : w2.heap.size = w.heap.size + 1 + 1 := by rw [h2]; simp [z1]
  have b2 : Below w.heap.size w w2 := by rw [h2]; exact al_s b1 _
  have q0 : w2.cell? ⟨w.heap.size + 1, 0, none⟩ = some (.slice none 0 0) := cell_new h2 z1.symm rfl
  have q1 : w2.cell? ⟨w.heap.size + 1, 1, none⟩ = some (.slice none 0 0) := cell_new h2 z1.symm rfl
  have q2 : w2.cell? ⟨w.heap.size + 1, 2, none⟩ = some (.map none) := cell_new h2 z1.symm rfl
  have qf : ∀ k, w2.frozen? ⟨w.heap.size + 1, k, none⟩ = false := fun k => by rw [h2]; exact thawed_new' _ _ _ k z1.symm
  rw [← h2]
  have hm := MpR.new w2 b2.size
  rw [z2] at hm
  have b3 : Below w2.heap.size w2 (w2.alloc (.map #[] 0)) := al_t _ _
  obtain ⟨w3, h3⟩ : ∃ w3, w3 = w2.alloc (.map #[] 0) := ⟨_, rfl⟩
  have z3 : w3.heap.size = w.heap.size + 1 + 1 + 1 := by rw [h3]; simp [z2]
  rw [← h3] at hm b3 ⊢
  have b4 := b3.trans ((al_t w3 (.cells #[.slice A s.to_.length c, .slice F s.first.length fc, .map (some (w.heap.size + 1 + 1))] 72)).mono b3.size)
  refine ⟨0, fun _ => none, cell_new rfl z3.symm rfl, cell_new rfl z3.symm rfl, cell_new rfl z3.symm rfl, (bcell b4 (lt_of_cell q0) _).trans q0, (bcell b4 (lt_of_cell q1) _).trans q1, (bcell b4 (lt_of_cell q2) _).trans q2, fun k => (Below.frozen b4 (p := ⟨w.heap.size + 1, k, none⟩) (by rw [z2]; exact Nat.lt_succ_self _)).trans (qf k), b2.trans (b4.mono b2.size), hm.to (al_t _ _), Nat.le_refl _, (fun t => by rw [bgC_zero]; rfl), (fun t e => by cases e), (fun t e => by cases e), by omega, by omega⟩
theorem drew_cell {W : World} {a : Addr} {v : Value} (h : W.cell? a = some v) : W.drew.cell? a = some v := h
theorem bg_end {w W : World} {rb wb mb : Nat} {A F : Option Addr} {c fc : Nat} {s : Sft} {i n : Nat} {G : Int → Option Value} (h : BgM w rb wb mb A F c fc s i n G W) (hi : i = s.n) (hr : w.heap.size ≤ rb) {x y z : Value} :
    BgPost w A F c fc s (.returned (wkV A F c fc s mb)) (((W.setCell ⟨rb, 0, none⟩ x).setCell ⟨rb, 1, none⟩ y).setCell ⟨rb, 2, none⟩ z) := by
  subst hi
  have hg := grown_trans (grown_trans (grown_setAt W rb 0 x) (grown_setAt _ rb 1 y)) (grown_setAt _ rb 2 z)
  refine ⟨mb, n, G, rfl, h.nn, h.mp.kept hg (fun e => h.mr (Option.some.inj e)) (fun t k e e2 => h.ar t (by rw [e, ← e2])), h.dom, h.bl.grown hg h.bl.size (fun k e => by cases e; exact hr)⟩
set_option maxHeartbeats 16000000 in
theorem pbegin_any (A F : Option Addr) (c fc : Nat) (s : Sft) (hs : SftOk s) (hf : s.first.length ≤ 4611686018427387904) (w : World) (h : SfAt A F s w) :
    Calls Try.prog 28 #[sftV A F c fc s] w fun e w' => BgPost w A F c fc s e w' := by
  have HSf := Lib.hid h
  have hn : s.to_.length ≤ 40 := hs.len
  have hmm := @run_makeMap Try.prog
  clear h
  go_enter Try.func28, Try.ntmps28
  go_upto_region 2 with fail
  have HF0 : Hid (∃ n G, BgM w (w.heap.size + 1) (w.heap.size + 1 + 1 + 1) (w.heap.size + 1 + 1) A F c fc s 0 n G ((((w.alloc (.cells #[.slice A s.to_.length c, .slice F s.first.length fc] 25)).alloc (.cells #[.slice none 0 0, .slice none 0 0, .map none] 72)).alloc (.map #[] 0)).alloc (.cells #[.slice A s.to_.length c, .slice F s.first.length fc, .map (some (w.heap.size + 1 + 1))] 72))) := bg_start w A F c fc s
  have HC0 : Hid (((((w.alloc (.cells #[.slice A s.to_.length c, .slice F s.first.length fc] 25)).alloc (.cells #[.slice none 0 0, .slice none 0 0, .map none] 72)).alloc (.map #[] 0)).alloc (.cells #[.slice A s.to_.length c, .slice F s.first.length fc, .map (some (w.heap.size + 1 + 1))] 72)).cell? ⟨w.heap.size, 0, none⟩ = some (.slice A s.to_.length c)) := cell_al (cell_al (cell_al (cell_new rfl rfl rfl) _) _) _
  refine abs_world (Q := fun W => Code.wp _ _ _ _ W) (F := fun W => (∃ n G, BgM w (w.heap.size + 1) (w.heap.size + 1 + 1 + 1) (w.heap.size + 1 + 1) A F c fc s 0 n G W) ∧ W.cell? ⟨w.heap.size, 0, none⟩ = some (.slice A s.to_.length c)) _ ⟨HF0.out, HC0.out⟩ ?_
  clear HF0 HC0
  obtain ⟨sb, hsb⟩ : ∃ sb, sb = w.heap.size := ⟨_, rfl⟩
  obtain ⟨rb, hrb⟩ : ∃ rb, rb = w.heap.size + 1 := ⟨_, rfl⟩
  obtain ⟨mb, hmb⟩ : ∃ mb, mb = w.heap.size + 1 + 1 := ⟨_, rfl⟩
  obtain ⟨wb, hwb⟩ : ∃ wb, wb = w.heap.size + 1 + 1 + 1 := ⟨_, rfl⟩
  rw [← hwb, ← hmb, ← hrb, ← hsb]
  have HRb : Hid (w.heap.size ≤ rb) := by show _ ≤ _; omega
  clear hwb hmb hrb
  rintro W1 ⟨⟨n0, G0, h0⟩, q0⟩
  have HX1 := Lib.hid h0
  clear h0 hmm
  clear hsb
  go_wp2
  clear q0
  go_loopw [11] (fun s11 wr => ∃ (i n : Nat) (G : Int → Option Value), i ≤ s.to_.length ∧ s11 = .int .i64 (i : Int) ∧ Hid (BgM w rb wb mb A F c fc s i n G wr)) (fun s11 _ => s.to_.length - (intOf s11).toNat)
  case atStart => exact ⟨0, n0, G0, Nat.zero_le _, rfl, HX1.out⟩
  case round =>
    obtain ⟨i, n, G, hi, rfl, HX⟩ := hrel
    clear HX1
    obtain ⟨W, hW⟩ : ∃ W : World, W = wr := ⟨_, rfl⟩
    rw [← hW] at HX ⊢
    clear hW
    have c0 := HX.out.c0
    have c1 := HX.out.c1
    have c2 := HX.out.c2
    by_cases hlt : i < s.to_.length
    case neg =>
      have r0 := HX.out.r0
      have r1 := HX.out.r1
      have r2 := HX.out.r2
      have rf := HX.out.rf
      have HE : Hid (∃ W', W' = ((W.setCell ⟨rb, 0, none⟩ (.slice A s.to_.length c)).setCell ⟨rb, 1, none⟩ (.slice F s.first.length fc)).setCell ⟨rb, 2, none⟩ (.map (some mb)) ∧ BgPost w A F c fc s (.returned (wkV A F c fc s mb)) W' ∧ W'.cell? ⟨rb, 0, none⟩ = some (.slice A s.to_.length c) ∧ W'.cell? ⟨rb, 1, none⟩ = some (.slice F s.first.length fc) ∧ W'.cell? ⟨rb, 2, none⟩ = some (.map (some mb))) :=
        ⟨_, rfl, bg_end HX.out (by have e : s.n = s.to_.length := rfl; omega) HRb.out, set_other (by omega) (set_other (by omega) (set_same r0)), set_other (by omega) (set_same (set_other (by omega) r1)), set_same (set_other (by omega) (set_other (by omega) r2))⟩
      clear HX
      go_wp2
      (try simp only [Exit.inBlock, Exit.then])
      obtain ⟨W', hW', hp, q0, q1, q2⟩ := HE.out
      rw [← hW']
      clear hW' r0 r1 r2 rf c0 c1 c2
      refine bodyPost_ret (v := wkV A F c fc s mb) (by simp [results, Try.results28, go_sem, q0, q1, q2]) rfl hp
    case pos =>
      have HM := Lib.hid (pmoved_any A F c fc s mb hs hf i hlt W (HSf.out.to HX.out.bl))
      cases hm : movedN s i with
      | false =>
        have HMv := Lib.hid hm
        rw [hm] at HM
        clear hm
        go_wp2_with ((go_at_call 61; refine HM.out.mono ?_; rintro e w1 ⟨rfl, hb1⟩))
        go_roundw
        case rel => exact ⟨i + 1, n, G, by omega, by go_num, (HX.out.skip HMv.out).to hb1⟩
        case measure => simp [intOf]; omega
      | true =>
        have HMv := Lib.hid hm
        rw [hm] at HM
        clear hm
        go_upto_region 6 with ((go_at_call 61; refine HM.out.mono ?_; rintro e w1 ⟨rfl, hb1⟩))
        have HX1 := Lib.hid (HX.out.to hb1)
        clear HM hb1 HX c0 c1 c2
        have c0 := HX1.out.c0
        have c1 := HX1.out.c1
        have c2 := HX1.out.c2
        obtain ⟨a, k, hv, -⟩ := HX1.out.mp.read (offN s i)
        have HV := Lib.hid hv
        have hor := (hs.to_ i hlt).2.2
        have HS : Hid (∀ W', Below w1.heap.size w1 W' → W'.cell? ⟨wb, 0, none⟩ = some (.slice A s.to_.length c) ∧ W'.cell? ⟨wb, 1, none⟩ = some (.slice F s.first.length fc) ∧ W'.cell? ⟨wb, 2, none⟩ = some (.map (some mb))) := fun W' hb => ⟨(HX1.out.to hb).c0, (HX1.out.to hb).c1, (HX1.out.to hb).c2⟩
        have HLk : Hid (∀ W', Below w1.heap.size w1 W' → (Instr.lookup 70 (.map (some mb)) (.int .i64 (offN s i)) false).run Try.prog W' = .ok (.slice a (bgC s i (offN s i)).length k) W') := fun W' hb => by rw [← hv]; exact (HX1.out.to hb).mp.look (wfK_small hor.1 hor.2)
        have HOff : Hid (∀ W', Below w1.heap.size w1 W' → Calls Try.prog 35 #[wkV A F c fc s mb, .int .i64 (i : Int)] W' fun e w' => e = .returned (.int .i64 (offN s i)) ∧ w' = W'.alloc (wkB A F c fc s mb)) := fun W' hb => poff_ex A F c fc s mb hs i hlt W' (HSf.out.to (HX1.out.to hb).bl)
        have HOff2 : Hid (∀ W', SfAt A F s W' → Calls Try.prog 35 #[wkV A F c fc s mb, .int .i64 (i : Int)] W' fun e w' => e = .returned (.int .i64 (offN s i)) ∧ w' = W'.alloc (wkB A F c fc s mb)) := fun W' hb => poff_ex A F c fc s mb hs i hlt W' hb
        have HSt := Lib.hid (fun (W' : World) (hb : Below w1.heap.size w1 W') (g : Nat) (hg : W'.cell? ⟨g, 0, none⟩ = some (.int .i64 (i : Int))) => (HX1.out.to hb).step HSf.out hs hlt HMv.out hv g hg)
        obtain ⟨L, hL⟩ : ∃ L, L = (bgC s i (offN s i)).length := ⟨_, rfl⟩
        obtain ⟨o, ho⟩ : ∃ o, o = offN s i := ⟨_, rfl⟩
        simp only [← hL] at HLk HSt
        simp only [← ho] at HLk HOff HOff2 HSt
        clear hv HV hor hL ho
        go_region_held3 (fun W' => W'.cell? ⟨wb, 0, none⟩ = some (.slice A s.to_.length c) ∧ W'.cell? ⟨wb, 1, none⟩ = some (.slice F s.first.length fc) ∧ W'.cell? ⟨wb, 2, none⟩ = some (.map (some mb)))
          (first | exact ⟨by assumption, by assumption, by assumption⟩ | exact HS.out _ (by (repeat (first | with_reducible exact Below.refl _ _ | (with_reducible refine Below.drew ?_) | (with_reducible refine al_s ?_ _)))) | fail)
          (first
            | (go_at_call 35; refine (HOff.out _ (by (repeat (first | with_reducible exact Below.refl _ _ | (with_reducible refine Below.drew ?_) | (with_reducible refine al_s ?_ _))))).mono ?_; rintro e w' ⟨rfl, rfl⟩)
            | (go_at_call 35; refine (HOff2.out _ (by assumption)).mono ?_; rintro e w' ⟨rfl, rfl⟩)
            | (rw [HLk.out]; rotate_left; (repeat (first | with_reducible exact Below.refl _ _ | (with_reducible refine Below.drew ?_) | (with_reducible refine al_s ?_ _))); go_simp)
            | (refine step_append_ex (by rfl) _ _ _ _ (by rfl) _ _ (by rfl) (by rfl) (HSt.out _ (by (repeat (first | with_reducible exact Below.refl _ _ | (with_reducible refine Below.drew ?_) | (with_reducible refine al_s ?_ _)))) _ (by refine drew_cell ?_; first | exact cell_new rfl (by simp) rfl | exact cell_al (cell_new rfl (by simp) rfl) _ | exact cell_al (cell_al (cell_new rfl (by simp) rfl) _) _)) ?_; rintro v2 w2 ⟨A2, k2, rfl, e0, e1, e2, hsf2, hP⟩; obtain ⟨p0, p1, p2, w4, he4, hq4⟩ := hP _ (Below.refl _ _); obtain ⟨p0', p1', p2', w5, he5, hq5⟩ := hP _ (al_t _ (wkB A F c fc s mb)); have q40 := hq4.c0; have q41 := hq4.c1; have q42 := hq4.c2; have q50 := hq5.c0; have q51 := hq5.c1; have q52 := hq5.c2; clear hP)
            | fail)
        all_goals
          go_wp2
          go_roundw
          case rel => exact ⟨i + 1, n + 1, _, by omega, by go_num, by assumption⟩
          case measure => simp [intOf]; omega
end Go.Proofs.Ytflpikickbellaa
