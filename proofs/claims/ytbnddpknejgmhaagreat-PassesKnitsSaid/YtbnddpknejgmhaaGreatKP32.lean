/- Layers 25, 26: Clone, Turn and Face, whose rows the caller owns. The reference's Seen, rows that are turned, too: a row of its own. -/
import Derived.Test.YtbnddpknejgmhaaGreatKP29
import Derived.Test.YtbnddpknejgmhaaGreatKP31
import Derived.Test.YtbnddpknejgmhaaGreatKP19
import Derived.Maps.OwnIn
import Derived.Sort.CutIn
import Derived.Laws.AppendOwnNone
namespace Go.Proofs.YtbnddpknejgmhaaGreat
open Go.RowKit Go.Shelf
attribute [local go_sem] Oper.semAt_some
set_option maxRecDepth 100000

def SnPost2 (l : List Stc) (w : World) (e : Ending) (w' : World) : Prop := ∃ v, e = .returned (.tuple #[v, .int .i64 0]) ∧ (pxS v l).lies w' w.heap.size ∧ Below w.heap.size w w'
def TurnO : Prop := ∀ (A : Option Addr) (c : Nat) (l : List Stc) (w : World), (∀ s ∈ l, s.wf) → allE l = 0 → SlT w w.heap.size A l →
  Calls Tryz.prog 49 #[.slice A l.length c] w fun e w' => SnPost2 (turnedL l) w e w'
set_option maxHeartbeats 8000000 in
theorem turn_own : TurnO := by
  intro A c l w hw hal hs
  have HA := Lib.hid (all_any A c l hw w hs)
  rw [hal] at HA
  have hz := all_zero hal
  obtain ⟨i0, hi, hz0, hz1, hz2⟩ := info_parts info_stc
  have hln := hz.1
  have HS := Lib.hid hs
  have HW := Lib.hid hw
  clear hs hw hal hz
  refine (callsIn_wide (n := 3)).1 ?_
  refine callsIn_of_wp_marks Tryz.func49 rfl trivial ?_ rfl
  simp only [Tryz.ntmps49, List.size_toArray, List.length_cons, List.length_nil, Nat.reduceAdd, Nat.reduceSub, Array.replicate_succ, Array.replicate_zero, List.push_toArray, List.append_toArray, List.nil_append, List.cons_append]
  gi_wp2_with fail
  refine ⟨trivial, (wide_calls HA.out).mono ?_⟩
  rintro e w1 ⟨rfl, hb1⟩
  obtain ⟨w2, hmr, how, hgm⟩ := run_makeSlice_owned (P := Tryz.prog) w1 w.heap.size 52 51 i0 (.agg #[.int .u8 0, .bool false, .int .i64 0, .int .i64 0]) 4 Tryz.underlying52 hi hz0 hz1 .i64 .i64 l.length (by omega) (by rw [hz2]; omega) (by unfold maxLen; omega) hb1.size
  have HOw := Lib.hid how
  have HGm := Lib.hid hgm
  have HB1 := Lib.hid hb1
  clear how hgm hb1
  gi_wp2_with fail
  refine ⟨trivial, (wide_calls (backward_any A l.length c _)).mono ?_⟩
  rintro e w' ⟨rfl, rfl⟩
  gi_wp2
  obtain ⟨ob, hob⟩ : ∃ ob, ob = w2.heap.size := ⟨_, rfl⟩
  refine abs_world (Q := fun W => Code.wpIn _ _ _ _ _ _ W) (F := fun W => W.heap.size = ob + 2 ∧ w.heap.size ≤ ob ∧ TurnI w ob (ob + 1) (ob + 2) l.length [] W ∧ W.cell? ⟨ob + 1, 0, none⟩ = some (.slice A l.length c)) _ ?_ ?_
  · have hB2 : Below w1.heap.size w1 w2 := (Below.refl _ w1).grown HGm.out (Nat.le_refl _) (fun k e => by cases e)
    have hB02 := HB1.out.trans (hB2.mono HB1.out.size)
    have hlt := (HOw.out.lt w1.heap.size rfl).2
    subst hob
    refine ⟨by simp, hB02.size, ⟨.slice (some ⟨w1.heap.size, 0, none⟩) 0 l.length, (hB02.alloc hB02.size _).alloc (by have := hB02.size; simp; omega) _, by simp, ⟨cell_old rfl (cell_new rfl rfl rfl), (Below.frozen (B := w2.heap.size + 1) ((Below.refl _ _).alloc (by simp) _) (by show w2.heap.size < _; omega)).trans (thawed_new' _ _ _ 0 rfl)⟩, (HOw.out.alloc _).alloc _, (fun e => by have := Option.some.inj e; simp at this; omega), (fun e => by have := Option.some.inj e; simp at this; omega), Nat.zero_le _⟩, cell_new rfl (by simp) rfl⟩
  rintro w3 ⟨hz3, hwo, hI3, hbx⟩
  rw [← hob]
  clear hob
  have HI3 := Lib.hid hI3
  have HZ3 := Lib.hid hz3
  have HBelow : Below w.heap.size w w3 := by obtain ⟨_, h, _⟩ := hI3; exact h
  refine wpIn_rangeFunc_ownH rfl (by omega) (gf := 108) (lb := #[.pointer (some ⟨ob + 1, 0, none⟩)]) rfl trivial (enters_of Tryz.func108 (by kernel_rfl) rfl)
    (backward_stops (3 - 1) (by omega) (ob + 1) w.heap.size A c l HW.out (by omega) w3 (by omega) (by omega) hbx (HS.out.below HBelow)) KP.trans (fun W l o o' _ hl ho _ => KP.put W l o o' hl ho) (Below.refl _ _) (fun _ => rfl)
    (TurnI w ob (ob + 1) (ob + 2) l.length) (fun _ _ _ => False)
    (by rw [hz3]; exact TurnI.from w ob (ob + 1) (ob + 2) l.length (by omega))
    (fun _ _ _ _ _ hs _ _ => hs)
    HI3.out
    (TurnAx w ob (ob + 1) A l.length c (.slice (some ⟨w1.heap.size, 0, none⟩) 0 l.length))
    (fun x a' s W W' row hs hg hr => by
      obtain ⟨xb, h1, ⟨s0, s1, s2, s3⟩, h3, h4, h5, h6, v, h7, h8⟩ := hs
      have hr' : ∀ r, row = some r → ∃ o : Obj, W.heap[r]? = some o ∧ o.isCells = false := fun r e => (hr r e).2
      exact ⟨xb, h1, ⟨cell_kept s0 hg hr', cell_kept s1 hg hr', cell_kept s2 hg hr', cell_kept s3 hg hr'⟩, ⟨(frozen_kept s1 hg hr').trans h3.1, (frozen_kept s2 hg hr').trans h3.2.1, (frozen_kept s3 hg hr').trans h3.2.2⟩, h4, h5, h6, v, cell_kept h7 hg hr', h8⟩) ?assign ?body ?done ?stop
  case assign =>
    intro l2 pre x W K hI hK
    have HI := Lib.hid hI
    clear hI
    unfold encB Stc.val
    gi_wp2
    obtain ⟨vo, _, hWz, ⟨hvc, _⟩, hvo, _⟩ := HI.out
    refine hK _ _ (KeepsFrom.of_grownBy (World.grownBy_alloc W _ none) (fun r e => by cases e)) (KP.of_below ((Below.refl _ W).alloc (Nat.le_refl _) _)) ((TurnI.from w ob (ob + 1) (ob + 2) l.length (by omega)).alloc _ HI.out) ⟨W.heap.size, rfl, ⟨cell_new rfl rfl rfl, cell_new rfl rfl rfl, cell_new rfl rfl rfl, cell_new rfl rfl rfl⟩, ⟨thawed_new' _ _ _ _ rfl, thawed_new' _ _ _ _ rfl, thawed_new' _ _ _ _ rfl⟩, by omega, by omega, by omega, vo, cell_old rfl hvc, fun e => by have := (hvo.lt _ e).2; omega⟩
  case body =>
    rintro l2 pre x a' W hl2 hrec ⟨vo, hB, hz, ⟨hc, hf⟩, hown, hne1, hne2, hN⟩ ⟨xb, rfl, hSt, ⟨f1, f2, f3⟩, h4, h5, h6, v', hv', hvx⟩ hpre
    rw [hc] at hv'
    obtain rfl : vo = v' := Option.some.inj hv'
    have HF := Lib.hid (fun w => forms_any x.s.kind x.h w)
    have hxl := hSt.lt
    have HSt := Lib.hid hSt
    obtain ⟨s0, s1, s2, s3⟩ := hSt
    simp only [Nat.zero_add] at s1 s2 s3 f1 f2 f3
    have hxc : ∀ o, W.heap[xb]? = some o → o.isCells = true := fun o ho => by
      unfold World.cell? at s0
      rw [ho] at s0
      cases o with
      | cells cs t f => rfl
      | _ => simp at s0
    obtain ⟨qk, hqk⟩ : ∃ q, q = decide (1 ≤ x.s.kind ∧ x.s.kind ≤ 10) := ⟨_, rfl⟩
    obtain ⟨f, hff⟩ : ∃ f, f = formI x.s.kind := ⟨_, rfl⟩
    rw [← hqk, ← hff] at HF
    have HF2 := Lib.hid (show ∀ w, Calls Tryz.prog 82 #[.int .u8 x.s.kind] w fun e w' => e = .returned (.tuple #[.agg #[.string f.letter, .int .i64 f.a0, .int .i64 f.a1, .int .i64 f.b0, .int .i64 f.b1, .bool f.sided, .int .i64 f.uses, .int .i64 f.made], .bool qk]) ∧ Below w.heap.size w w' from HF.out)
    have HO : Hid (otherS x.s = ⟨x.s.kind, f.sided && !x.s.purl, if 0 < f.b1 then x.s.b else x.s.a, if 0 < f.b1 then x.s.a else x.s.b⟩) := by unfold Hid otherS; rw [← hff]
    have HWS := Lib.hid (show _ ∧ _ from ⟨hB, hown⟩)
    have HC := Lib.hid (show _ ∧ _ from ⟨hc, hf⟩)
    have HFr := Lib.hid (show _ ∧ _ ∧ _ from ⟨f1, f2, f3⟩)
    clear HF hqk hff hB hown s1 s2 s3 f1 f2 f3 hc hf hv'
    gi_wp2_with fail
    refine ⟨trivial, (wide_calls (HF2.out _)).mono ?_⟩
    rintro e w4 ⟨rfl, hb4⟩
    gi_upto_region 8 with fail
    refine abs_world (Q := fun W => Code.wpIn _ _ _ _ _ _ W) (F := TB W xb ob w4.heap.size f vo x.s) _ ?_ ?_
    · have hol := lt_of_cell HC.out.1
      have hb5 : ∀ o, Below W.heap.size W (w4.alloc o) := fun o => hb4.alloc hb4.size o
      refine ⟨⟨_, hb5 _, World.grownBy.refl _ _⟩, HSt.out.below (hb5 _) hxl, ⟨?_, ?_, ?_⟩, ⟨?_, ?_⟩, ?_⟩
      · exact (Below.frozen (hb5 _) (p := ⟨xb, 1, none⟩) hxl).trans HFr.out.1
      · exact (Below.frozen (hb5 _) (p := ⟨xb, 2, none⟩) hxl).trans HFr.out.2.1
      · exact (Below.frozen (hb5 _) (p := ⟨xb, 3, none⟩) hxl).trans HFr.out.2.2
      · exact (bcell (hb5 _) hol _).trans HC.out.1
      · exact (Below.frozen (hb5 _) (p := ⟨ob, 0, none⟩) hol).trans HC.out.2
      · exact ⟨cell_new rfl rfl rfl, cell_new rfl rfl rfl, cell_new rfl rfl rfl, cell_new rfl rfl rfl, cell_new rfl rfl rfl, cell_new rfl rfl rfl, cell_new rfl rfl rfl, cell_new rfl rfl rfl⟩
    rintro W7 h7
    have hxf : xb ≠ w4.heap.size := by have := hb4.size; omega
    obtain ⟨s0', s1, s2, s3⟩ := h7.st
    obtain ⟨g0, g1, g2, g3, g4, g5, g6, g7⟩ := h7.fm
    obtain ⟨fr1, fr2, fr3⟩ := h7.fr
    simp only [Nat.zero_add] at s1 s2 s3 g1 g2 g3 g4 g5 g6 g7
    clear hb4 s0
    cases hsd : f.sided with
    | true =>
      rw [hsd] at g5
      gi_upto_region 9 with fail
      refine abs_world (Q := fun W => Code.wpIn _ _ _ _ _ _ W) (F := TB W xb ob w4.heap.size f vo ⟨x.s.kind, !x.s.purl, x.s.a, x.s.b⟩) _ (h7.set1 h5 hxf (!x.s.purl)) ?_
      clear s0' s1 s2 s3 g0 g1 g2 g3 g4 g5 g6 g7 fr1 fr2 fr3 h7
      rintro W8 h8
      by_cases hb1 : 0 < f.b1
      · have hOx : Hid (otherS x.s = ⟨x.s.kind, (!x.s.purl), x.s.b, x.s.a⟩) := by unfold Hid; rw [HO.out, hsd]; simp [hb1]
        obtain ⟨s0, s1, s2, s3⟩ := h8.st
        obtain ⟨g0, g1, g2, g3, g4, g5, g6, g7⟩ := h8.fm
        obtain ⟨fr1, fr2, fr3⟩ := h8.fr
        simp only [Nat.zero_add] at s1 s2 s3 g1 g2 g3 g4 g5 g6 g7
        have t2 := fun v => set_other (o := 2) (v := v) (by decide) s3
        have t2' := fun v => set_same (v := v) s2
        gi_upto_region 11 with fail
        refine abs_world (Q := fun W => Code.wpIn _ _ _ _ _ _ W) (F := TB W xb ob w4.heap.size f vo ⟨x.s.kind, (!x.s.purl), x.s.b, x.s.a⟩) _ ((h8.set2 h5 hxf x.s.b).set3 h5 hxf x.s.a) ?_
        clear s0 s1 s2 s3 g0 g1 g2 g3 g4 g5 g6 g7 fr1 fr2 fr3 t2 t2' h8
        rintro W5 h9
        obtain ⟨s0, s1, s2, s3⟩ := h9.st
        obtain ⟨oc, of⟩ := h9.oc
        simp only [Nat.zero_add] at s1 s2 s3
        obtain ⟨W4, hb44, hg45⟩ := h9.grown
        have HO5 := Lib.hid ((own_below HWS.out.2 hb44 (Nat.le_refl _)).kept hg45 (Or.inr hvx))
        have HC5 := Lib.hid (show _ ∧ _ from ⟨oc, of⟩)
        have HG5 := Lib.hid (show _ ∧ _ from ⟨hb44, hg45⟩)
        have hb5z : w.heap.size ≤ W5.heap.size := Nat.le_trans HWS.out.1.size (Nat.le_trans hb44.size hg45.size)
        clear hb44 hg45 h9
        have uc := fun o => cell_al oc o
        have vf := fun o => (Below.frozen ((Below.refl W5.heap.size W5).alloc (Nat.le_refl _) o) (p := ⟨ob, 0, none⟩) (lt_of_cell oc)).trans of
        gi_wp2_with (gi_at_builtin; refine wpListIn_append_own_at _ rfl _ _ 52 rfl w.heap.size 51 i0 (.agg #[.int .u8 0, .bool false, .int .i64 0, .int .i64 0]) 4 24 Tryz.underlying52 hi hz0 hz1 hz2 rfl (by decide) vo pre.length (turnedC pre) rfl (HO5.out.alloc _) ⟨W5.heap.size, 0, none⟩ 1 1 (⟨x.s.kind, (!x.s.purl), x.s.b, x.s.a⟩ : Stc).cells rfl rfl (newsT _ _ _ _ rfl) (oneT _) (by unfold maxLen; omega) (by omega) (by simp; omega) ?_; intro v' w6 hown6 hgrow6 _ hat6; have HT := Lib.hid (turn_round rfl rfl hwo HWS.out.1 hz HWS.out.2 hne1 hne2 hxc h4 h6 hpre HC5.out.1 HC5.out.2 HG5.out.1 HG5.out.2 hgrow6 hat6 (by rw [hOx.out]; exact hown6)); have hc6 : w6.cell? ⟨ob, 0, none⟩ = some vo := (World.cell?_of_block (hgrow6.block ob (lt_of_cell (uc _)) (fun e => hne2 e.symm))).trans (uc _); have hf6 : w6.frozen? ⟨ob, 0, none⟩ = false := (World.frozen?_of_block (hgrow6.block ob (lt_of_cell (uc _)) (fun e => hne2 e.symm))).trans (vf _); obtain ⟨a9, c9, rfl, hc9⟩ := own_slice hown6; clear hown6 hgrow6 hat6)
        exact HT.out
      · have hOx : Hid (otherS x.s = ⟨x.s.kind, (!x.s.purl), x.s.a, x.s.b⟩) := by unfold Hid; rw [HO.out, hsd]; simp [hb1]
        obtain ⟨s0, s1, s2, s3⟩ := h8.st
        obtain ⟨g0, g1, g2, g3, g4, g5, g6, g7⟩ := h8.fm
        obtain ⟨fr1, fr2, fr3⟩ := h8.fr
        simp only [Nat.zero_add] at s1 s2 s3 g1 g2 g3 g4 g5 g6 g7
        gi_upto_region 11 with fail
        refine abs_world (Q := fun W => Code.wpIn _ _ _ _ _ _ W) (F := TB W xb ob w4.heap.size f vo ⟨x.s.kind, (!x.s.purl), x.s.a, x.s.b⟩) _ h8 ?_
        clear s0 s1 s2 s3 g0 g1 g2 g3 g4 g5 g6 g7 fr1 fr2 fr3 h8
        rintro W5 h9
        obtain ⟨s0, s1, s2, s3⟩ := h9.st
        obtain ⟨oc, of⟩ := h9.oc
        simp only [Nat.zero_add] at s1 s2 s3
        obtain ⟨W4, hb44, hg45⟩ := h9.grown
        have HO5 := Lib.hid ((own_below HWS.out.2 hb44 (Nat.le_refl _)).kept hg45 (Or.inr hvx))
        have HC5 := Lib.hid (show _ ∧ _ from ⟨oc, of⟩)
        have HG5 := Lib.hid (show _ ∧ _ from ⟨hb44, hg45⟩)
        have hb5z : w.heap.size ≤ W5.heap.size := Nat.le_trans HWS.out.1.size (Nat.le_trans hb44.size hg45.size)
        clear hb44 hg45 h9
        have uc := fun o => cell_al oc o
        have vf := fun o => (Below.frozen ((Below.refl W5.heap.size W5).alloc (Nat.le_refl _) o) (p := ⟨ob, 0, none⟩) (lt_of_cell oc)).trans of
        gi_wp2_with (gi_at_builtin; refine wpListIn_append_own_at _ rfl _ _ 52 rfl w.heap.size 51 i0 (.agg #[.int .u8 0, .bool false, .int .i64 0, .int .i64 0]) 4 24 Tryz.underlying52 hi hz0 hz1 hz2 rfl (by decide) vo pre.length (turnedC pre) rfl (HO5.out.alloc _) ⟨W5.heap.size, 0, none⟩ 1 1 (⟨x.s.kind, (!x.s.purl), x.s.a, x.s.b⟩ : Stc).cells rfl rfl (newsT _ _ _ _ rfl) (oneT _) (by unfold maxLen; omega) (by omega) (by simp; omega) ?_; intro v' w6 hown6 hgrow6 _ hat6; have HT := Lib.hid (turn_round rfl rfl hwo HWS.out.1 hz HWS.out.2 hne1 hne2 hxc h4 h6 hpre HC5.out.1 HC5.out.2 HG5.out.1 HG5.out.2 hgrow6 hat6 (by rw [hOx.out]; exact hown6)); have hc6 : w6.cell? ⟨ob, 0, none⟩ = some vo := (World.cell?_of_block (hgrow6.block ob (lt_of_cell (uc _)) (fun e => hne2 e.symm))).trans (uc _); have hf6 : w6.frozen? ⟨ob, 0, none⟩ = false := (World.frozen?_of_block (hgrow6.block ob (lt_of_cell (uc _)) (fun e => hne2 e.symm))).trans (vf _); obtain ⟨a9, c9, rfl, hc9⟩ := own_slice hown6; clear hown6 hgrow6 hat6)
        exact HT.out
    | false =>
      rw [hsd] at g5
      gi_upto_region 9 with fail
      refine abs_world (Q := fun W => Code.wpIn _ _ _ _ _ _ W) (F := TB W xb ob w4.heap.size f vo ⟨x.s.kind, false, x.s.a, x.s.b⟩) _ (h7.set1 h5 hxf false) ?_
      clear s0' s1 s2 s3 g0 g1 g2 g3 g4 g5 g6 g7 fr1 fr2 fr3 h7
      rintro W8 h8
      by_cases hb1 : 0 < f.b1
      · have hOx : Hid (otherS x.s = ⟨x.s.kind, false, x.s.b, x.s.a⟩) := by unfold Hid; rw [HO.out, hsd]; simp [hb1]
        obtain ⟨s0, s1, s2, s3⟩ := h8.st
        obtain ⟨g0, g1, g2, g3, g4, g5, g6, g7⟩ := h8.fm
        obtain ⟨fr1, fr2, fr3⟩ := h8.fr
        simp only [Nat.zero_add] at s1 s2 s3 g1 g2 g3 g4 g5 g6 g7
        have t2 := fun v => set_other (o := 2) (v := v) (by decide) s3
        have t2' := fun v => set_same (v := v) s2
        gi_upto_region 11 with fail
        refine abs_world (Q := fun W => Code.wpIn _ _ _ _ _ _ W) (F := TB W xb ob w4.heap.size f vo ⟨x.s.kind, false, x.s.b, x.s.a⟩) _ ((h8.set2 h5 hxf x.s.b).set3 h5 hxf x.s.a) ?_
        clear s0 s1 s2 s3 g0 g1 g2 g3 g4 g5 g6 g7 fr1 fr2 fr3 t2 t2' h8
        rintro W5 h9
        obtain ⟨s0, s1, s2, s3⟩ := h9.st
        obtain ⟨oc, of⟩ := h9.oc
        simp only [Nat.zero_add] at s1 s2 s3
        obtain ⟨W4, hb44, hg45⟩ := h9.grown
        have HO5 := Lib.hid ((own_below HWS.out.2 hb44 (Nat.le_refl _)).kept hg45 (Or.inr hvx))
        have HC5 := Lib.hid (show _ ∧ _ from ⟨oc, of⟩)
        have HG5 := Lib.hid (show _ ∧ _ from ⟨hb44, hg45⟩)
        have hb5z : w.heap.size ≤ W5.heap.size := Nat.le_trans HWS.out.1.size (Nat.le_trans hb44.size hg45.size)
        clear hb44 hg45 h9
        have uc := fun o => cell_al oc o
        have vf := fun o => (Below.frozen ((Below.refl W5.heap.size W5).alloc (Nat.le_refl _) o) (p := ⟨ob, 0, none⟩) (lt_of_cell oc)).trans of
        gi_wp2_with (gi_at_builtin; refine wpListIn_append_own_at _ rfl _ _ 52 rfl w.heap.size 51 i0 (.agg #[.int .u8 0, .bool false, .int .i64 0, .int .i64 0]) 4 24 Tryz.underlying52 hi hz0 hz1 hz2 rfl (by decide) vo pre.length (turnedC pre) rfl (HO5.out.alloc _) ⟨W5.heap.size, 0, none⟩ 1 1 (⟨x.s.kind, false, x.s.b, x.s.a⟩ : Stc).cells rfl rfl (newsT _ _ _ _ rfl) (oneT _) (by unfold maxLen; omega) (by omega) (by simp; omega) ?_; intro v' w6 hown6 hgrow6 _ hat6; have HT := Lib.hid (turn_round rfl rfl hwo HWS.out.1 hz HWS.out.2 hne1 hne2 hxc h4 h6 hpre HC5.out.1 HC5.out.2 HG5.out.1 HG5.out.2 hgrow6 hat6 (by rw [hOx.out]; exact hown6)); have hc6 : w6.cell? ⟨ob, 0, none⟩ = some vo := (World.cell?_of_block (hgrow6.block ob (lt_of_cell (uc _)) (fun e => hne2 e.symm))).trans (uc _); have hf6 : w6.frozen? ⟨ob, 0, none⟩ = false := (World.frozen?_of_block (hgrow6.block ob (lt_of_cell (uc _)) (fun e => hne2 e.symm))).trans (vf _); obtain ⟨a9, c9, rfl, hc9⟩ := own_slice hown6; clear hown6 hgrow6 hat6)
        exact HT.out
      · have hOx : Hid (otherS x.s = ⟨x.s.kind, false, x.s.a, x.s.b⟩) := by unfold Hid; rw [HO.out, hsd]; simp [hb1]
        obtain ⟨s0, s1, s2, s3⟩ := h8.st
        obtain ⟨g0, g1, g2, g3, g4, g5, g6, g7⟩ := h8.fm
        obtain ⟨fr1, fr2, fr3⟩ := h8.fr
        simp only [Nat.zero_add] at s1 s2 s3 g1 g2 g3 g4 g5 g6 g7
        gi_upto_region 11 with fail
        refine abs_world (Q := fun W => Code.wpIn _ _ _ _ _ _ W) (F := TB W xb ob w4.heap.size f vo ⟨x.s.kind, false, x.s.a, x.s.b⟩) _ h8 ?_
        clear s0 s1 s2 s3 g0 g1 g2 g3 g4 g5 g6 g7 fr1 fr2 fr3 h8
        rintro W5 h9
        obtain ⟨s0, s1, s2, s3⟩ := h9.st
        obtain ⟨oc, of⟩ := h9.oc
        simp only [Nat.zero_add] at s1 s2 s3
        obtain ⟨W4, hb44, hg45⟩ := h9.grown
        have HO5 := Lib.hid ((own_below HWS.out.2 hb44 (Nat.le_refl _)).kept hg45 (Or.inr hvx))
        have HC5 := Lib.hid (show _ ∧ _ from ⟨oc, of⟩)
        have HG5 := Lib.hid (show _ ∧ _ from ⟨hb44, hg45⟩)
        have hb5z : w.heap.size ≤ W5.heap.size := Nat.le_trans HWS.out.1.size (Nat.le_trans hb44.size hg45.size)
        clear hb44 hg45 h9
        have uc := fun o => cell_al oc o
        have vf := fun o => (Below.frozen ((Below.refl W5.heap.size W5).alloc (Nat.le_refl _) o) (p := ⟨ob, 0, none⟩) (lt_of_cell oc)).trans of
        gi_wp2_with (gi_at_builtin; refine wpListIn_append_own_at _ rfl _ _ 52 rfl w.heap.size 51 i0 (.agg #[.int .u8 0, .bool false, .int .i64 0, .int .i64 0]) 4 24 Tryz.underlying52 hi hz0 hz1 hz2 rfl (by decide) vo pre.length (turnedC pre) rfl (HO5.out.alloc _) ⟨W5.heap.size, 0, none⟩ 1 1 (⟨x.s.kind, false, x.s.a, x.s.b⟩ : Stc).cells rfl rfl (newsT _ _ _ _ rfl) (oneT _) (by unfold maxLen; omega) (by omega) (by simp; omega) ?_; intro v' w6 hown6 hgrow6 _ hat6; have HT := Lib.hid (turn_round rfl rfl hwo HWS.out.1 hz HWS.out.2 hne1 hne2 hxc h4 h6 hpre HC5.out.1 HC5.out.2 HG5.out.1 HG5.out.2 hgrow6 hat6 (by rw [hOx.out]; exact hown6)); have hc6 : w6.cell? ⟨ob, 0, none⟩ = some vo := (World.cell?_of_block (hgrow6.block ob (lt_of_cell (uc _)) (fun e => hne2 e.symm))).trans (uc _); have hf6 : w6.frozen? ⟨ob, 0, none⟩ = false := (World.frozen?_of_block (hgrow6.block ob (lt_of_cell (uc _)) (fun e => hne2 e.symm))).trans (vf _); obtain ⟨a9, c9, rfl, hc9⟩ := own_slice hown6; clear hown6 hgrow6 hat6)
        exact HT.out
  case done =>
    rintro D xs W hD rfl ⟨vo, hB, hz, ⟨hc, hf⟩, hown, hne1, hne2, hN⟩ hK
    have hlen : (backs l HW.out l.length).length = (turnedL l).length := by rw [backs_len]; simp [turnedL]
    have hmap : turnedC (backs l HW.out l.length) = ((turnedL l).map Stc.cells).flatten := by
      unfold turnedC turnedL
      have e := backs_map l HW.out l.length (Nat.le_refl _)
      rw [List.take_length] at e
      rw [show (fun x : Bk => otherS x.s) = otherS ∘ (·.s) from rfl, ← List.map_map, e, List.map_reverse]
    rw [hlen, hmap] at hown
    obtain ⟨a9, c9, rfl, hc9⟩ := own_slice hown
    have HOwn := Lib.hid hown
    have HB := Lib.hid hB
    clear hown hlen hmap hf hne1 hne2 hN hB
    gi_wp2
    refine ⟨by simp, .inl ⟨_, _, rfl, run_takeDeferred hK, ?_⟩⟩
    have hk : (W.putObj D (.deferred none)).ownsRow w.heap.size 51 4 (.slice a9 (turnedL l).length c9) (turnedL l).length ((turnedL l).map Stc.cells).flatten := HOwn.out.kept (grownBy_putObj' W D _) (Or.inr fun e => by
      rcases HOwn.out.2 with ⟨hv, _⟩ | ⟨g, cap, cur, hv, _, hh, _⟩
      · rw [hv] at e; cases e
      · rw [hv] at e; cases e
        rw [hh] at hK; cases hK)
    exact ⟨_, results_tmp2 rfl _ _ _, _, rfl, hk, HB.out.trans (belowK_b (w := w) (Nat.le_refl _) W D _ _ (by omega) hK rfl rfl)⟩
  case stop =>
    rintro D c' pre W _ _ h _
    exact h.elim
end Go.Proofs.YtbnddpknejgmhaaGreat
namespace Go.Proofs.YtbnddpknejgmhaaGreat
open Go.RowKit Go.Shelf
set_option maxRecDepth 100000

theorem own_more {w : World} {B B' : Nat} {o : Own} (h : o.lies w B') (hB : B ≤ B') : o.lies w B := World.ownsRow.mono h hB
theorem other_close {W : World} {tmps : Array Value} {s' : Stc} {b : Nat} {R : Ending → World → Prop} (hF : StcAt W b 0 s') (h2 : tmps[2]?.getD undef = .pointer (some ⟨b, 0, none⟩)) (hR : R (.returned s'.val) W) :
    bodyPost Tryz.prog Tryz.f67 R .ret { tmps := tmps, defers := [] } W := by
  obtain ⟨c0, c1, c2, c3⟩ := hF
  simp only [Nat.zero_add] at c1 c2 c3
  refine bodyPost_ret (v := s'.val) ?_ rfl hR
  simp [results, Tryz.results67, go_sem, h2, c0, c1, c2, c3, Stc.val]
set_option maxHeartbeats 4000000 in
theorem rother_any (s : Stc) (ho : s.ok = true) (w : World) : Calls Tryz.prog 67 #[s.val] w fun e w' => e = .returned (otherS s).val ∧ Below w.heap.size w w' := by
  have hk : 1 ≤ s.kind ∧ s.kind ≤ 10 := by
    unfold Stc.ok at ho
    simp only [Bool.and_eq_true, decide_eq_true_eq] at ho
    exact ho.1
  obtain ⟨k, pl, a, b⟩ := s
  simp only at hk
  have hbl := Lib.hid (fun o o2 => ((Below.refl w.heap.size w).alloc (Nat.le_refl _) o).alloc (by simp) o2)
  have hp29 : k = 2 ∨ k = 9 → pl = false := by
    rintro (rfl | rfl) <;> cases pl <;> first | rfl | (simp [Stc.ok, formI, formT, form0] at ho)
  clear ho
  rcases (by omega : k = 1 ∨ k = 2 ∨ k = 3 ∨ k = 4 ∨ k = 5 ∨ k = 6 ∨ k = 7 ∨ k = 8 ∨ k = 9 ∨ k = 10) with rfl | rfl | rfl | rfl | rfl | rfl | rfl | rfl | rfl | rfl
  all_goals clear hk
  all_goals first | (obtain rfl := hp29 (Or.inl rfl)) | (obtain rfl := hp29 (Or.inr rfl)) | clear hp29
  all_goals
    go_enter Tryz.func67, Tryz.ntmps67
    go_wp2
    exact other_close (s' := otherS ⟨_, _, a, b⟩) ⟨cell_new rfl (by simp) rfl, cell_new rfl (by simp) rfl, cell_new rfl (by simp) rfl, cell_new rfl (by simp) rfl⟩ rfl ⟨rfl, hbl.out _ _⟩
theorem turned_step {l : List Stc} {m : Nat} {s : Stc} (h : l[m]? = some s) : turnedL (l.drop m) = turnedL (l.drop (m + 1)) ++ [otherS s] := by
  obtain ⟨hk, e⟩ := List.getElem?_eq_some_iff.1 h
  rw [List.drop_eq_getElem_cons hk, e]; simp [turnedL]
theorem flat_snoc4 (O : List Stc) (x : Stc) : ((O ++ [x]).map Stc.cells).flatten = (O.map Stc.cells).flatten ++ x.cells := by simp
theorem news4 (W : World) (cs : Array Value) (t : TypeId) (b : Nat) (hb : b = W.heap.size) : ∀ (j : Nat) (u : Value), cs.toList[j]? = some u → (W.alloc (.cells cs t)).cell? ((⟨b, 0, none⟩ : Addr).add j) = some u := fun j u h => by
  subst hb
  rw [show (⟨W.heap.size, 0, none⟩ : Addr).add j = ⟨W.heap.size, j, none⟩ by unfold Addr.add; split <;> simp_all]
  exact cell_new rfl rfl (by simpa using h)
theorem oneS (s : Stc) : ∀ v ∈ s.cells, v.oneCell' = true := by
  intro u hu
  simp only [Stc.cells, List.mem_cons, List.not_mem_nil, or_false] at hu
  rcases hu with rfl | rfl | rfl | rfl <;> rfl
set_option maxHeartbeats 4000000 in
theorem rturned_own (A : Option Addr) (c : Nat) (l : List Stc) (hok : ∀ s ∈ l, s.ok = true) (hn : l.length ≤ 1000) (w : World) (hs : SlT w w.heap.size A l) :
    Calls Tryz.prog 38 #[.slice A l.length c] w fun e w' => SnPost (turnedL l) w e w' := by
  obtain ⟨i0, hi, hz0, hz1, hz2⟩ := info_parts info_stW
  have hsub : IntKind.i64.wrap ((l.length : Int) - 1) = (l.length : Int) - 1 := IntWalk.i64_in _ (by omega)
  go_enter Tryz.func38, Tryz.ntmps38
  go_wp2
  go_loopw [3, 4] (fun s3 s4 wr => ∃ (m : Nat) (vo : Value), m ≤ l.length ∧ s4 = .int .i64 ((m : Int) - 1) ∧ vo = s3 ∧ Hid (wr.ownsRow w.heap.size 51 4 vo (l.length - m) ((turnedL (l.drop m)).map Stc.cells).flatten) ∧ Below w.heap.size w wr) (fun _ s4 _ => (intOf s4 + 1).toNat)
  case atStart => exact ⟨l.length, _, Nat.le_refl _, rfl, rfl, (by rw [Nat.sub_self, List.drop_length]; exact World.ownsRow_nil _ _ _ _), Below.refl _ _⟩
  case round =>
    obtain ⟨m, vo, hm, rfl, rfl, HOw, hbw⟩ := hrel
    cases m with
    | zero =>
      have ho := HOw.out
      rw [Nat.sub_zero, List.drop_zero] at ho
      have hl : (turnedL l).length = l.length := by simp [turnedL]
      rw [← hl] at ho
      have HO : Hid (SnPost (turnedL l) w (.returned vo) wr) := ⟨vo, rfl, ho, hbw⟩
      clear ho HOw hs hok
      go_wp2
      go_ret
      exact HO.out
    | succ m =>
      have em : (((m + 1 : Nat) : Int) - 1) = (m : Int) := by omega
      rw [em]
      obtain ⟨b, off, s, rfl, hB, hz, hc⟩ := hs.at_ (k := m) (by omega)
      obtain ⟨c0, c1, c2, c3⟩ := hc.below hbw hB
      have HOt := Lib.hid (fun w => rother_any s (hok s (List.mem_of_getElem? hz)) w)
      have HSt : Hid ((turnedL (l.drop m)) = turnedL (l.drop (m + 1)) ++ [otherS s]) := turned_step hz
      have hln : l.length - m = l.length - (m + 1) + 1 := by omega
      have hbz := hbw.size
      have hsub2 : IntKind.i64.wrap ((m : Int) - 1) = (m : Int) - 1 := IntWalk.i64_in _ (by omega)
      clear hs hok hz hc
      generalize otherS s = s' at HOt HSt
      go_wp2_with (first
        | (go_at_call 67; refine (HOt.out _).mono ?_; rintro e w1 ⟨rfl, hb1⟩; have HO1 := Lib.hid (own_below HOw.out hb1 (Nat.le_refl _)); have hz1' := hb1.size)
        | (at_builtin; refine wpList_append_own _ rfl _ _ 52 rfl w.heap.size 51 i0 (.agg #[.int .u8 0, .bool false, .int .i64 0, .int .i64 0]) 4 24 Tryz.underlying52 hi hz0 hz1 hz2 rfl (by decide) _ _ _ rfl (HO1.out.alloc _) ⟨w1.heap.size, 0, none⟩ 1 1 s'.cells rfl rfl (news4 w1 _ _ _ rfl) (oneS s') (by unfold maxLen; omega) (by omega) (by simp; omega) ?_; intro v' w4 hown4 hgrow _; have HO4 := Lib.hid hown4; have HG4 := Lib.hid hgrow; clear hown4 hgrow))
      go_roundw
      case rel =>
        refine ⟨m, v', by omega, by go_num, rfl, ?_, ?_⟩
        · rw [HSt.out, flat_snoc4, hln]
          exact HO4.out
        · exact ((hbw.trans (hb1.mono hbw.size)).alloc (by omega) _).grown HG4.out (by simp; omega) (fun g e => (HO1.out.lt g e).1)
      case measure => simp [intOf]
set_option maxHeartbeats 4000000 in
/-- The reference's Seen: a row of its own. -/
theorem rseen_own (r : RowC) (A : Option Addr) (c : Nat) (hok : ∀ s ∈ r.2, s.ok = true) (hn : r.2.length ≤ 1000) (w : World) (hs : SlT w w.heap.size A r.2) :
    Calls Tryz.prog 13 #[.agg #[.bool r.1, .slice A r.2.length c]] w fun e w' => SnPost (faceL r) w e w' := by
  obtain ⟨q, l⟩ := r
  simp only at hok hn hs ⊢
  cases q with
  | false => exact rseen_plain A c l hn w hs
  | true =>
    have hbw0 : Below w.heap.size w (w.alloc (.cells #[.bool true, .slice A l.length c] 55)) := (Below.refl _ w).alloc (Nat.le_refl _) _
    have HB0 := Lib.hid hbw0
    have HT := Lib.hid (rturned_own A c l hok hn _ ((hs.below hbw0).more hbw0.size))
    have HF : Hid (faceL (true, l) = turnedL l) := rfl
    clear hs hok hbw0
    go_enter Tryz.func13, Tryz.ntmps13
    go_wp2_with (go_at_call 38; refine HT.out.mono ?_; rintro e w1 ⟨v2, rfl, ho2, hb2⟩)
    have HO : Hid (SnPost (turnedL l) w (.returned v2) w1) := ⟨v2, rfl, own_more ho2 HB0.out.size, HB0.out.trans (hb2.mono HB0.out.size)⟩
    go_ret
    rw [HF.out]
    exact HO.out
end Go.Proofs.YtbnddpknejgmhaaGreat
