/- Layer 25: Turn. -/
import Derived.Test.YtbnddpknejgmhaaGreatKP28
import Derived.Test.YtbnddpknejgmhaaGreatKP1
import Derived.Maps.OwnIn
import Derived.Sort.CutIn
namespace Go.Proofs.YtbnddpknejgmhaaGreat
open Go.RowKit Go.Shelf
attribute [local go_sem] Oper.semAt_some
set_option maxRecDepth 100000

/-- The rows of cells of the stitches turned so far. -/
def turnedC (pre : List Bk) : List Value := ((pre.map fun x => otherS x.s).map Stc.cells).flatten
theorem turnedC_snoc (pre : List Bk) (x : Bk) : turnedC (pre ++ [x]) = turnedC pre ++ (otherS x.s).cells := by simp [turnedC]
/-- What holds between the rounds of Turn's. -/
def TurnI (w : World) (ob Bs B3 : Nat) (N : Nat) (pre : List Bk) (W : World) : Prop :=
  ∃ vo, Below w.heap.size w W ∧ B3 ≤ W.heap.size ∧ (W.cell? ⟨ob, 0, none⟩ = some vo ∧ W.frozen? ⟨ob, 0, none⟩ = false) ∧ W.ownsRow w.heap.size 51 4 vo pre.length (turnedC pre) ∧ vo.ownBlock ≠ some Bs ∧ vo.ownBlock ≠ some ob ∧ pre.length ≤ N
theorem TurnI.from (w : World) (ob Bs B3 N : Nat) (hB : w.heap.size ≤ B3) : OwnFrom B3 (TurnI w ob Bs B3 N) := by
  rintro pre W W' row ⟨vo, h1, h2, ⟨h3, h4⟩, h5, h6, h7, h8⟩ hg hr
  have hr' : ∀ r, row = some r → ∃ o : Obj, W.heap[r]? = some o ∧ o.isCells = false := fun r e => (hr r e).2
  refine ⟨vo, h1.grown hg (Nat.le_trans hB h2) (fun k e => Nat.le_trans hB (hr k e).1), Nat.le_trans h2 hg.size, ⟨cell_kept h3 hg hr', (frozen_kept h3 hg hr').trans h4⟩, h5.kept hg ?_, h6, h7, h8⟩
  cases row with
  | none =>
    cases hv : vo.ownBlock with
    | none => exact Or.inl rfl
    | some g => exact Or.inr (by simp)
  | some r =>
    refine Or.inr fun e => ?_
    obtain ⟨o, ho, hc⟩ := hr' r rfl
    rcases h5.2 with ⟨rfl, _⟩ | ⟨g, cap, cur, rfl, _, hh, _⟩
    · cases e
    · cases e
      rw [hh] at ho; cases ho; cases hc
/-- What the frame holds in a round of Turn's. -/
def TurnAx (w : World) (ob Bs : Nat) (A : Option Addr) (n c : Nat) (ob2 : Value) (x : Bk) (a' : Act) (W : World) : Prop :=
  ∃ xb : Nat, a' = { tmps := #[.slice A n c, undef, .slice none 0 0, .int .i64 0, .int .i64 0, .pointer (some ⟨ob, 0, none⟩), undef, .pointer (some ⟨xb, 0, none⟩), undef, undef, .slice A n c, .int .i64 0, .int .i64 0, .bool false, undef, .slice A n c, .int .i64 n, ob2, .slice A n c, .func (.func 108) #[] #[.pointer (some ⟨Bs, 0, none⟩)], .int .i64 x.i, .agg #[.int .u8 x.s.kind, .bool x.s.purl, .int .i64 x.s.a, .int .i64 x.s.b], undef, undef, undef, undef, undef, undef, undef, undef, undef, undef, undef, undef, undef, undef, undef, undef, undef, undef, undef, undef, undef, undef, undef, undef, undef, undef, undef, undef, undef], defers := [] } ∧
    StcAt W xb 0 x.s ∧ (W.frozen? ⟨xb, 0 + 1, none⟩ = false ∧ W.frozen? ⟨xb, 0 + 2, none⟩ = false ∧ W.frozen? ⟨xb, 0 + 3, none⟩ = false) ∧ w.heap.size ≤ xb ∧ xb ≠ ob ∧ xb ≠ Bs ∧ ∃ v, W.cell? ⟨ob, 0, none⟩ = some v ∧ v.ownBlock ≠ some xb
theorem oneT (s : Stc) : ∀ v ∈ s.cells, v.oneCell' = true := by
  intro u hu
  simp only [Stc.cells, List.mem_cons, List.not_mem_nil, or_false] at hu
  rcases hu with rfl | rfl | rfl | rfl <;> rfl
/-- A round of Turn's, summed up: from W by calls (to W4), stores into the box xb (to W5), an append (to W6), a store into the box ob (to W7). -/
theorem turn_round {w : World} {ob B3 N : Nat} {pre : List Bk} {x : Bk} {W W4 W5 W6 : World} {vo vo' : Value} {xb : Nat} {o : Obj} {n₀ : Nat} (hn₀ : n₀ = w.heap.size) (hB3 : B3 = ob + 2) (hwo : w.heap.size ≤ ob)
    (hI : Below w.heap.size w W) (hz : B3 ≤ W.heap.size) (hown : W.ownsRow w.heap.size 51 4 vo pre.length (turnedC pre)) (hne1 : vo.ownBlock ≠ some (ob + 1)) (hne2 : vo.ownBlock ≠ some ob) (hxc : ∀ o, W.heap[xb]? = some o → o.isCells = true)
    (hxb : w.heap.size ≤ xb) (hxs : xb ≠ ob + 1) (hlen : pre.length < N)
    (hc : W5.cell? ⟨ob, 0, none⟩ = some vo) (hf : W5.frozen? ⟨ob, 0, none⟩ = false)
    (h4 : Below W.heap.size W W4) (h5 : W4.grownBy W5 (some xb)) (h6 : (W5.alloc o).grownBy W6 vo.ownBlock) (hat : vo'.ownBlock = vo.ownBlock ∨ vo'.ownBlock = some (W5.alloc o).heap.size)
    (ho6 : W6.ownsRow w.heap.size 51 4 vo' (pre.length + 1) (turnedC pre ++ (otherS x.s).cells)) :
    KeepsFrom (ob + 2) W (W6.setCell ⟨ob, 0, none⟩ vo') ∧ KP n₀ (ob + 1) W (W6.setCell ⟨ob, 0, none⟩ vo') ∧ TurnI w ob (ob + 1) B3 N (pre ++ [x]) (W6.setCell ⟨ob, 0, none⟩ vo') := by
  subst hn₀ hB3
  have hvlt : ∀ g, vo.ownBlock = some g → w.heap.size ≤ g ∧ g < W.heap.size := fun g e => hown.lt g e
  have hz4 := h4.size
  have hz5 := h5.size
  have hz6 := h6.size
  rw [World.size_alloc] at hz6 hat
  have k4 : KP w.heap.size (ob + 1) W W4 := KP.of_below h4
  have k5 : KP w.heap.size (ob + 1) W4 W5 := KP.of_grown h5 (fun r e => by cases e; exact ⟨hxb, hxs⟩)
  have k6 : KP w.heap.size (ob + 1) W5 (W5.alloc o) := KP.of_below ((Below.refl _ _).alloc (Nat.le_refl _) o)
  have k7 : KP w.heap.size (ob + 1) (W5.alloc o) W6 := KP.of_grown h6 (fun r e => ⟨(hvlt r e).1, fun e2 => hne1 (by rw [e, e2])⟩)
  have k8 : KP w.heap.size (ob + 1) W6 (W6.setCell ⟨ob, 0, none⟩ vo') := KP.of_grown (grown_setAt W6 ob 0 vo') (fun r e => by cases e; exact ⟨hwo, by omega⟩)
  have hgc : ∀ g o, vo.ownBlock = some g → W.heap[g]? = some o → o.isCells = true := fun g o e hg => by
    rcases hown.2 with ⟨rfl, _⟩ | ⟨g', cap, cur, rfl, _, hh, _⟩
    · cases e
    · cases e; rw [hh] at hg; cases hg; rfl
  have hkf : KeepsFrom (ob + 2) W (W6.setCell ⟨ob, 0, none⟩ vo') := ⟨by simp only [World.size_setCell]; omega, fun k o' hk hko ho' => by
    have hkl := (Array.getElem?_eq_some_iff.1 hko).1
    have e4 := h4.block k hkl
    have e5 := h5.block k (by omega) (fun e => by cases e; rw [hxc _ hko] at ho'; cases ho')
    have e6 := ((Below.refl W5.heap.size W5).alloc (Nat.le_refl _) o).block k (by omega)
    have e7 := h6.block k (by simp; omega) (fun e => by rw [hgc k o' e.symm hko] at ho'; cases ho')
    have e8 := (grown_setAt W6 ob 0 vo').block k (by omega) (fun e => by cases e; omega)
    rw [e8, e7, e6, e5, e4]; exact hko⟩
  refine ⟨hkf, (((k4.trans k5).trans k6).trans k7).trans k8, vo', ?_, ?_, ?_, ?_, ?_, ?_, ?_⟩
  · have b4 := hI.trans (h4.mono hI.size)
    have b5 := b4.grown h5 b4.size (fun k e => by cases e; exact hxb)
    have b6 := (b5.alloc b5.size o).grown h6 (by have := b5.size; simp; omega) (fun k e => (hvlt k e).1)
    exact b6.setCell (p := ⟨ob, 0, none⟩) hwo _
  · simp only [World.size_setCell]; omega
  · have hc6 : W6.cell? ⟨ob, 0, none⟩ = some vo := by
      have hob5 := lt_of_cell hc
      have e1 : W6.cell? ⟨ob, 0, none⟩ = (W5.alloc o).cell? ⟨ob, 0, none⟩ := World.cell?_of_block (h6.block ob (by simp; omega) (fun e => hne2 e.symm))
      rw [e1]
      exact (bcell ((Below.refl W5.heap.size W5).alloc (Nat.le_refl _) o) hob5 0).trans hc
    have hf6 : W6.frozen? ⟨ob, 0, none⟩ = false := by
      have hob5 := lt_of_cell hc
      have e1 : W6.frozen? ⟨ob, 0, none⟩ = (W5.alloc o).frozen? ⟨ob, 0, none⟩ := World.frozen?_of_block (h6.block ob (by simp; omega) (fun e => hne2 e.symm))
      rw [e1]
      exact (Below.frozen (B := W5.heap.size) ((Below.refl W5.heap.size W5).alloc (Nat.le_refl _) o) hob5).trans hf
    exact ⟨World.cell?_setCell_same' _ _ _ (by rw [hc6]; rfl), by rw [World.frozen?_setCell]; exact hf6⟩
  · rw [List.length_append, turnedC_snoc]
    refine ho6.kept (grown_setAt W6 ob 0 vo') (Or.inr fun e => ?_)
    rcases hat with h | h
    · exact hne2 (by rw [← h]; exact e)
    · rw [h] at e; have := Option.some.inj e; have := lt_of_cell hc; omega
  · intro e
    rcases hat with h | h
    · exact hne1 (by rw [← h]; exact e)
    · rw [h] at e; have := Option.some.inj e; omega
  · intro e
    rcases hat with h | h
    · exact hne2 (by rw [← h]; exact e)
    · rw [h] at e; have := Option.some.inj e; have := lt_of_cell hc; omega
  · rw [List.length_append]; simp; omega
/-- What holds within a round of Turn's. -/
structure TB (W0 : World) (xb ob fb : Nat) (f : Form) (vo : Value) (s : Stc) (W : World) : Prop where
  grown : ∃ W4, Below W0.heap.size W0 W4 ∧ W4.grownBy W (some xb)
  st : StcAt W xb 0 s
  fr : W.frozen? ⟨xb, 1, none⟩ = false ∧ W.frozen? ⟨xb, 2, none⟩ = false ∧ W.frozen? ⟨xb, 3, none⟩ = false
  oc : W.cell? ⟨ob, 0, none⟩ = some vo ∧ W.frozen? ⟨ob, 0, none⟩ = false
  fm : FormAt W fb 0 f
theorem TB.keep {W0 : World} {xb ob fb : Nat} {f : Form} {vo : Value} {s s' : Stc} {W : World} (h : TB W0 xb ob fb f vo s W) (hne : xb ≠ ob) (hnf : xb ≠ fb) (o : Nat) (v : Value) (hs : StcAt (W.setCell ⟨xb, o, none⟩ v) xb 0 s') : TB W0 xb ob fb f vo s' (W.setCell ⟨xb, o, none⟩ v) := by
  obtain ⟨⟨W4, h4, hg⟩, _, ⟨f1, f2, f3⟩, ⟨oc, of⟩, g0, g1, g2, g3, g4, g5, g6, g7⟩ := h
  have ne : ∀ (b p : Nat), xb ≠ b → (⟨xb, o, none⟩ : Addr) ≠ ⟨b, p, none⟩ := fun b p hb e => hb (Addr.mk.inj e).1
  refine ⟨⟨W4, h4, hg.trans (grown_setAt W xb o v)⟩, hs, ⟨?_, ?_, ?_⟩, ⟨?_, ?_⟩, ?_⟩
  · rw [World.frozen?_setCell]; exact f1
  · rw [World.frozen?_setCell]; exact f2
  · rw [World.frozen?_setCell]; exact f3
  · exact (World.cell?_setCell_other W _ _ v (ne ob 0 hne)).trans oc
  · rw [World.frozen?_setCell]; exact of
  · exact ⟨(World.cell?_setCell_other W _ _ v (ne fb _ hnf)).trans g0, (World.cell?_setCell_other W _ _ v (ne fb _ hnf)).trans g1, (World.cell?_setCell_other W _ _ v (ne fb _ hnf)).trans g2, (World.cell?_setCell_other W _ _ v (ne fb _ hnf)).trans g3, (World.cell?_setCell_other W _ _ v (ne fb _ hnf)).trans g4, (World.cell?_setCell_other W _ _ v (ne fb _ hnf)).trans g5, (World.cell?_setCell_other W _ _ v (ne fb _ hnf)).trans g6, (World.cell?_setCell_other W _ _ v (ne fb _ hnf)).trans g7⟩
theorem TB.set1 {W0 : World} {xb ob fb : Nat} {f : Form} {vo : Value} {s : Stc} {W : World} (h : TB W0 xb ob fb f vo s W) (hne : xb ≠ ob) (hnf : xb ≠ fb) (z : Bool) : TB W0 xb ob fb f vo ⟨s.kind, z, s.a, s.b⟩ (W.setCell ⟨xb, 1, none⟩ (.bool z)) := by
  obtain ⟨s0, s1, s2, s3⟩ := h.st
  simp only [Nat.zero_add] at s1 s2 s3
  exact h.keep hne hnf 1 _ ⟨set_other (by decide) s0, set_same s1, set_other (by decide) s2, set_other (by decide) s3⟩
theorem TB.set2 {W0 : World} {xb ob fb : Nat} {f : Form} {vo : Value} {s : Stc} {W : World} (h : TB W0 xb ob fb f vo s W) (hne : xb ≠ ob) (hnf : xb ≠ fb) (z : Int) : TB W0 xb ob fb f vo ⟨s.kind, s.purl, z, s.b⟩ (W.setCell ⟨xb, 2, none⟩ (.int .i64 z)) := by
  obtain ⟨s0, s1, s2, s3⟩ := h.st
  simp only [Nat.zero_add] at s1 s2 s3
  exact h.keep hne hnf 2 _ ⟨set_other (by decide) s0, set_other (by decide) s1, set_same s2, set_other (by decide) s3⟩
theorem TB.set3 {W0 : World} {xb ob fb : Nat} {f : Form} {vo : Value} {s : Stc} {W : World} (h : TB W0 xb ob fb f vo s W) (hne : xb ≠ ob) (hnf : xb ≠ fb) (z : Int) : TB W0 xb ob fb f vo ⟨s.kind, s.purl, s.a, z⟩ (W.setCell ⟨xb, 3, none⟩ (.int .i64 z)) := by
  obtain ⟨s0, s1, s2, s3⟩ := h.st
  simp only [Nat.zero_add] at s1 s2 s3
  exact h.keep hne hnf 3 _ ⟨set_other (by decide) s0, set_other (by decide) s1, set_other (by decide) s2, set_same s3⟩
set_option maxHeartbeats 8000000 in
theorem turn_any : TurnC := by
  intro A c l w hw hal hs
  have HA := Lib.hid (all_any A c l hw w hs)
  rw [hal] at HA
  have hz := all_zero hal
  obtain ⟨i0, hi, hz0, hz1, hz2⟩ := info_parts info_stc
  have hln := hz.1
  have HS := Lib.hid hs
  have HW := Lib.hid hw
  clear hs hw hal hz
  refine (callsIn_wide (n := 3)).1 ?_
  refine callsIn_of_wp_marks Tryz.func49 rfl trivial ?_ rfl
  simp only [Tryz.ntmps49, List.size_toArray, List.length_cons, List.length_nil, Nat.reduceAdd, Nat.reduceSub, Array.replicate_succ, Array.replicate_zero, List.push_toArray, List.append_toArray, List.nil_append, List.cons_append]
  gi_wp2_with fail
  refine ⟨trivial, (wide_calls HA.out).mono ?_⟩
  rintro e w1 ⟨rfl, hb1⟩
  obtain ⟨w2, hmr, how, hgm⟩ := run_makeSlice_owned (P := Tryz.prog) w1 w.heap.size 52 51 i0 (.agg #[.int .u8 0, .bool false, .int .i64 0, .int .i64 0]) 4 Tryz.underlying52 hi hz0 hz1 .i64 .i64 l.length (by omega) (by rw [hz2]; omega) (by unfold maxLen; omega) hb1.size
  have HOw := Lib.hid how
  have HGm := Lib.hid hgm
  have HB1 := Lib.hid hb1
  clear how hgm hb1
  gi_wp2_with fail
  refine ⟨trivial, (wide_calls (backward_any A l.length c _)).mono ?_⟩
  rintro e w' ⟨rfl, rfl⟩
  gi_wp2
  obtain ⟨ob, hob⟩ : ∃ ob, ob = w2.heap.size := ⟨_, rfl⟩
  refine abs_world (Q := fun W => Code.wpIn _ _ _ _ _ _ W) (F := fun W => W.heap.size = ob + 2 ∧ w.heap.size ≤ ob ∧ TurnI w ob (ob + 1) (ob + 2) l.length [] W ∧ W.cell? ⟨ob + 1, 0, none⟩ = some (.slice A l.length c)) _ ?_ ?_
  · have hB2 : Below w1.heap.size w1 w2 := (Below.refl _ w1).grown HGm.out (Nat.le_refl _) (fun k e => by cases e)
    have hB02 := HB1.out.trans (hB2.mono HB1.out.size)
    have hlt := (HOw.out.lt w1.heap.size rfl).2
    subst hob
    refine ⟨by simp, hB02.size, ⟨.slice (some ⟨w1.heap.size, 0, none⟩) 0 l.length, (hB02.alloc hB02.size _).alloc (by have := hB02.size; simp; omega) _, by simp, ⟨cell_old rfl (cell_new rfl rfl rfl), (Below.frozen (B := w2.heap.size + 1) ((Below.refl _ _).alloc (by simp) _) (by show w2.heap.size < _; omega)).trans (thawed_new' _ _ _ 0 rfl)⟩, (HOw.out.alloc _).alloc _, (fun e => by have := Option.some.inj e; simp at this; omega), (fun e => by have := Option.some.inj e; simp at this; omega), Nat.zero_le _⟩, cell_new rfl (by simp) rfl⟩
  rintro w3 ⟨hz3, hwo, hI3, hbx⟩
  rw [← hob]
  clear hob
  have HI3 := Lib.hid hI3
  have HZ3 := Lib.hid hz3
  have HBelow : Below w.heap.size w w3 := by obtain ⟨_, h, _⟩ := hI3; exact h
  refine wpIn_rangeFunc_ownH rfl (by omega) (gf := 108) (lb := #[.pointer (some ⟨ob + 1, 0, none⟩)]) rfl trivial (enters_of Tryz.func108 (by kernel_rfl) rfl)
    (backward_stops (3 - 1) (by omega) (ob + 1) w.heap.size A c l HW.out (by omega) w3 (by omega) (by omega) hbx (HS.out.below HBelow)) KP.trans (fun W l o o' _ hl ho _ => KP.put W l o o' hl ho) (Below.refl _ _) (fun _ => rfl)
    (TurnI w ob (ob + 1) (ob + 2) l.length) (fun _ _ _ => False)
    (by rw [hz3]; exact TurnI.from w ob (ob + 1) (ob + 2) l.length (by omega))
    (fun _ _ _ _ _ hs _ _ => hs)
    HI3.out
    (TurnAx w ob (ob + 1) A l.length c (.slice (some ⟨w1.heap.size, 0, none⟩) 0 l.length))
    (fun x a' s W W' row hs hg hr => by
      obtain ⟨xb, h1, ⟨s0, s1, s2, s3⟩, h3, h4, h5, h6, v, h7, h8⟩ := hs
      have hr' : ∀ r, row = some r → ∃ o : Obj, W.heap[r]? = some o ∧ o.isCells = false := fun r e => (hr r e).2
      exact ⟨xb, h1, ⟨cell_kept s0 hg hr', cell_kept s1 hg hr', cell_kept s2 hg hr', cell_kept s3 hg hr'⟩, ⟨(frozen_kept s1 hg hr').trans h3.1, (frozen_kept s2 hg hr').trans h3.2.1, (frozen_kept s3 hg hr').trans h3.2.2⟩, h4, h5, h6, v, cell_kept h7 hg hr', h8⟩) ?assign ?body ?done ?stop
  case assign =>
    intro l2 pre x W K hI hK
    have HI := Lib.hid hI
    clear hI
    unfold encB Stc.val
    gi_wp2
    obtain ⟨vo, _, hWz, ⟨hvc, _⟩, hvo, _⟩ := HI.out
    refine hK _ _ (KeepsFrom.of_grownBy (World.grownBy_alloc W _ none) (fun r e => by cases e)) (KP.of_below ((Below.refl _ W).alloc (Nat.le_refl _) _)) ((TurnI.from w ob (ob + 1) (ob + 2) l.length (by omega)).alloc _ HI.out) ⟨W.heap.size, rfl, ⟨cell_new rfl rfl rfl, cell_new rfl rfl rfl, cell_new rfl rfl rfl, cell_new rfl rfl rfl⟩, ⟨thawed_new' _ _ _ _ rfl, thawed_new' _ _ _ _ rfl, thawed_new' _ _ _ _ rfl⟩, by omega, by omega, by omega, vo, cell_old rfl hvc, fun e => by have := (hvo.lt _ e).2; omega⟩
  case body =>
    rintro l2 pre x a' W hl2 hrec ⟨vo, hB, hz, ⟨hc, hf⟩, hown, hne1, hne2, hN⟩ ⟨xb, rfl, hSt, ⟨f1, f2, f3⟩, h4, h5, h6, v', hv', hvx⟩ hpre
    rw [hc] at hv'
    obtain rfl : vo = v' := Option.some.inj hv'
    have HF := Lib.hid (fun w => forms_any x.s.kind x.h w)
    have hxl := hSt.lt
    have HSt := Lib.hid hSt
    obtain ⟨s0, s1, s2, s3⟩ := hSt
    simp only [Nat.zero_add] at s1 s2 s3 f1 f2 f3
    have hxc : ∀ o, W.heap[xb]? = some o → o.isCells = true := fun o ho => by
      unfold World.cell? at s0
      rw [ho] at s0
      cases o with
      | cells cs t f => rfl
      | _ => simp at s0
    obtain ⟨qk, hqk⟩ : ∃ q, q = decide (1 ≤ x.s.kind ∧ x.s.kind ≤ 10) := ⟨_, rfl⟩
    obtain ⟨f, hff⟩ : ∃ f, f = formI x.s.kind := ⟨_, rfl⟩
    rw [← hqk, ← hff] at HF
    have HF2 := Lib.hid (show ∀ w, Calls Tryz.prog 82 #[.int .u8 x.s.kind] w fun e w' => e = .returned (.tuple #[.agg #[.string f.letter, .int .i64 f.a0, .int .i64 f.a1, .int .i64 f.b0, .int .i64 f.b1, .bool f.sided, .int .i64 f.uses, .int .i64 f.made], .bool qk]) ∧ Below w.heap.size w w' from HF.out)
    have HO : Hid (otherS x.s = ⟨x.s.kind, f.sided && !x.s.purl, if 0 < f.b1 then x.s.b else x.s.a, if 0 < f.b1 then x.s.a else x.s.b⟩) := by unfold Hid otherS; rw [← hff]
    have HWS := Lib.hid (show _ ∧ _ from ⟨hB, hown⟩)
    have HC := Lib.hid (show _ ∧ _ from ⟨hc, hf⟩)
    have HFr := Lib.hid (show _ ∧ _ ∧ _ from ⟨f1, f2, f3⟩)
    clear HF hqk hff hB hown s1 s2 s3 f1 f2 f3 hc hf hv'
    gi_wp2_with fail
    refine ⟨trivial, (wide_calls (HF2.out _)).mono ?_⟩
    rintro e w4 ⟨rfl, hb4⟩
    gi_upto_region 8 with fail
    refine abs_world (Q := fun W => Code.wpIn _ _ _ _ _ _ W) (F := TB W xb ob w4.heap.size f vo x.s) _ ?_ ?_
    · have hol := lt_of_cell HC.out.1
      have hb5 : ∀ o, Below W.heap.size W (w4.alloc o) := fun o => hb4.alloc hb4.size o
      refine ⟨⟨_, hb5 _, World.grownBy.refl _ _⟩, HSt.out.below (hb5 _) hxl, ⟨?_, ?_, ?_⟩, ⟨?_, ?_⟩, ?_⟩
      · exact (Below.frozen (hb5 _) (p := ⟨xb, 1, none⟩) hxl).trans HFr.out.1
      · exact (Below.frozen (hb5 _) (p := ⟨xb, 2, none⟩) hxl).trans HFr.out.2.1
      · exact (Below.frozen (hb5 _) (p := ⟨xb, 3, none⟩) hxl).trans HFr.out.2.2
      · exact (bcell (hb5 _) hol _).trans HC.out.1
      · exact (Below.frozen (hb5 _) (p := ⟨ob, 0, none⟩) hol).trans HC.out.2
      · exact ⟨cell_new rfl rfl rfl, cell_new rfl rfl rfl, cell_new rfl rfl rfl, cell_new rfl rfl rfl, cell_new rfl rfl rfl, cell_new rfl rfl rfl, cell_new rfl rfl rfl, cell_new rfl rfl rfl⟩
    rintro W7 h7
    have hxf : xb ≠ w4.heap.size := by have := hb4.size; omega
    obtain ⟨s0', s1, s2, s3⟩ := h7.st
    obtain ⟨g0, g1, g2, g3, g4, g5, g6, g7⟩ := h7.fm
    obtain ⟨fr1, fr2, fr3⟩ := h7.fr
    simp only [Nat.zero_add] at s1 s2 s3 g1 g2 g3 g4 g5 g6 g7
    clear hb4 s0
    cases hsd : f.sided with
    | true =>
      rw [hsd] at g5
      gi_upto_region 9 with fail
      refine abs_world (Q := fun W => Code.wpIn _ _ _ _ _ _ W) (F := TB W xb ob w4.heap.size f vo ⟨x.s.kind, !x.s.purl, x.s.a, x.s.b⟩) _ (h7.set1 h5 hxf (!x.s.purl)) ?_
      clear s0' s1 s2 s3 g0 g1 g2 g3 g4 g5 g6 g7 fr1 fr2 fr3 h7
      rintro W8 h8
      by_cases hb1 : 0 < f.b1
      · have hOx : Hid (otherS x.s = ⟨x.s.kind, (!x.s.purl), x.s.b, x.s.a⟩) := by unfold Hid; rw [HO.out, hsd]; simp [hb1]
        obtain ⟨s0, s1, s2, s3⟩ := h8.st
        obtain ⟨g0, g1, g2, g3, g4, g5, g6, g7⟩ := h8.fm
        obtain ⟨fr1, fr2, fr3⟩ := h8.fr
        simp only [Nat.zero_add] at s1 s2 s3 g1 g2 g3 g4 g5 g6 g7
        have t2 := fun v => set_other (o := 2) (v := v) (by decide) s3
        have t2' := fun v => set_same (v := v) s2
        gi_upto_region 11 with fail
        refine abs_world (Q := fun W => Code.wpIn _ _ _ _ _ _ W) (F := TB W xb ob w4.heap.size f vo ⟨x.s.kind, (!x.s.purl), x.s.b, x.s.a⟩) _ ((h8.set2 h5 hxf x.s.b).set3 h5 hxf x.s.a) ?_
        clear s0 s1 s2 s3 g0 g1 g2 g3 g4 g5 g6 g7 fr1 fr2 fr3 t2 t2' h8
        rintro W5 h9
        obtain ⟨s0, s1, s2, s3⟩ := h9.st
        obtain ⟨oc, of⟩ := h9.oc
        simp only [Nat.zero_add] at s1 s2 s3
        obtain ⟨W4, hb44, hg45⟩ := h9.grown
        have HO5 := Lib.hid ((own_below HWS.out.2 hb44 (Nat.le_refl _)).kept hg45 (Or.inr hvx))
        have HC5 := Lib.hid (show _ ∧ _ from ⟨oc, of⟩)
        have HG5 := Lib.hid (show _ ∧ _ from ⟨hb44, hg45⟩)
        have hb5z : w.heap.size ≤ W5.heap.size := Nat.le_trans HWS.out.1.size (Nat.le_trans hb44.size hg45.size)
        clear hb44 hg45 h9
        have uc := fun o => cell_al oc o
        have vf := fun o => (Below.frozen ((Below.refl W5.heap.size W5).alloc (Nat.le_refl _) o) (p := ⟨ob, 0, none⟩) (lt_of_cell oc)).trans of
        gi_wp2_with (gi_at_builtin; refine wpListIn_append_own_at _ rfl _ _ 52 rfl w.heap.size 51 i0 (.agg #[.int .u8 0, .bool false, .int .i64 0, .int .i64 0]) 4 24 Tryz.underlying52 hi hz0 hz1 hz2 rfl (by decide) vo pre.length (turnedC pre) rfl (HO5.out.alloc _) ⟨W5.heap.size, 0, none⟩ 1 1 (⟨x.s.kind, (!x.s.purl), x.s.b, x.s.a⟩ : Stc).cells rfl rfl (newsT _ _ _ _ rfl) (oneT _) (by unfold maxLen; omega) (by omega) (by simp; omega) ?_; intro v' w6 hown6 hgrow6 _ hat6; have HT := Lib.hid (turn_round rfl rfl hwo HWS.out.1 hz HWS.out.2 hne1 hne2 hxc h4 h6 hpre HC5.out.1 HC5.out.2 HG5.out.1 HG5.out.2 hgrow6 hat6 (by rw [hOx.out]; exact hown6)); have hc6 : w6.cell? ⟨ob, 0, none⟩ = some vo := (World.cell?_of_block (hgrow6.block ob (lt_of_cell (uc _)) (fun e => hne2 e.symm))).trans (uc _); have hf6 : w6.frozen? ⟨ob, 0, none⟩ = false := (World.frozen?_of_block (hgrow6.block ob (lt_of_cell (uc _)) (fun e => hne2 e.symm))).trans (vf _); obtain ⟨a9, c9, rfl, hc9⟩ := own_slice hown6; clear hown6 hgrow6 hat6)
        exact HT.out
      · have hOx : Hid (otherS x.s = ⟨x.s.kind, (!x.s.purl), x.s.a, x.s.b⟩) := by unfold Hid; rw [HO.out, hsd]; simp [hb1]
        obtain ⟨s0, s1, s2, s3⟩ := h8.st
        obtain ⟨g0, g1, g2, g3, g4, g5, g6, g7⟩ := h8.fm
        obtain ⟨fr1, fr2, fr3⟩ := h8.fr
        simp only [Nat.zero_add] at s1 s2 s3 g1 g2 g3 g4 g5 g6 g7
        gi_upto_region 11 with fail
        refine abs_world (Q := fun W => Code.wpIn _ _ _ _ _ _ W) (F := TB W xb ob w4.heap.size f vo ⟨x.s.kind, (!x.s.purl), x.s.a, x.s.b⟩) _ h8 ?_
        clear s0 s1 s2 s3 g0 g1 g2 g3 g4 g5 g6 g7 fr1 fr2 fr3 h8
        rintro W5 h9
        obtain ⟨s0, s1, s2, s3⟩ := h9.st
        obtain ⟨oc, of⟩ := h9.oc
        simp only [Nat.zero_add] at s1 s2 s3
        obtain ⟨W4, hb44, hg45⟩ := h9.grown
        have HO5 := Lib.hid ((own_below HWS.out.2 hb44 (Nat.le_refl _)).kept hg45 (Or.inr hvx))
        have HC5 := Lib.hid (show _ ∧ _ from ⟨oc, of⟩)
        have HG5 := Lib.hid (show _ ∧ _ from ⟨hb44, hg45⟩)
        have hb5z : w.heap.size ≤ W5.heap.size := Nat.le_trans HWS.out.1.size (Nat.le_trans hb44.size hg45.size)
        clear hb44 hg45 h9
        have uc := fun o => cell_al oc o
        have vf := fun o => (Below.frozen ((Below.refl W5.heap.size W5).alloc (Nat.le_refl _) o) (p := ⟨ob, 0, none⟩) (lt_of_cell oc)).trans of
        gi_wp2_with (gi_at_builtin; refine wpListIn_append_own_at _ rfl _ _ 52 rfl w.heap.size 51 i0 (.agg #[.int .u8 0, .bool false, .int .i64 0, .int .i64 0]) 4 24 Tryz.underlying52 hi hz0 hz1 hz2 rfl (by decide) vo pre.length (turnedC pre) rfl (HO5.out.alloc _) ⟨W5.heap.size, 0, none⟩ 1 1 (⟨x.s.kind, (!x.s.purl), x.s.a, x.s.b⟩ : Stc).cells rfl rfl (newsT _ _ _ _ rfl) (oneT _) (by unfold maxLen; omega) (by omega) (by simp; omega) ?_; intro v' w6 hown6 hgrow6 _ hat6; have HT := Lib.hid (turn_round rfl rfl hwo HWS.out.1 hz HWS.out.2 hne1 hne2 hxc h4 h6 hpre HC5.out.1 HC5.out.2 HG5.out.1 HG5.out.2 hgrow6 hat6 (by rw [hOx.out]; exact hown6)); have hc6 : w6.cell? ⟨ob, 0, none⟩ = some vo := (World.cell?_of_block (hgrow6.block ob (lt_of_cell (uc _)) (fun e => hne2 e.symm))).trans (uc _); have hf6 : w6.frozen? ⟨ob, 0, none⟩ = false := (World.frozen?_of_block (hgrow6.block ob (lt_of_cell (uc _)) (fun e => hne2 e.symm))).trans (vf _); obtain ⟨a9, c9, rfl, hc9⟩ := own_slice hown6; clear hown6 hgrow6 hat6)
        exact HT.out
    | false =>
      rw [hsd] at g5
      gi_upto_region 9 with fail
      refine abs_world (Q := fun W => Code.wpIn _ _ _ _ _ _ W) (F := TB W xb ob w4.heap.size f vo ⟨x.s.kind, false, x.s.a, x.s.b⟩) _ (h7.set1 h5 hxf false) ?_
      clear s0' s1 s2 s3 g0 g1 g2 g3 g4 g5 g6 g7 fr1 fr2 fr3 h7
      rintro W8 h8
      by_cases hb1 : 0 < f.b1
      · have hOx : Hid (otherS x.s = ⟨x.s.kind, false, x.s.b, x.s.a⟩) := by unfold Hid; rw [HO.out, hsd]; simp [hb1]
        obtain ⟨s0, s1, s2, s3⟩ := h8.st
        obtain ⟨g0, g1, g2, g3, g4, g5, g6, g7⟩ := h8.fm
        obtain ⟨fr1, fr2, fr3⟩ := h8.fr
        simp only [Nat.zero_add] at s1 s2 s3 g1 g2 g3 g4 g5 g6 g7
        have t2 := fun v => set_other (o := 2) (v := v) (by decide) s3
        have t2' := fun v => set_same (v := v) s2
        gi_upto_region 11 with fail
        refine abs_world (Q := fun W => Code.wpIn _ _ _ _ _ _ W) (F := TB W xb ob w4.heap.size f vo ⟨x.s.kind, false, x.s.b, x.s.a⟩) _ ((h8.set2 h5 hxf x.s.b).set3 h5 hxf x.s.a) ?_
        clear s0 s1 s2 s3 g0 g1 g2 g3 g4 g5 g6 g7 fr1 fr2 fr3 t2 t2' h8
        rintro W5 h9
        obtain ⟨s0, s1, s2, s3⟩ := h9.st
        obtain ⟨oc, of⟩ := h9.oc
        simp only [Nat.zero_add] at s1 s2 s3
        obtain ⟨W4, hb44, hg45⟩ := h9.grown
        have HO5 := Lib.hid ((own_below HWS.out.2 hb44 (Nat.le_refl _)).kept hg45 (Or.inr hvx))
        have HC5 := Lib.hid (show _ ∧ _ from ⟨oc, of⟩)
        have HG5 := Lib.hid (show _ ∧ _ from ⟨hb44, hg45⟩)
        have hb5z : w.heap.size ≤ W5.heap.size := Nat.le_trans HWS.out.1.size (Nat.le_trans hb44.size hg45.size)
        clear hb44 hg45 h9
        have uc := fun o => cell_al oc o
        have vf := fun o => (Below.frozen ((Below.refl W5.heap.size W5).alloc (Nat.le_refl _) o) (p := ⟨ob, 0, none⟩) (lt_of_cell oc)).trans of
        gi_wp2_with (gi_at_builtin; refine wpListIn_append_own_at _ rfl _ _ 52 rfl w.heap.size 51 i0 (.agg #[.int .u8 0, .bool false, .int .i64 0, .int .i64 0]) 4 24 Tryz.underlying52 hi hz0 hz1 hz2 rfl (by decide) vo pre.length (turnedC pre) rfl (HO5.out.alloc _) ⟨W5.heap.size, 0, none⟩ 1 1 (⟨x.s.kind, false, x.s.b, x.s.a⟩ : Stc).cells rfl rfl (newsT _ _ _ _ rfl) (oneT _) (by unfold maxLen; omega) (by omega) (by simp; omega) ?_; intro v' w6 hown6 hgrow6 _ hat6; have HT := Lib.hid (turn_round rfl rfl hwo HWS.out.1 hz HWS.out.2 hne1 hne2 hxc h4 h6 hpre HC5.out.1 HC5.out.2 HG5.out.1 HG5.out.2 hgrow6 hat6 (by rw [hOx.out]; exact hown6)); have hc6 : w6.cell? ⟨ob, 0, none⟩ = some vo := (World.cell?_of_block (hgrow6.block ob (lt_of_cell (uc _)) (fun e => hne2 e.symm))).trans (uc _); have hf6 : w6.frozen? ⟨ob, 0, none⟩ = false := (World.frozen?_of_block (hgrow6.block ob (lt_of_cell (uc _)) (fun e => hne2 e.symm))).trans (vf _); obtain ⟨a9, c9, rfl, hc9⟩ := own_slice hown6; clear hown6 hgrow6 hat6)
        exact HT.out
      · have hOx : Hid (otherS x.s = ⟨x.s.kind, false, x.s.a, x.s.b⟩) := by unfold Hid; rw [HO.out, hsd]; simp [hb1]
        obtain ⟨s0, s1, s2, s3⟩ := h8.st
        obtain ⟨g0, g1, g2, g3, g4, g5, g6, g7⟩ := h8.fm
        obtain ⟨fr1, fr2, fr3⟩ := h8.fr
        simp only [Nat.zero_add] at s1 s2 s3 g1 g2 g3 g4 g5 g6 g7
        gi_upto_region 11 with fail
        refine abs_world (Q := fun W => Code.wpIn _ _ _ _ _ _ W) (F := TB W xb ob w4.heap.size f vo ⟨x.s.kind, false, x.s.a, x.s.b⟩) _ h8 ?_
        clear s0 s1 s2 s3 g0 g1 g2 g3 g4 g5 g6 g7 fr1 fr2 fr3 h8
        rintro W5 h9
        obtain ⟨s0, s1, s2, s3⟩ := h9.st
        obtain ⟨oc, of⟩ := h9.oc
        simp only [Nat.zero_add] at s1 s2 s3
        obtain ⟨W4, hb44, hg45⟩ := h9.grown
        have HO5 := Lib.hid ((own_below HWS.out.2 hb44 (Nat.le_refl _)).kept hg45 (Or.inr hvx))
        have HC5 := Lib.hid (show _ ∧ _ from ⟨oc, of⟩)
        have HG5 := Lib.hid (show _ ∧ _ from ⟨hb44, hg45⟩)
        have hb5z : w.heap.size ≤ W5.heap.size := Nat.le_trans HWS.out.1.size (Nat.le_trans hb44.size hg45.size)
        clear hb44 hg45 h9
        have uc := fun o => cell_al oc o
        have vf := fun o => (Below.frozen ((Below.refl W5.heap.size W5).alloc (Nat.le_refl _) o) (p := ⟨ob, 0, none⟩) (lt_of_cell oc)).trans of
        gi_wp2_with (gi_at_builtin; refine wpListIn_append_own_at _ rfl _ _ 52 rfl w.heap.size 51 i0 (.agg #[.int .u8 0, .bool false, .int .i64 0, .int .i64 0]) 4 24 Tryz.underlying52 hi hz0 hz1 hz2 rfl (by decide) vo pre.length (turnedC pre) rfl (HO5.out.alloc _) ⟨W5.heap.size, 0, none⟩ 1 1 (⟨x.s.kind, false, x.s.a, x.s.b⟩ : Stc).cells rfl rfl (newsT _ _ _ _ rfl) (oneT _) (by unfold maxLen; omega) (by omega) (by simp; omega) ?_; intro v' w6 hown6 hgrow6 _ hat6; have HT := Lib.hid (turn_round rfl rfl hwo HWS.out.1 hz HWS.out.2 hne1 hne2 hxc h4 h6 hpre HC5.out.1 HC5.out.2 HG5.out.1 HG5.out.2 hgrow6 hat6 (by rw [hOx.out]; exact hown6)); have hc6 : w6.cell? ⟨ob, 0, none⟩ = some vo := (World.cell?_of_block (hgrow6.block ob (lt_of_cell (uc _)) (fun e => hne2 e.symm))).trans (uc _); have hf6 : w6.frozen? ⟨ob, 0, none⟩ = false := (World.frozen?_of_block (hgrow6.block ob (lt_of_cell (uc _)) (fun e => hne2 e.symm))).trans (vf _); obtain ⟨a9, c9, rfl, hc9⟩ := own_slice hown6; clear hown6 hgrow6 hat6)
        exact HT.out
  case done =>
    rintro D xs W hD rfl ⟨vo, hB, hz, ⟨hc, hf⟩, hown, hne1, hne2, hN⟩ hK
    have hlen : (backs l HW.out l.length).length = (turnedL l).length := by rw [backs_len]; simp [turnedL]
    have hmap : turnedC (backs l HW.out l.length) = ((turnedL l).map Stc.cells).flatten := by
      unfold turnedC turnedL
      have e := backs_map l HW.out l.length (Nat.le_refl _)
      rw [List.take_length] at e
      rw [show (fun x : Bk => otherS x.s) = otherS ∘ (·.s) from rfl, ← List.map_map, e, List.map_reverse]
    rw [hlen, hmap] at hown
    obtain ⟨a9, c9, rfl, hc9⟩ := own_slice hown
    have HOwn := Lib.hid hown
    have HOf : Hid (∀ g, (Value.slice a9 (turnedL l).length c9).ownBlock = some g → w.heap.size ≤ g) := fun g e => (hown.lt g e).1
    have HB := Lib.hid hB
    clear hown hlen hmap hf hne1 hne2 hN hB
    gi_wp2
    refine ⟨by simp, .inl ⟨_, _, rfl, run_takeDeferred hK, ?_⟩⟩
    have hk : (W.putObj D (.deferred none)).ownsRow w.heap.size 51 4 (.slice a9 (turnedL l).length c9) (turnedL l).length ((turnedL l).map Stc.cells).flatten := HOwn.out.kept (grownBy_putObj' W D _) (Or.inr fun e => by
      rcases HOwn.out.2 with ⟨hv, _⟩ | ⟨g, cap, cur, hv, _, hh, _⟩
      · rw [hv] at e; cases e
      · rw [hv] at e; cases e
        rw [hh] at hK; cases hK)
    exact ⟨_, results_tmp2 rfl _ _ _, a9, c9, rfl, SlS.of_own (cells4 _) (by rw [List.length_map]) hk, HB.out.trans (belowK_b (w := w) (Nat.le_refl _) W D _ _ (by omega) hK rfl rfl), fun _ ad had => HOf.out ad.block (by rw [had]; rfl)⟩
  case stop =>
    rintro D c' pre W _ _ h _
    exact h.elim
end Go.Proofs.YtbnddpknejgmhaaGreat
