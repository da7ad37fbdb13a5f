/- Layer 25: a stitch; within, Check, loops. -/
import Derived.Test.YtflpikickbellaaKSt1
import Derived.Test.YtflpikickbellaaKG1
import Derived.Deep.RegionHeld3
namespace Go.Proofs.Ytflpikickbellaa
open Go.RowKit
set_option maxRecDepth 100000

/-- A stitch. -/
structure Stc where
  kind : Int
  purl : Bool
  a : Int
  b : Int
@[go_sem] def Stc.val (s : Stc) : Value := .agg #[.int .u8 s.kind, .bool s.purl, .int .i64 s.a, .int .i64 s.b]
def Stc.cells (s : Stc) : List Value := [.int .u8 s.kind, .bool s.purl, .int .i64 s.a, .int .i64 s.b]
theorem Stc.cells_length (s : Stc) : s.cells.length = 4 := rfl
def Stc.wf (s : Stc) : Prop := 0 ≤ s.kind ∧ s.kind ≤ 255
def Stc.ok (s : Stc) : Bool := decide (1 ≤ s.kind ∧ s.kind ≤ 10) && (decide ((formI s.kind).a0 ≤ s.a ∧ s.a ≤ (formI s.kind).a1) && (decide ((formI s.kind).b0 ≤ s.b ∧ s.b ≤ (formI s.kind).b1) && !(s.purl && !(formI s.kind).sided)))
def Stc.err (s : Stc) : Int := if s.ok then 0 else 8

theorem within_any (n e0 e1 : Int) (w : World) : Calls Try.prog 111 #[.int .i64 n, .agg #[.int .i64 e0, .int .i64 e1]] w fun e w' => e = .returned (.bool (decide (e0 ≤ n ∧ n ≤ e1))) ∧ Below w.heap.size w w' := by
  have hb := Lib.hid (fun o => (Below.refl w.heap.size w).alloc (Nat.le_refl _) o)
  go_enter Try.func111, Try.ntmps111
  go_wp2
  all_goals go_ret
  all_goals exact ⟨ret_bool (by rw [Bool.eq_iff_iff]; simp [*]; try omega), hb.out _⟩

/-- The stitch lies at an address. -/
def StcAt (w : World) (b o : Nat) (s : Stc) : Prop := w.cell? ⟨b, o, none⟩ = some (.int .u8 s.kind) ∧ w.cell? ⟨b, o + 1, none⟩ = some (.bool s.purl) ∧ w.cell? ⟨b, o + 2, none⟩ = some (.int .i64 s.a) ∧ w.cell? ⟨b, o + 3, none⟩ = some (.int .i64 s.b)
theorem StcAt.below {w w' : World} {B b o : Nat} {s : Stc} (h : StcAt w b o s) (hb : Below B w w') (hB : b < B) : StcAt w' b o s := by
  unfold StcAt
  simp only [bcell hb hB]
  exact h
theorem FormAt.below {w w' : World} {B b o : Nat} {f : Form} (h : FormAt w b o f) (hb : Below B w w') (hB : b < B) : FormAt w' b o f := by
  unfold FormAt
  simp only [bcell hb hB]
  exact h
theorem StcAt.lt {w : World} {b o : Nat} {s : Stc} (h : StcAt w b o s) : b < w.heap.size := lt_of_cell h.1
theorem FormAt.lt {w : World} {b o : Nat} {f : Form} (h : FormAt w b o f) : b < w.heap.size := lt_of_cell h.1
def RetE (v : Int) (w : World) (e : Ending) (w' : World) : Prop := e = .returned (.int .i64 v) ∧ Below w.heap.size w w'
theorem RetE.mk' {v x : Int} {w w' : World} (h : v = x) (hb : Below w.heap.size w w') : RetE v w (.returned (.int .i64 x)) w' := ⟨by rw [h], hb⟩
set_option maxHeartbeats 2000000 in
theorem scheck_any (s : Stc) (hs : s.wf) (w : World) : Calls Try.prog 86 #[s.val] w fun e w' => RetE s.err w e w' := by
  have HF := forms_any s.kind hs
  have HE : Hid (s.err = if decide (1 ≤ s.kind ∧ s.kind ≤ 10) && (decide ((formI s.kind).a0 ≤ s.a ∧ s.a ≤ (formI s.kind).a1) && (decide ((formI s.kind).b0 ≤ s.b ∧ s.b ≤ (formI s.kind).b1) && !(s.purl && !(formI s.kind).sided))) then 0 else 8) := rfl
  generalize s.err = er at HE ⊢
  generalize formI s.kind = f at HF HE
  have hwa := Lib.hid (fun w => within_any s.a f.a0 f.a1 w)
  have hwb := Lib.hid (fun w => within_any s.b f.b0 f.b1 w)
  generalize decide (f.a0 ≤ s.a ∧ s.a ≤ f.a1) = qa at HE hwa
  generalize decide (f.b0 ≤ s.b ∧ s.b ≤ f.b1) = qb at HE hwb
  generalize decide (1 ≤ s.kind ∧ s.kind ≤ 10) = qk at HE HF
  have HF2 := Lib.hid (show ∀ w, Calls Try.prog 87 #[.int .u8 s.kind] w fun e w' => e = .returned (.tuple #[.agg #[.string f.letter, .int .i64 f.a0, .int .i64 f.a1, .int .i64 f.b0, .int .i64 f.b1, .bool f.sided, .int .i64 f.uses, .int .i64 f.made], .bool qk]) ∧ Below w.heap.size w w' from HF)
  clear HF
  have HE2 := Lib.hid HE.out
  clear HE
  go_enter Try.func86, Try.ntmps86
  go_upto_region 2 with (go_at_call 87; refine (HF2.out _).mono ?_; rintro e w1 ⟨rfl, hb1⟩)
  refine abs_world (Q := fun W => Code.wp _ _ _ _ W) (F := fun W => Below w.heap.size w W ∧ StcAt W w.heap.size 0 s ∧ FormAt W w1.heap.size 0 f) _ ?_ ?_
  · have hs1 : StcAt w1 w.heap.size 0 s := by
      have h0 : StcAt (w.alloc (.cells #[.int .u8 s.kind, .bool s.purl, .int .i64 s.a, .int .i64 s.b] 66)) w.heap.size 0 s := ⟨cell_new rfl rfl rfl, cell_new rfl rfl rfl, cell_new rfl rfl rfl, cell_new rfl rfl rfl⟩
      exact h0.below (B := w.heap.size + 1) (hb1.mono (by simp)) (by omega)
    have hsz : w.heap.size + 1 ≤ w1.heap.size := by have := hb1.size; simpa using this
    have hbw1 : Below w.heap.size w w1 := ((Below.refl _ w).alloc (Nat.le_refl _) _).trans (hb1.mono (by simp))
    refine ⟨hbw1.alloc (by omega) _, hs1.below (B := w1.heap.size) ((Below.refl _ _).alloc (Nat.le_refl _) _) (by omega), ?_⟩
    exact ⟨cell_new rfl rfl rfl, cell_new rfl rfl rfl, cell_new rfl rfl rfl, cell_new rfl rfl rfl, cell_new rfl rfl rfl, cell_new rfl rfl rfl, cell_new rfl rfl rfl, cell_new rfl rfl rfl⟩
  rintro W ⟨hbW, hS, hFm⟩
  have HK := Lib.hid (fun w2 (hb : Below W.heap.size W w2) => (⟨hS.below hb hS.lt, hFm.below hb hFm.lt⟩ : StcAt w2 w.heap.size 0 s ∧ FormAt w2 w1.heap.size 0 f))
  obtain ⟨s0, s1, s2, s3⟩ := hS
  obtain ⟨f0, f1, f2, f3, f4, f5, f6, f7⟩ := hFm
  simp only [Nat.zero_add] at s1 s2 s3 f1 f2 f3 f4 f5 f6 f7
  have HB := Lib.hid hbW
  clear hbW HF2
  cases qk with
  | false =>
    have HR : Hid (er = 8) := HE2.out
    clear HE2 HK
    go_wp2
    go_ret
    exact RetE.mk' HR.out HB.out
  | true =>
    cases qa with
    | false =>
      have HR : Hid (er = 8) := HE2.out
      clear HE2
      go_wp2_with (go_at_call_of 111 (Value.int IntKind.i64 s.a); refine (hwa.out _).mono ?_; rintro e w2 ⟨rfl, hb2⟩)
      go_ret
      exact RetE.mk' HR.out (HB.out.trans (hb2.mono HB.out.size))
    | true =>
      cases qb with
      | false =>
        have HR : Hid (er = 8) := HE2.out
        clear HE2
        go_wp2_with (first
          | (go_at_call_of 111 (Value.int IntKind.i64 s.a); refine (hwa.out _).mono ?_; rintro e w2 ⟨rfl, hb2⟩
             obtain ⟨⟨t0, t1, t2, t3⟩, g0, g1, g2, g3, g4, g5, g6, g7⟩ := HK.out _ hb2
             simp only [Nat.zero_add] at t1 t2 t3 g1 g2 g3 g4 g5 g6 g7)
          | (go_at_call_of 111 (Value.int IntKind.i64 s.b); refine (hwb.out _).mono ?_; rintro e w3 ⟨rfl, hb3⟩))
        go_ret
        exact RetE.mk' HR.out (HB.out.trans ((hb2.trans (hb3.mono hb2.size)).mono HB.out.size))
      | true =>
        obtain ⟨pl, hpl⟩ : ∃ p, p = s.purl := ⟨_, rfl⟩
        obtain ⟨sd, hsd⟩ : ∃ p, p = f.sided := ⟨_, rfl⟩
        rw [← hpl] at s1
        rw [← hpl, ← hsd] at HE2
        have HK2 := Lib.hid (fun (w2 : World) (hb : Below W.heap.size W w2) => (show w2.cell? ⟨w.heap.size, 1, none⟩ = some (.bool pl) ∧ w2.cell? ⟨w1.heap.size, 5, none⟩ = some (.bool sd) ∧ w2.cell? ⟨w.heap.size, 3, none⟩ = some (.int .i64 s.b) ∧ w2.cell? ⟨w1.heap.size, 3, none⟩ = some (.int .i64 f.b0) ∧ w2.cell? ⟨w1.heap.size, 4, none⟩ = some (.int .i64 f.b1) by
          obtain ⟨⟨v0, v1, v2, v3⟩, k0, k1, k2, k3, k4, k5, k6, k7⟩ := HK.out w2 hb
          simp only [Nat.zero_add] at v1 v2 v3 k1 k2 k3 k4 k5 k6 k7
          exact ⟨by rw [v1, hpl], by rw [k5, hsd], v3, k3, k4⟩))
        clear hpl hsd HK
        cases pl <;> cases sd
        all_goals
          go_wp2_with (first
            | (go_at_call_of 111 (Value.int IntKind.i64 s.a); refine (hwa.out _).mono ?_; rintro e w2 ⟨rfl, hb2⟩
               obtain ⟨t0, t1, t2, t3, t4⟩ := HK2.out _ hb2)
            | (go_at_call_of 111 (Value.int IntKind.i64 s.b); refine (hwb.out _).mono ?_; rintro e w3 ⟨rfl, hb3⟩
               obtain ⟨v0, v1, v2, v3, v4⟩ := HK2.out _ (hb2.trans (hb3.mono hb2.size))))
          go_ret
          exact RetE.mk' HE2.out (HB.out.trans ((hb2.trans (hb3.mono hb2.size)).mono HB.out.size))

/-- How many loops a number of a form stands for. -/
def loopsI (s : Stc) (how : Int) : Int := if how = 1 then 1 else if how = 2 then s.a else if how = 3 then s.a + s.b else 0
theorem loops_any (s : Stc) (how : Int) (hh : 0 ≤ how ∧ how ≤ 3) (ha : 0 ≤ s.a ∧ s.a ≤ 1000) (hb : 0 ≤ s.b ∧ s.b ≤ 1000) (w : World) : Calls Try.prog 88 #[s.val, .int .i64 how] w fun e w' => RetE (loopsI s how) w e w' := by
  have hbl := Lib.hid (fun o => (Below.refl w.heap.size w).alloc (Nat.le_refl _) o)
  have hw : IntKind.i64.wrap (s.a + s.b) = s.a + s.b := IntWalk.i64_in _ (by omega)
  have hi0 : ∀ (x y : Int) (W : World), (Instr.index 160 (.agg #[.int .i64 0, .int .i64 1, .int .i64 x, .int .i64 y]) (.int .i64 0)).run Try.prog W = .ok (.int .i64 0) W := fun x y W => by kernel_rfl
  have hi1 : ∀ (x y : Int) (W : World), (Instr.index 160 (.agg #[.int .i64 0, .int .i64 1, .int .i64 x, .int .i64 y]) (.int .i64 1)).run Try.prog W = .ok (.int .i64 1) W := fun x y W => by kernel_rfl
  have hi2 : ∀ (x y : Int) (W : World), (Instr.index 160 (.agg #[.int .i64 0, .int .i64 1, .int .i64 x, .int .i64 y]) (.int .i64 2)).run Try.prog W = .ok (.int .i64 x) W := fun x y W => by kernel_rfl
  have hi3 : ∀ (x y : Int) (W : World), (Instr.index 160 (.agg #[.int .i64 0, .int .i64 1, .int .i64 x, .int .i64 y]) (.int .i64 3)).run Try.prog W = .ok (.int .i64 y) W := fun x y W => by kernel_rfl
  rcases (by omega : how = 0 ∨ how = 1 ∨ how = 2 ∨ how = 3) with rfl | rfl | rfl | rfl
  all_goals
    go_enter Try.func88, Try.ntmps88
    go_wp2
    go_ret
    refine RetE.mk' ?_ (hbl.out _)
    simp [loopsI]
end Go.Proofs.Ytflpikickbellaa
