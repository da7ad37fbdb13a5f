/- Layer 28, the program: Depth. -/
import Derived.Test.YtbibndpkcilblaaKDe
namespace Go.Proofs.Ytbibndpkcilblaa
open Go.RowKit Go.Shelf Go.Sort
set_option maxRecDepth 100000

def DpPost (x v : Int) (w : World) (e : Ending) (w' : World) : Prop := e = .returned (.tuple #[.int .i64 v, .int .i64 x]) ∧ Below w.heap.size w w'
/-- What Depth answers: the error, the depth. -/
def depS (start : Int) (p : List RowC) (i : Int) : Int × Int :=
  if chartE start p ≠ 0 then (chartE start p, 0) else if i < ((workX start p).next : Int) ∨ ((workX start p).lp.length : Int) ≤ i then (2, 0) else (0, depZ (workX start p).lp i.toNat)
set_option maxHeartbeats 2000000 in
theorem Depth_err (start : Int) (A : Option Addr) (c : Nat) (p : List RowC) (hw : RowsWf p) (he : chartE start p ≠ 0) (i : Int) (w : World) (hs : SlC w w.heap.size A p) :
    Calls Try.prog 25 #[.agg #[.int .i64 start, .slice A p.length c], .int .i64 i] w fun e w' => DpPost (chartE start p) 0 w e w' := by
  have hF := lf_front start A c p hw (fun h => absurd h he) w hs
  have c0 := hF.cb0
  have c1 := hF.cb1
  have HC := Lib.hid (hF.err he)
  have HB0 := Lib.hid hF.bel
  obtain ⟨x, hx⟩ : ∃ x, x = chartE start p := ⟨_, rfl⟩
  rw [← hx] at HC he ⊢
  have hne : (x != 0) = true := by simp [he]
  clear hF hs hw hx he
  go_enter Try.func25, Try.ntmps25
  go_wp2_with (go_at_call 30; refine HC.out.mono ?_; rintro e w2 ⟨rfl, hb⟩; have HB := Lib.hid (HB0.out.trans ((hb.trans ((al_t w2 (.cells #[nilV, nilV, nilV, .int .i64 0] 63)).mono hb.size)).mono HB0.out.size)); clear hb)
  go_ret2
  exact ⟨rfl, HB.out⟩
set_option maxHeartbeats 4000000 in
theorem Depth_arg (start : Int) (A : Option Addr) (c : Nat) (p : List RowC) (hw : RowsWf p) (h12 : p.length ≤ 12) (he : chartE start p = 0) (i : Int) (hi : i < ((workX start p).next : Int) ∨ ((workX start p).lp.length : Int) ≤ i) (w : World) (hs : SlC w w.heap.size A p) :
    Calls Try.prog 25 #[.agg #[.int .i64 start, .slice A p.length c], .int .i64 i] w fun e w' => DpPost 2 0 w e w' := by
  have hF := lf_front start A c p hw (fun _ => h12) w hs
  have c0 := hF.cb0
  have c1 := hF.cb1
  have hC := hF.ok he
  have HF := Lib.hid hF
  obtain ⟨t, ht⟩ : ∃ t, t = workX start p := ⟨_, rfl⟩
  rw [← ht] at hC hi
  have HC := Lib.hid hC
  have HI := Lib.hid hi
  clear hF hs hw he hC ht hi
  go_enter Try.func25, Try.ntmps25
  go_upto_region 2 with (go_at_call 30; refine HC.out.mono ?_; rintro e w2 ⟨a, ca, k, kc, b, bc, rfl, hp, hb⟩; have HB := Lib.hid (HF.out.behind (ca := ca) (kc := kc) (bc := bc) hp hb); clear hp hb)
  obtain ⟨qb, hqb⟩ : ∃ qb, qb = w2.heap.size := ⟨_, rfl⟩
  refine abs_world (Q := fun W => Code.wp _ _ _ _ W) (F := fun W => LdB qb a k b ca kc bc t w W) _ (by rw [hqb]; exact HB.out) ?_
  rw [← hqb]
  clear hqb HB HC c0 c1
  clear w2
  rintro W h
  have y0 := h.c0
  have y3 := h.c3
  have HB2 := Lib.hid h.bel
  clear h
  obtain ⟨lv, hlv⟩ : ∃ lv, lv = t.next := ⟨_, rfl⟩
  rw [← hlv] at y3 HI ⊢
  clear hlv
  obtain ⟨M, hM⟩ : ∃ M, M = t.lp.length := ⟨_, rfl⟩
  rw [← hM] at y0 HI ⊢
  by_cases h0 : i < (lv : Int)
  · have z1 : decide (i < (lv : Int)) = true := decide_eq_true h0
    go_wp2
    go_ret2
    exact ⟨rfl, HB2.out⟩
  · have hMi : (M : Int) ≤ i := HI.out.resolve_left h0
    have z1 : decide (i < (lv : Int)) = false := decide_eq_false h0
    have z2 : decide ((M : Int) ≤ i) = true := decide_eq_true hMi
    have z3 : decide (i ≥ (M : Int)) = true := decide_eq_true hMi
    go_wp2
    go_ret2
    exact ⟨rfl, HB2.out⟩
set_option maxHeartbeats 4000000 in
theorem Depth_ok (start : Int) (A : Option Addr) (c : Nat) (p : List RowC) (hw : RowsWf p) (h12 : p.length ≤ 12) (he : chartE start p = 0) (i : Nat) (hi : i < (workX start p).lp.length) (hlv : (workX start p).next ≤ i) (w : World) (hs : SlC w w.heap.size A p) :
    Calls Try.prog 25 #[.agg #[.int .i64 start, .slice A p.length c], .int .i64 (i : Int)] w fun e w' => DpPost 0 (depZ (workX start p).lp i) w e w' := by
  have hF := lf_front start A c p hw (fun _ => h12) w hs
  have c0 := hF.cb0
  have c1 := hF.cb1
  have hC := hF.ok he
  have HG := Lib.hid (chart_grd he h12)
  have H12 := Lib.hid h12
  have HF := Lib.hid hF
  obtain ⟨t, ht⟩ : ∃ t, t = workX start p := ⟨_, rfl⟩
  rw [← ht] at hC hi HG hlv ⊢
  have HLv := Lib.hid hlv
  have HC := Lib.hid hC
  have HI := Lib.hid hi
  obtain ⟨M, hM⟩ : ∃ M, M = t.lp.length := ⟨_, rfl⟩
  have HMe := Lib.hid hM
  clear hF hs hw he hC ht hi hM hlv
  go_enter Try.func25, Try.ntmps25
  go_upto_region 2 with (go_at_call 30; refine HC.out.mono ?_; rintro e w2 ⟨a, ca, k, kc, b, bc, rfl, hp, hb⟩; have HB := Lib.hid (HF.out.behind (ca := ca) (kc := kc) (bc := bc) hp hb); clear hp hb)
  obtain ⟨qb, hqb⟩ : ∃ qb, qb = w2.heap.size := ⟨_, rfl⟩
  refine abs_world (Q := fun W => Code.wp _ _ _ _ W) (F := fun W => LdB qb a k b ca kc bc t w W) _ (by rw [hqb]; exact HB.out) ?_
  rw [← hqb]
  clear hqb HB HC c0 c1
  clear w2
  rintro W h
  have y0 := h.c0
  have y1 := h.c1
  have y2 := h.c2
  have y3 := h.c3
  have hMi := HI.out
  rw [← HMe.out] at y0 y1 hMi ⊢
  have hlvi := HLv.out
  have z1 : decide ((i : Int) < (t.next : Int)) = false := decide_eq_false (by omega)
  have z1' : decide (i < t.next) = false := decide_eq_false (by omega)
  have z2 : decide ((M : Int) ≤ (i : Int)) = false := decide_eq_false (by omega)
  have z3 : decide ((i : Int) ≥ (M : Int)) = false := decide_eq_false (by omega)
  have z4 : decide (M ≤ i) = false := decide_eq_false (by omega)
  have HL := Lib.hid h
  have HH := Lib.hid (pdepth_any t p.length (grd_n HG.out.g) HG.out.ll H12.out a k b ca kc bc i HI.out HLv.out W h.pc)
  rw [← HMe.out] at HH
  clear h
  go_wp2_with fail
  refine HH.out.mono ?_
  rintro e w3 ⟨rfl, hb3⟩
  have HQ := Lib.hid (HL.out.bel.trans (hb3.mono HL.out.bel.size))
  clear hb3 HH
  go_wp2
  go_ret2
  exact ⟨rfl, HQ.out⟩
/-- Depth for every chart and number. -/
theorem Depth_x (start : Int) (A : Option Addr) (c : Nat) (p : List RowC) (hw : RowsWf p) (h12 : chartE start p = 0 → p.length ≤ 12) (i : Int) (w : World) (hs : SlC w w.heap.size A p) :
    Calls Try.prog 25 #[.agg #[.int .i64 start, .slice A p.length c], .int .i64 i] w fun e w' => DpPost (depS start p i).1 (depS start p i).2 w e w' := by
  by_cases he : chartE start p = 0
  · unfold depS
    rw [if_neg (by rw [he]; decide)]
    by_cases hi : i < ((workX start p).next : Int) ∨ ((workX start p).lp.length : Int) ≤ i
    · rw [if_pos hi]
      exact Depth_arg start A c p hw (h12 he) he i hi w hs
    · rw [if_neg hi]
      obtain ⟨n, rfl⟩ : ∃ n : Nat, i = (n : Int) := ⟨i.toNat, by omega⟩
      exact Depth_ok start A c p hw (h12 he) he n (by omega) (by omega) w hs
  · unfold depS
    rw [if_pos he]
    exact Depth_err start A c p hw he i w hs
end Go.Proofs.Ytbibndpkcilblaa
