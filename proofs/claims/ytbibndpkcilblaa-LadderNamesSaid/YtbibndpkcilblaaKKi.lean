/- Layer 27, the program: Kids. -/
import Derived.Test.YtbibndpkcilblaaKMo2
namespace Go.Proofs.Ytbibndpkcilblaa
open Go.RowKit Go.Shelf Go.Sort
set_option maxRecDepth 100000

theorem kpar_few {lp : List Lp} {bound : List Int} {K lv : Nat} (h : GrN lp bound K lv) {j : Nat} (hj : j < lp.length) : (parN lp j).length ≤ lp.length := by
  obtain ⟨h1, h2⟩ := h.par j hj
  refine keys_few (lp := lp) (F := fun i => decide (i < lp.length)) (fun i hi => decide_eq_false (by omega)) _ h1 fun k hk => ?_
  obtain ⟨q, rfl, hq, -⟩ := h2 k hk
  unfold gO
  rw [if_pos ⟨by omega, by rw [Int.toNat_natCast]; exact decide_eq_true (by omega)⟩]; rfl
/-- The kids of a loop, as marks. -/
def kidF (lp : List Lp) (i : Nat) : Nat → Bool := fun k => (parN lp k).contains (i : Int)
theorem kidF_iff {lp : List Lp} {i k : Nat} (hk : k < lp.length) : kidF lp i k = true ↔ k ∈ kidsN lp i := by
  unfold kidF
  rw [List.contains_iff_mem, mem_kids]
  exact ⟨fun h => ⟨hk, h⟩, fun h => h.2⟩
set_option maxHeartbeats 8000000 in
theorem Kids_ok (start : Int) (A : Option Addr) (c : Nat) (p : List RowC) (hw : RowsWf p) (h12 : p.length ≤ 12) (he : chartE start p = 0) (i : Nat) (hi : i < (workX start p).lp.length) (w : World) (hs : SlC w w.heap.size A p) :
    Calls Try.prog 22 #[.agg #[.int .i64 start, .slice A p.length c], .int .i64 (i : Int)] w fun e w' => BoPost 0 (listN (workX start p).lp.length (kidF (workX start p).lp i)) w e w' := by
  have hF := of_front start A c p hw (fun _ => h12) w hs
  have HG := Lib.hid (chart_grd he h12)
  obtain ⟨t, ht⟩ : ∃ t, t = workX start p := ⟨_, rfl⟩
  have c0 := hF.cb0
  have c1 := hF.cb1
  have hC := hF.call
  rw [← ht, he] at hC
  have HC := Lib.hid hC
  rw [← ht] at hi HG ⊢
  have HF := Lib.hid hF
  have HI := Lib.hid hi
  clear hF hs hw hC he ht hi
  go_enter Try.func22, Try.ntmps22
  go_upto_region 2 with (go_at_call 47; refine HC.out.mono ?_; rintro e w2 ⟨vL, vB, vC, vR, vs, rfl, hv, ho, hb⟩; obtain ⟨va, wa, rfl⟩ := pxL_form ho; obtain ⟨vb, wb, rfl⟩ := pxJ_form ho.tail; obtain ⟨vc, wc, rfl⟩ := pxP_form ho.tail.tail; obtain ⟨vd, wd, rfl⟩ := pxJ_form ho.tail.tail.tail; have HB := Lib.hid (HF.out.behind hv ho hb); clear hv ho hb)
  obtain ⟨qb, hqb⟩ : ∃ qb, qb = w2.heap.size := ⟨_, rfl⟩
  obtain ⟨M, hM⟩ : ∃ M, M = t.lp.length := ⟨_, rfl⟩
  refine abs_world (Q := fun W => Code.wp _ _ _ _ W) (F := fun W => SlL W W.heap.size va t.lp ∧ W.cell? ⟨qb, 0, none⟩ = some (.slice va M wa) ∧ Below w.heap.size w W) _ ?_ ?_
  · have h := HB.out
    rw [hqb, hM]
    exact ⟨slL_of h.own rfl h.vl (fun o ho => h.own.all o (by simp [ho])), h.cells.1, h.bel⟩
  rw [← hqb, ← hM]
  have HMe := Lib.hid hM
  clear hqb HB HC c0 c1 hM
  clear w2
  rintro W ⟨hsl, y0, hbl⟩
  have hMi := HI.out
  rw [← HMe.out] at hMi
  have z1 : decide ((i : Int) < 0) = false := decide_eq_false (by omega)
  have z2 : decide ((M : Int) ≤ (i : Int)) = false := decide_eq_false (by omega)
  have z3 : decide ((i : Int) ≥ (M : Int)) = false := decide_eq_false (by omega)
  have z4 : decide (M ≤ i) = false := decide_eq_false (by omega)
  have hMl : M ≤ 2600 := by have := HG.out.ll; have := HMe.out; omega
  have HSl : Hid (∀ W', Below W.heap.size W W' → SlL W' W'.heap.size va t.lp) := fun W' hb => (hsl.below hb).more hb.size
  have HBl := Lib.hid hbl
  have HX0 : Hid (Owns W W.heap.size [pxJ (.slice none 0 0) (listN 0 (kidF t.lp i))] ∧ Below W.heap.size W W) := ⟨Owns.nil.none 3 1, Below.refl _ _⟩
  clear hsl hbl
  go_wp2
  clear y0 z1 z2 z3 z4
  go_loopw [8, 31] (fun s8 s31 wr => ∃ (j : Nat) (A : Option Addr) (q c : Nat), j ≤ M ∧ s31 = .int .i64 (j : Int) ∧ s8 = .slice A q c ∧ Hid (q = (listN j (kidF t.lp i)).length) ∧ Hid (Owns wr W.heap.size [pxJ (.slice A q c) (listN j (kidF t.lp i))] ∧ Below W.heap.size W wr)) (fun _ s31 _ => M - (intOf s31).toNat)
  case atStart => exact ⟨0, none, 0, 0, Nat.zero_le _, rfl, rfl, rfl, HX0.out⟩
  case round =>
    obtain ⟨j, A2, q, c2, hj, rfl, rfl, Hq, HX⟩ := hrel
    clear HX0
    by_cases hlt : j < M
    case neg =>
      have hjm : j = M := by omega
      have hX := HX.out
      rw [hjm, HMe.out] at hX
      have HQ : Hid (BoPost 0 (listN t.lp.length (kidF t.lp i)) w (.returned (.tuple #[.slice A2 q c2, .int .i64 0])) wr) := ⟨_, rfl, own_more hX.1.head HBl.out.size, HBl.out.trans (hX.2.mono HBl.out.size)⟩
      subst hjm
      have hlt2 : ¬ (j : Int) < (j : Int) := by omega
      clear hX HX Hq
      go_wp2
      go_ret2
      exact HQ.out
    case pos =>
      have hjt : j < t.lp.length := by have := HMe.out; omega
      obtain ⟨b, off, l, A', C', hva, hB, hl, q0, q1, q2, q3, hp⟩ := (HSl.out wr HX.out.2).at_ hjt
      subst hva
      have hpl : parN t.lp j = l.par := by unfold parN; rw [List.getD_eq_getElem?_getD, hl]; rfl
      have hpn : l.par.length ≤ 2600 := by have h1 := kpar_few (grd_n HG.out.g) hjt; rw [hpl] at h1; have := HG.out.ll; omega
      have hal := al_t wr (lpB l (.slice A' l.par.length C'))
      have hc := pcontains_any A' C' l.par (i : Int) (wr.alloc (lpB l (.slice A' l.par.length C'))) ((hp.below hal).more hal.size) (by omega)
      have HZ : Hid (kidF t.lp i j = l.par.contains (i : Int)) := by show _ = _; unfold kidF; rw [hpl]
      have HX2 : Hid (Owns (wr.alloc (lpB l (.slice A' l.par.length C'))) W.heap.size [pxJ (.slice A2 q c2) (listN j (kidF t.lp i))] ∧ Below W.heap.size W (wr.alloc (lpB l (.slice A' l.par.length C')))) := ⟨HX.out.1.to hal, HX.out.2.trans (hal.mono HX.out.2.size)⟩
      obtain ⟨z, hz⟩ : ∃ z, z = l.par.contains (i : Int) := ⟨_, rfl⟩
      rw [← hz] at hc HZ
      have HC := Lib.hid hc
      have hlt2 : (j : Int) < (M : Int) := by omega
      have hj0 : (0 : Int) ≤ (j : Int) := by omega
      have HJ : Hid (j + 1 ≤ M ∧ j < M) := ⟨hlt, hlt⟩
      clear hc hz hpl hl hB hp hal HX hjt
      cases z with
      | false =>
        have HQ : Hid (q = (listN (j + 1) (kidF t.lp i)).length ∧ (Owns (wr.alloc (lpB l (.slice A' l.par.length C'))) W.heap.size [pxJ (.slice A2 q c2) (listN (j + 1) (kidF t.lp i))] ∧ Below W.heap.size W (wr.alloc (lpB l (.slice A' l.par.length C'))))) := by
          rw [listN_no HZ.out]
          exact ⟨Hq.out, HX2.out⟩
        clear HX2 Hq
        go_wp2_with (go_at_call 48; refine HC.out.mono ?_; rintro e w' ⟨rfl, rfl⟩)
        go_roundw
        case rel => exact ⟨j + 1, _, _, _, HJ.out.1, by go_num, rfl, HQ.out.1, HQ.out.2⟩
        case measure => simp [intOf]; have := HJ.out; omega
      | true =>
        obtain ⟨A3, c3, w8, hr9, h8, hb8⟩ := pxJ_app (a := A2) (c := c2) (l := listN j (kidF t.lp i)) (by rw [← Hq.out]; exact HX2.out.1) HX2.out.2.size (by have := listN_len j (kidF t.lp i); omega) (j : Int)
        rw [← Hq.out] at hr9 h8
        simp only [World.size_alloc] at hr9
        have HQ : Hid (q + 1 = (listN (j + 1) (kidF t.lp i)).length ∧ (Owns w8 W.heap.size [pxJ (.slice A3 (q + 1) c3) (listN (j + 1) (kidF t.lp i))] ∧ Below W.heap.size W w8)) := by
          rw [listN_yes HZ.out]
          exact ⟨by rw [List.length_append, ← Hq.out]; rfl, h8, HX2.out.2.trans hb8⟩
        clear HX2 Hq h8 hb8
        go_wp2_with (first | (go_at_call 48; refine HC.out.mono ?_; rintro e w' ⟨rfl, rfl⟩) | (at_builtin; refine wpList_append_run _ rfl _ _ _ _ rfl _ _ (by rfl) (by rfl) hr9 ?_))
        go_roundw
        case rel => exact ⟨j + 1, _, _, _, HJ.out.1, by go_num, rfl, HQ.out.1, HQ.out.2⟩
        case measure => simp [intOf]; have := HJ.out; omega
end Go.Proofs.Ytbibndpkcilblaa
