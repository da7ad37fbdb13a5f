/- Layer 26: counted goes over the counts. Layer 26: Check of a chart. Layer 31: plain charts. -/
import Derived.Test.YtbnddpknejgmhaaGreatKP17
namespace Go.Proofs.YtbnddpknejgmhaaGreat
open Go.RowKit Go.Shelf
attribute [local go_sem] Oper.semAt_some
set_option maxRecDepth 100000

theorem abides_step' {β : Type} {B : Nat} {J : β → World → Prop} (h : AbidesFrom B J) {s : β} {W W' : World} (hs : J s W) (hb : Below W.heap.size W W') : J s W' :=
  h s W W' none hs (grownN_of_below hb (Nat.le_refl _)) (fun r e => by cases e)
set_option maxHeartbeats 4000000 in
theorem counted_stops (n : Nat) (hn : 1 ≤ n) (Bs n₀ B0 : Nat) (start : Int) (A : Option Addr) (c : Nat) (p : List RowC) (hw : RowsWf p) (hpl : p.length ≤ 100) (w : World) (hBs : Bs < w.heap.size) (hB0 : B0 < w.heap.size) (hn0 : n₀ ≤ B0)
    (hc0 : w.cell? ⟨Bs, 0, none⟩ = some (.int .i64 start)) (hc1 : w.cell? ⟨Bs, 1, none⟩ = some (.slice A p.length c)) (hs : SlC w n₀ A p) :
    SeqStopsK Fence.wide n Tryz.prog 76 #[.pointer (some ⟨Bs, 0, none⟩)] encC (KC B0) (fun xs => xs = itemsF 0 start p) (fun xs => xs <+: itemsF 0 start p) (itemsF 0 start p).length w := by
  intro l J Jx W hW hJ hJx hY h0
  have hcW0 := (hW.cell (p := ⟨Bs, 0, none⟩) hBs).trans hc0
  have hcW1 := (hW.cell (p := ⟨Bs, 1, none⟩) hBs).trans hc1
  have hsW : SlC W n₀ A p := hs.below (hW.mono (by omega))
  have hzW : B0 < W.heap.size := by have := hW.size; omega
  clear hc0 hc1 hs hW hBs hB0
  have HY := Lib.hid hY
  have HJ := Lib.hid hJ
  have HW := Lib.hid hw
  clear hY hJ hJx hw
  refine callsIn_of_wp Tryz.func76 rfl trivial ?_ rfl
  simp only [Tryz.ntmps76, List.size_toArray, List.length_cons, List.length_nil, Nat.reduceAdd, Nat.reduceSub, Array.replicate_succ, Array.replicate_zero, List.push_toArray, List.append_toArray, List.nil_append, List.cons_append]
  gi_wp2
  gi_loopw [3, 14] (fun s3 i wr => ∃ (k : Nat) (m : Int) (pre : List Cnt), k ≤ p.length ∧ i = .int .i64 k ∧ s3 = .int .i64 m ∧ J pre wr ∧ Hid (itemsF 0 start p = pre ++ itemsF k m (p.drop k)) ∧ SlC wr n₀ A p ∧ W.heap.size ≤ wr.heap.size) (fun _ i _ => p.length - (intOf i).toNat)
  case atStart => exact ⟨0, start, [], Nat.zero_le _, rfl, rfl, h0, rfl, hsW, Nat.le_refl _⟩
  case round =>
    obtain ⟨k, m, pre, hk, rfl, rfl, hJs, HI, hsr, hzr⟩ := hrel
    clear hcW0 hcW1 hsW h0
    by_cases hlt : k < p.length
    · obtain ⟨b, off, r, A', C', rfl, hB, hr, hcr0, hcr1, hC, hsi⟩ := hsr.at_ hlt
      have hwr := HW.out r (List.mem_of_getElem? hr)
      have HI2 : Hid (itemsF 0 start p = pre ++ (⟨k, m, rowA m r.2, rowE m r.2⟩ :: if rowE m r.2 = 0 then itemsF (k + 1) (rowA m r.2) (p.drop (k + 1)) else [])) := by
        unfold Hid; rw [HI.out]; congr 1
        obtain ⟨hk', e⟩ := List.getElem?_eq_some_iff.1 hr
        rw [List.drop_eq_getElem_cons hk', e]; rfl
      have hlen : pre.length < (itemsF 0 start p).length := by rw [HI2.out, List.length_append]; simp
      have HJs := Lib.hid hJs
      have HS := Lib.hid hsr
      have HSi := Lib.hid hsi
      have HWr := Lib.hid hwr
      clear hJs hsr hsi hr HI hwr
      gi_wp2_with fail
      refine ⟨trivial, (wide_calls (uses_any A' C' r.2 HWr.out _ ((HSi.out.below (((Below.refl n₀ wr).alloc (by omega) _).alloc (by simp; omega) _)).more (by simp; omega)))).mono ?_⟩
      rintro e w1 ⟨rfl, hb1⟩
      have hb01 : Below wr.heap.size wr w1 := (((Below.refl _ wr).alloc (Nat.le_refl _) _).alloc (by simp) _).trans (hb1.mono (by simp; omega))
      have hz1 : wr.heap.size + 2 ≤ w1.heap.size := by have := hb1.size; simp at this; omega
      have x0 : w1.cell? ⟨wr.heap.size + 1, 0, none⟩ = some (.int .i64 m) := (bcell (B := wr.heap.size + 2) (hb1.mono (by simp)) (by omega) _).trans (cell_new rfl (by simp) rfl)
      have x1 : w1.cell? ⟨wr.heap.size + 1, 1, none⟩ = some (.int .i64 0) := (bcell (B := wr.heap.size + 2) (hb1.mono (by simp)) (by omega) _).trans (cell_new rfl (by simp) rfl)
      have x2 : w1.cell? ⟨wr.heap.size + 1, 2, none⟩ = some (.int .i64 0) := (bcell (B := wr.heap.size + 2) (hb1.mono (by simp)) (by omega) _).trans (cell_new rfl (by simp) rfl)
      have fr : ∀ k, w1.frozen? ⟨wr.heap.size + 1, k, none⟩ = false := fun k => (Below.frozen (B := wr.heap.size + 2) (hb1.mono (by simp)) (by show wr.heap.size + 1 < _; omega)).trans (thawed_new' _ _ _ k (by simp))
      have r1 : w1.cell? ⟨wr.heap.size, 1, none⟩ = some (.slice A' r.2.length C') := (bcell (B := wr.heap.size + 2) (hb1.mono (by simp)) (by omega) _).trans ((bcell (B := wr.heap.size + 1) ((Below.refl _ _).alloc (by simp) _) (by omega) _).trans (cell_new rfl rfl rfl))
      have HB1 := Lib.hid hb01
      have HE : Hid (rowE m r.2 = if allE r.2 ≠ 0 then allE r.2 else if usesE r.2 ≠ m then 26 else 0) := rfl
      have HAf : Hid (rowA m r.2 = if rowE m r.2 = 0 then makesE r.2 else 0) := rfl
      have HSi1 := Lib.hid ((HSi.out.below (hb01.mono (by omega))).more (show n₀ ≤ w1.heap.size by omega))
      have HMk := Lib.hid (makes_any A' C' r.2 HWr.out w1 HSi1.out)
      generalize usesE r.2 = us at HE ⊢
      generalize allE r.2 = ae at HE HMk ⊢
      generalize makesE r.2 = mk at HAf HMk
      clear hb1 hb01 HSi HSi1 hcr0 hcr1
      by_cases he : ae = 0
      case neg =>
        have hE : rowE m r.2 = ae := by rw [HE.out, if_pos he]
        have hA : rowA m r.2 = 0 := by rw [HAf.out, hE, if_neg he]
        have HI3 := HI2.out
        rw [hE, if_neg he, hA] at HI3
        have HI4 := Lib.hid HI3
        have heb : (ae != 0) = true := by simp [he]
        have heb2 : (ae == 0) = false := by simp [he]
        clear HE HAf HI2 HI3 hE hA he
        have hbY : Below wr.heap.size wr (w1.setCell ⟨wr.heap.size + 1, 2, none⟩ (.int .i64 ae)) := HB1.out.setCell (p := ⟨wr.heap.size + 1, 2, none⟩) (by simp) _
        obtain ⟨fn, tmps, assign, body, hy, hR⟩ := HY.out _ (⟨k, m, 0, ae⟩ : Cnt) _ (abides_step' HJ.out HJs.out hbY) hlen
        clear hbY HMk r1
        unfold encC at hy
        gi_wp2
        refine hR.mono ?_
        rintro e W3 (⟨rfl, hJ3, hk3⟩ | ⟨rfl, hJx3⟩)
        · have z2 := hk3.cell (b := wr.heap.size + 1) (by omega) (set_same (v := .int .i64 ae) x2)
          have HJ3 := Lib.hid hJ3
          clear hk3 hJ3 x0 x1 x2 fr
          gi_wp2
          refine bodyPost_ret (results_none rfl _ _ _) rfl ?_
          exact ⟨⟨_, rfl⟩, .inl ⟨_, HI4.out.symm, HJ3.out⟩⟩
        · gi_wp2
          refine bodyPost_ret (results_none rfl _ _ _) rfl ?_
          exact ⟨⟨_, rfl⟩, .inr ⟨_, ⟨[], by rw [HI4.out, List.append_nil]⟩, hJx3⟩⟩
      case pos =>
        subst he
        by_cases hu : us = m
        case neg =>
          have hE : rowE m r.2 = 26 := by rw [HE.out, if_neg (by simp), if_pos hu]
          have hA : rowA m r.2 = 0 := by rw [HAf.out, hE]; rfl
          have hub : (us != m) = true := by simp [hu]
          have hub2 : (us == m) = false := by simp [hu]
          have he : ¬ (26 : Int) = 0 := by decide
          have HI3 := HI2.out
          rw [hE, if_neg he, hA] at HI3
          have HI4 := Lib.hid HI3
          have heb : ((26 : Int) != 0) = true := by decide
          have heb2 : ((26 : Int) == 0) = false := by decide
          clear HE HAf HI2 HI3 hE hA he
          have hbY : Below wr.heap.size wr (w1.setCell ⟨wr.heap.size + 1, 2, none⟩ (.int .i64 26)) := HB1.out.setCell (p := ⟨wr.heap.size + 1, 2, none⟩) (by simp) _
          obtain ⟨fn, tmps, assign, body, hy, hR⟩ := HY.out _ (⟨k, m, 0, 26⟩ : Cnt) _ (abides_step' HJ.out HJs.out hbY) hlen
          clear hbY HMk r1
          unfold encC at hy
          gi_wp2
          refine hR.mono ?_
          rintro e W3 (⟨rfl, hJ3, hk3⟩ | ⟨rfl, hJx3⟩)
          · have z2 := hk3.cell (b := wr.heap.size + 1) (by omega) (set_same (v := .int .i64 26) x2)
            have HJ3 := Lib.hid hJ3
            clear hk3 hJ3 x0 x1 x2 fr
            gi_wp2
            refine bodyPost_ret (results_none rfl _ _ _) rfl ?_
            exact ⟨⟨_, rfl⟩, .inl ⟨_, HI4.out.symm, HJ3.out⟩⟩
          · gi_wp2
            refine bodyPost_ret (results_none rfl _ _ _) rfl ?_
            exact ⟨⟨_, rfl⟩, .inr ⟨_, ⟨[], by rw [HI4.out, List.append_nil]⟩, hJx3⟩⟩
        case pos =>
          subst hu
          have hE : rowE us r.2 = 0 := by rw [HE.out, if_neg (by simp), if_neg (by simp)]
          have hA : rowA us r.2 = mk := by rw [HAf.out, hE, if_pos rfl]
          have HI3 := HI2.out
          rw [hE, if_pos rfl, hA] at HI3
          have HI4 := Lib.hid HI3
          have HE4 := Lib.hid (show _ ∧ _ from ⟨hE, hA⟩)
          clear HE HAf HI2 HI3 hE hA
          gi_wp2_with fail
          refine ⟨trivial, (wide_calls HMk.out).mono ?_⟩
          rintro e w2 ⟨rfl, hb2⟩
          have y0 := (bcell hb2 (by omega) _).trans x0
          have y1 := (bcell hb2 (by omega) _).trans x1
          have y2 := (bcell hb2 (by omega) _).trans x2
          have fr2 : ∀ k, w2.frozen? ⟨wr.heap.size + 1, k, none⟩ = false := fun k => (Below.frozen hb2 (by show wr.heap.size + 1 < _; omega)).trans (fr k)
          have hbY : Below wr.heap.size wr (w2.setCell ⟨wr.heap.size + 1, 1, none⟩ (.int .i64 mk)) := (HB1.out.trans (hb2.mono (by omega))).setCell (p := ⟨wr.heap.size + 1, 1, none⟩) (by simp) _
          obtain ⟨fn, tmps, assign, body, hy, hR⟩ := HY.out _ (⟨k, us, mk, 0⟩ : Cnt) _ (abides_step' HJ.out HJs.out hbY) hlen
          have HbY := Lib.hid hbY
          have hz2 := hb2.size
          clear x0 x1 x2 r1 fr hbY hb2 HMk
          unfold encC at hy
          gi_wp2
          refine hR.mono ?_
          rintro e W3 (⟨rfl, hJ3, hk3⟩ | ⟨rfl, hJx3⟩)
          · have z1 := hk3.cell (b := wr.heap.size + 1) (by omega) (set_same (v := .int .i64 mk) y1)
            have z2 := hk3.cell (b := wr.heap.size + 1) (by omega) (set_other (o := 1) (v := .int .i64 mk) (by decide) y2)
            have HJ3 := Lib.hid hJ3
            have HS3 := Lib.hid (hk3.slC hn0 (HS.out.below (HbY.out.mono (by omega))))
            have hz3 := hk3.1
            simp only [World.size_setCell] at hz3
            clear hk3 hJ3 y0 y1 y2 fr2
            gi_wp2
            go_roundw
            case rel => exact ⟨k + 1, mk, pre ++ [⟨k, us, mk, 0⟩], by omega, by go_num, rfl, HJ3.out, by unfold Hid; rw [HI4.out, List.append_assoc]; rfl, HS3.out, by omega⟩
            case measure => simp [intOf]; omega
          · gi_wp2
            refine bodyPost_ret (results_none rfl _ _ _) rfl ?_
            exact ⟨⟨_, rfl⟩, .inr ⟨_, ⟨_, by rw [HI4.out, List.append_assoc]; rfl⟩, hJx3⟩⟩
    · obtain rfl : k = p.length := by omega
      have HI3 : Hid (itemsF 0 start p = pre) := by unfold Hid; rw [HI.out, List.drop_length]; simp [itemsF]
      have HJ3 := Lib.hid hJs
      clear hJs hsr HI
      gi_wp2
      go_end0
      exact ⟨⟨_, rfl⟩, .inl ⟨_, HI3.out.symm, HJ3.out⟩⟩
end Go.Proofs.YtbnddpknejgmhaaGreat
namespace Go.Proofs.YtbnddpknejgmhaaGreat
open Go.RowKit Go.Shelf
attribute [local go_sem] Oper.semAt_some
set_option maxRecDepth 100000

theorem items_ok : ∀ (i : Nat) (n : Int) (p : List RowC), (∀ x ∈ itemsF i n p, x.e = 0) → errR n p = 0
  | _, _, [], _ => rfl
  | i, n, r :: t, h => by
    have h0 : rowE n r.2 = 0 := h _ (by simp only [itemsF]; exact List.mem_cons_self)
    simp only [errR]
    rw [if_pos h0]
    refine items_ok (i + 1) _ t fun x hx => h x ?_
    simp only [itemsF]
    rw [if_pos h0]
    exact List.mem_cons_of_mem _ hx
theorem items_stop : ∀ (i : Nat) (n : Int) (p : List RowC) (pre : List Cnt) (x : Cnt), pre ++ [x] <+: itemsF i n p → x.e ≠ 0 → errR n p = x.e
  | _, _, [], pre, x, h, _ => by
    have := h.length_le
    simp [itemsF] at this
  | i, n, r :: t, pre, x, h, hx => by
    simp only [itemsF] at h
    simp only [errR]
    cases pre with
    | nil =>
      rw [List.nil_append, List.cons_prefix_cons] at h
      have e : x.e = rowE n r.2 := by rw [h.1]
      rw [if_neg (by rw [← e]; exact hx), e]
    | cons y pre =>
      rw [List.cons_append, List.cons_prefix_cons] at h
      by_cases h0 : rowE n r.2 = 0
      · rw [if_pos h0] at h ⊢
        exact items_stop (i + 1) _ t pre x h.2 hx
      · rw [if_neg h0] at h
        have := h.2.length_le
        simp at this

theorem set_cell_own {W : World} {B : Nat} {row : Option Nat} {W' : World} {o : Nat} {v : Value} (h : W.cell? ⟨B, o, none⟩ = some v) (hg : W.grownBy W' row) (hr : ∀ r, row = some r → ∃ o : Obj, W.heap[r]? = some o ∧ o.isCells = false) : W'.cell? ⟨B, o, none⟩ = some v := cell_kept h hg hr

/-- What the frame holds in a round of Check's. -/
def CheckAx (w : World) (start : Int) (A : Option Addr) (n c : Nat) (x : Cnt) (a' : Act) (W : World) : Prop :=
  ∃ xb : Nat, a' = { tmps := #[.agg #[.int .i64 start, .slice A n c], .pointer (some ⟨w.heap.size, 0, none⟩), .pointer (some ⟨w.heap.size + 1, 0, none⟩), undef, .pointer (some ⟨xb, 0, none⟩), .pointer (some ⟨w.heap.size, 1, none⟩), .slice A n c, .int .i64 n, .bool false, .pointer (some ⟨w.heap.size, 0, none⟩), .int .i64 start, .bool false, .bool false, .pointer (some ⟨w.heap.size, 0, none⟩), .int .i64 start, .bool false, .bool false, .agg #[.int .i64 start, .slice A n c], .func (.func 76) #[] #[.pointer (some ⟨w.heap.size + 1 + 1, 0, none⟩)], .int .i64 x.i, .agg #[.int .i64 x.before, .int .i64 x.after, .int .i64 x.e], undef, undef, undef, undef, undef], defers := [] } ∧
    W.cell? ⟨xb, 2, none⟩ = some (.int .i64 x.e) ∧ w.heap.size + 2 < xb

theorem res_check {tmps : Array Value} {W : World} {b : Nat} {e : Int} (h2 : tmps[2]?.getD undef = .pointer (some ⟨b, 0, none⟩)) (hc : W.cell? ⟨b, 0, none⟩ = some (.int .i64 e)) :
    (results Tryz.f23 tmps).run Tryz.prog W = .ok (.int .i64 e) W := by
  simp [results, Tryz.results23, go_sem, h2, hc]
set_option maxHeartbeats 4000000 in
theorem ccheck_any (start : Int) (A : Option Addr) (c : Nat) (p : List RowC) (hw : RowsWf p) (w : World) (hs : SlC w w.heap.size A p) :
    Calls Tryz.prog 23 #[.agg #[.int .i64 start, .slice A p.length c]] w fun e w' => RetE (chartE start p) w e w' := by
  have hbl := Lib.hid (fun o o2 => ((Below.refl w.heap.size w).alloc (Nat.le_refl _) o).alloc (by simp) o2)
  by_cases h1 : 100 < p.length
  · have HE : Hid (chartE start p = 4) := by unfold Hid chartE; rw [if_pos h1]
    clear hs hw
    go_enter Tryz.func23, Tryz.ntmps23
    go_wp2
    exact bodyPost_ret (v := .int .i64 4) (by simp [results, Tryz.results23, go_sem]) rfl (RetE.mk' HE.out (hbl.out _ _))
  by_cases h2 : start < 0
  · have HE : Hid (chartE start p = 8) := by unfold Hid chartE; rw [if_neg h1, if_pos (Or.inl h2)]
    clear hs hw
    go_enter Tryz.func23, Tryz.ntmps23
    go_wp2
    exact bodyPost_ret (v := .int .i64 8) (by simp [results, Tryz.results23, go_sem]) rfl (RetE.mk' HE.out (hbl.out _ _))
  by_cases h3 : 200 < start
  · have HE : Hid (chartE start p = 8) := by unfold Hid chartE; rw [if_neg h1, if_pos (Or.inr h3)]
    clear hs hw
    go_enter Tryz.func23, Tryz.ntmps23
    go_wp2
    exact bodyPost_ret (v := .int .i64 8) (by simp [results, Tryz.results23, go_sem]) rfl (RetE.mk' HE.out (hbl.out _ _))
  have HE : Hid (chartE start p = errR start p) := by unfold Hid chartE; rw [if_neg h1, if_neg (by omega)]
  refine (callsIn_wide (n := 3)).1 ?_
  refine callsIn_of_wp_marks Tryz.func23 rfl trivial ?_ rfl
  simp only [Tryz.ntmps23, List.size_toArray, List.length_cons, List.length_nil, Nat.reduceAdd, Nat.reduceSub, Array.replicate_succ, Array.replicate_zero, List.push_toArray, List.append_toArray, List.nil_append, List.cons_append]
  have h100 : decide (100 < (p.length : Int)) = false := decide_eq_false (by omega)
  have HS := Lib.hid hs
  have HW := Lib.hid hw
  clear hs hw
  gi_wp2_with fail
  refine ⟨trivial, (wide_calls (counted_any start A p.length c _)).mono ?_⟩
  rintro e w' ⟨rfl, rfl⟩
  gi_wp2
  refine abs_world (Q := fun W => Code.wpIn _ _ _ _ _ _ W) (F := fun W => W.heap.size = w.heap.size + 3 ∧ W.cell? ⟨w.heap.size + 1, 0, none⟩ = some (.int .i64 0) ∧ W.frozen? ⟨w.heap.size + 1, 0, none⟩ = false ∧ W.cell? ⟨w.heap.size + 1 + 1, 0, none⟩ = some (.int .i64 start) ∧ W.cell? ⟨w.heap.size + 1 + 1, 1, none⟩ = some (.slice A p.length c) ∧ Below w.heap.size w W) _ ?_ ?_
  · exact ⟨by simp, cell_old rfl (cell_new rfl (by simp) rfl), (Below.frozen (B := w.heap.size + 2) ((Below.refl _ _).alloc (by simp) _) (by show w.heap.size + 1 < _; omega)).trans (thawed_new' _ _ _ 0 (by simp)), cell_new rfl (by simp) rfl, cell_new rfl (by simp) rfl, (((Below.refl _ w).alloc (Nat.le_refl _) _).alloc (by simp) _).alloc (by simp; omega) _⟩
  rintro w3 ⟨hz3, hr0, hrf, hb0, hb1, hB3⟩
  have HR0 := Lib.hid hr0
  have HRF := Lib.hid hrf
  have HB3 := Lib.hid hB3
  have HZ3 := Lib.hid hz3
  refine wpIn_rangeFunc_ownH rfl (by omega) (gf := 76) (lb := #[.pointer (some ⟨w.heap.size + 1 + 1, 0, none⟩)]) rfl trivial (enters_of Tryz.func76 (by kernel_rfl) rfl)
    (counted_stops (3 - 1) (by omega) (w.heap.size + 1 + 1) w.heap.size (w.heap.size + 1) start A c p HW.out (by omega) w3 (by omega) (by omega) (by omega) hb0 hb1 (HS.out.below hB3)) KC.trans (fun W l o o' _ hl ho _ => KC.put W l o o' hl ho) (Below.refl _ _) (fun _ => rfl)
    (fun pre W => Below w3.heap.size w3 W ∧ ∀ x ∈ pre, x.e = 0)
    (fun c pre W => (c = .ret ∧ ∃ pre' x, pre = pre' ++ [x] ∧ x.e ≠ 0 ∧ W.cell? ⟨w.heap.size + 1, 0, none⟩ = some (.int .i64 x.e)) ∧ Below w.heap.size w W)
    (OwnFrom.and (ownFrom_below (Nat.le_refl _) (Nat.le_refl _)) (ownFrom_pure _ _))
    (fun _ => OwnFrom.and (Own.from (fun s A B row hs hg hr => by
      obtain ⟨h1, pre', x, h2, h3, h4⟩ := hs
      exact ⟨h1, pre', x, h2, h3, cell_kept h4 hg hr⟩) _) (ownFrom_below (Nat.le_refl _) (by omega)))
    ⟨Below.refl _ _, fun x hx => by cases hx⟩
    (CheckAx w start A p.length c)
    (fun x a' s W W' row hs hg hr => by
      obtain ⟨xb, h1, h2, h3⟩ := hs
      exact ⟨xb, h1, cell_kept h2 hg (fun r e => (hr r e).2), h3⟩) ?assign ?body ?done ?stop
  case assign =>
    intro l pre x W K hi hK
    have HI := Lib.hid hi
    clear hi
    unfold encC
    gi_wp2
    refine hK _ _ (KeepsFrom.of_grownBy (World.grownBy_alloc W _ none) (fun r e => by cases e)) (KC.of_below ((Below.refl _ W).alloc (Nat.le_refl _) _)) ⟨HI.out.1.alloc HI.out.1.size _, HI.out.2⟩ ⟨W.heap.size, rfl, cell_new rfl rfl rfl, ?_⟩
    have := HI.out.1.size
    have := HZ3.out
    omega
  case body =>
    rintro l pre x a' W _ _ ⟨hBW, hall⟩ ⟨xb, rfl, hc2, hxb⟩ _
    have hrc := (bcell hBW (by omega) _).trans hr0
    have hrfz := (Below.frozen hBW (by show w.heap.size + 1 < _; omega)).trans hrf
    have HBW := Lib.hid hBW
    clear hBW hr0 hrf hb0 hb1 hB3 hz3
    by_cases he : x.e = 0
    · have HAll : Hid (∀ y ∈ pre ++ [x], y.e = 0) := fun y hy => by
        rcases List.mem_append.1 hy with h | h
        · exact hall y h
        · rw [List.mem_singleton.1 h]; exact he
      rw [he] at hc2
      clear hall
      generalize x.e = xe at he
      gi_wp2
      exact ⟨KeepsFrom.refl _ _, KC.refl _ _, HBW.out, HAll.out⟩
    · have heb : (x.e != 0) = true := by simp [he]
      have heb2 : (x.e == 0) = false := by simp [he]
      have HNe := Lib.hid he
      clear hall he
      gi_wp2
      refine ⟨KeepsFrom.of_grownBy (grownBy_setCell' W (w.heap.size + 1) _) (fun r e => by cases e; have := HZ3.out; omega), ⟨rfl, pre, x, rfl, HNe.out, ?_⟩, (HB3.out.trans (HBW.out.mono (by have := HZ3.out; omega))).setCell (p := ⟨w.heap.size + 1, 0, none⟩) (by simp) _⟩
      exact World.cell?_setCell_same' _ _ _ (by rw [hrc]; rfl)
  case done =>
    rintro D xs W hD rfl ⟨hBW, hall⟩ hK
    have HF : Hid (chartE start p = 0) := by unfold Hid; rw [HE.out]; exact items_ok _ _ _ hall
    have hrc := (bcell hBW (by omega) _).trans hr0
    have hrfz := (Below.frozen hBW (by show w.heap.size + 1 < _; omega)).trans hrf
    have HBW := Lib.hid hBW
    have HZ := Lib.hid hz3
    clear hBW hr0 hrf hb0 hb1 hB3 hz3 hall
    gi_wp2
    have hK' : (W.setCell ⟨w.heap.size + 1, 0, none⟩ (.int .i64 0)).heap[D]? = some (.deferred (some [])) := (Below.heap_setCell W _ _ D (by have := HZ.out; simp; omega)).trans hK
    refine ⟨by simp, .inl ⟨_, _, rfl, run_takeDeferred hK', ?_⟩⟩
    refine ⟨_, res_check rfl ((World.cell?_of_block (World.putObj_heap_other (by have := HZ.out; simp; omega))).trans (World.cell?_setCell_same' _ _ _ (by rw [hrc]; rfl))), RetE.mk' HF.out ?_⟩
    exact ((HB3.out.trans (HBW.out.mono (by have := HZ.out; omega))).setCell (p := ⟨w.heap.size + 1, 0, none⟩) (by simp) _).trans (belowK_b (w := w) (Nat.le_refl _) _ D _ _ (by have := HZ.out; omega) hK' rfl rfl)
  case stop =>
    rintro D c' pre W hD hSp ⟨⟨rfl, pre', x, rfl, hne, hc⟩, hB⟩ hK
    have HF : Hid (chartE start p = x.e) := by unfold Hid; rw [HE.out]; exact items_stop _ _ _ _ _ hSp hne
    gi_wp2
    refine ⟨by simp, .inl ⟨_, _, rfl, run_takeDeferred hK, ?_⟩⟩
    refine ⟨_, res_check rfl ((World.cell?_of_block (World.putObj_heap_other (by simp; omega))).trans hc), RetE.mk' HF.out ?_⟩
    exact hB.trans (belowK_b (w := w) (Nat.le_refl _) _ D _ _ (by omega) hK rfl rfl)
end Go.Proofs.YtbnddpknejgmhaaGreat
namespace Go.Proofs.YtbnddpknejgmhaaGreat
open Go.RowKit Go.Shelf
set_option maxRecDepth 100000

def oddS (s : Stc) : Bool := decide (s.kind ≠ 1 ∧ s.kind ≠ 8)
def plainB (start : Int) (p : List RowC) : Bool := if p.any (fun r => r.2.any oddS) then false else decide (start ≤ 101)
set_option maxHeartbeats 1000000 in
theorem plain1_any (s : Stc) (w : World) : Calls Tryz.prog 48 #[s.val] w fun e w' => e = .returned (.bool (oddS s)) ∧ Below w.heap.size w w' := by
  have hb := Lib.hid (fun o => (Below.refl w.heap.size w).alloc (Nat.le_refl _) o)
  by_cases h1 : s.kind = 1
  · have HO : Hid (oddS s = false) := decide_eq_false (by omega)
    have e1 : (s.kind != 1) = false := by simp [h1]
    have e2 : (s.kind == 1) = true := by simp [h1]
    clear h1
    go_enter Tryz.func48, Tryz.ntmps48
    go_wp2
    go_ret
    exact ⟨ret_bool (by first | exact HO.out.symm | (rw [HO.out]; simp [*])), hb.out _⟩
  · have e1 : (s.kind != 1) = true := by simp [h1]
    have e2 : (s.kind == 1) = false := by simp [h1]
    by_cases h2 : s.kind = 8
    · have HO : Hid (oddS s = false) := decide_eq_false (by omega)
      have e3 : (s.kind != 8) = false := by simp [h2]
      have e4 : (s.kind == 8) = true := by simp [h2]
      clear h1 h2
      go_enter Tryz.func48, Tryz.ntmps48
      go_wp2
      go_ret
      exact ⟨ret_bool (by first | exact HO.out.symm | (rw [HO.out]; simp [*])), hb.out _⟩
    · have HO : Hid (oddS s = true) := decide_eq_true ⟨h1, h2⟩
      have e3 : (s.kind != 8) = true := by simp [h2]
      have e4 : (s.kind == 8) = false := by simp [h2]
      clear h1 h2
      go_enter Tryz.func48, Tryz.ntmps48
      go_wp2
      go_ret
      exact ⟨ret_bool (by first | exact HO.out.symm | (rw [HO.out]; simp [*])), hb.out _⟩

set_option maxHeartbeats 1000000 in
theorem plain_any (start : Int) (A : Option Addr) (c : Nat) (p : List RowC) (hn : p.length ≤ 4611686018427387904) (hrl : ∀ r ∈ p, r.2.length ≤ 4611686018427387904) (w : World) (hs : SlC w w.heap.size A p) :
    Calls Tryz.prog 24 #[.agg #[.int .i64 start, .slice A p.length c]] w fun e w' => e = .returned (.bool (plainB start p)) ∧ Below w.heap.size w w' := by
  go_enter Tryz.func24, Tryz.ntmps24
  go_wp2
  have hc0 := cell_new (w1 := w.alloc (.cells #[.int .i64 start, .slice A p.length c] 24)) (b := w.heap.size) (o := 0) rfl rfl rfl
  have HC := Lib.hid hc0
  clear hc0
  go_loopw [8] (fun i wr => ∃ k : Nat, k ≤ p.length ∧ i = .int .i64 k ∧ Hid (∀ r ∈ p.take k, r.2.any oddS = false) ∧ Below w.heap.size w wr ∧ wr.cell? ⟨w.heap.size, 0, none⟩ = some (.int .i64 start)) (fun i _ => p.length - (intOf i).toNat)
  case atStart => exact ⟨0, Nat.zero_le _, rfl, (fun r hr => by simp at hr), (Below.refl _ _).alloc (Nat.le_refl _) _, HC.out⟩
  case round =>
    obtain ⟨k, hk, rfl, H, hbw, hcs⟩ := hrel
    by_cases hlt : k < p.length
    · obtain ⟨b, off, r, A', C', rfl, hB, hr, hcr0, hcr1, hC, hsi⟩ := hs.at_ hlt
      have hc0 := (bcell hbw hB _).trans hcr0
      have hc1 := (bcell hbw hB _).trans hcr1
      have hz := hbw.size
      have hcl := Lib.hid (fun w1 hb => contT_any 48 #[] (enters_of Tryz.func48 (by kernel_rfl) rfl) oddS A' C' r.2 w1 ((hsi.below hb).more (Below.size hb)) (hrl r (List.mem_of_getElem? hr)) (fun x _ w' _ => plain1_any x w'))
      have HR : Hid (p[k]? = some r) := hr
      have HKc := Lib.hid (fun (w2 : World) (hb : Below (w.heap.size + 1) wr w2) => (bcell hb (by omega) 0).trans hcs)
      have hsz : w.heap.size < wr.heap.size := lt_of_cell hcs
      clear hs hrl hr hsi hcr0 hcr1
      cases hq : r.2.any oddS with
      | true =>
        rw [hq] at hcl
        have HF : Hid (plainB start p = false) := by
          unfold Hid plainB
          rw [if_pos (List.any_eq_true.2 ⟨r, List.mem_of_getElem? HR.out, hq⟩)]
        clear hq H
        go_wp2_with (go_at_call 47; refine (hcl.out _ (hbw.alloc hz _)).mono ?_; rintro e w' ⟨rfl, hb1⟩)
        go_ret
        exact ⟨ret_bool HF.out.symm, (hbw.alloc hz _).trans (hb1.mono (by simp; omega))⟩
      | false =>
        rw [hq] at hcl
        have HQ : Hid (∀ x ∈ p.take (k + 1), x.2.any oddS = false) := fun x hx => by
          obtain ⟨hk', e⟩ := List.getElem?_eq_some_iff.1 HR.out
          rw [List.take_succ_eq_append_getElem hk', e] at hx
          rcases List.mem_append.1 hx with h | h
          · exact H.out x h
          · rw [List.mem_singleton.1 h]; exact hq
        clear hq H
        go_wp2_with (go_at_call 47; refine (hcl.out _ (hbw.alloc hz _)).mono ?_; rintro e w' ⟨rfl, hb1⟩)
        go_roundw
        case rel => exact ⟨k + 1, by omega, by go_num, HQ, (hbw.alloc hz _).trans (hb1.mono (by simp; omega)), HKc.out _ (((Below.refl _ wr).alloc (by omega) _).trans (hb1.mono (by simp; omega)))⟩
        case measure => simp [intOf]; omega
    · obtain rfl : k = p.length := by omega
      have HF : Hid (plainB start p = decide (start ≤ 101)) := by
        unfold Hid plainB
        rw [if_neg]
        rw [Bool.not_eq_true, List.any_eq_false]
        intro r hr
        have := H.out r (by rw [List.take_length]; exact hr)
        rw [this]; simp
      clear hs hrl H
      go_wp2
      go_ret
      exact ⟨ret_bool HF.out.symm, hbw⟩
end Go.Proofs.YtbnddpknejgmhaaGreat
