/- Layer 26: counted goes over the counts. -/
import Derived.Test.YtbnddpknejgmhaaCh0
namespace Go.Proofs.Ytbnddpknejgmhaa
open Go.RowKit Go.Shelf
attribute [local go_sem] Oper.semAt_some
set_option maxRecDepth 100000

theorem abides_step' {β : Type} {B : Nat} {J : β → World → Prop} (h : AbidesFrom B J) {s : β} {W W' : World} (hs : J s W) (hb : Below W.heap.size W W') : J s W' :=
  h s W W' none hs (grownN_of_below hb (Nat.le_refl _)) (fun r e => by cases e)
set_option maxHeartbeats 4000000 in
theorem counted_stops (n : Nat) (hn : 1 ≤ n) (Bs n₀ B0 : Nat) (start : Int) (A : Option Addr) (c : Nat) (p : List RowC) (hw : RowsWf p) (hpl : p.length ≤ 100) (w : World) (hBs : Bs < w.heap.size) (hB0 : B0 < w.heap.size) (hn0 : n₀ ≤ B0)
    (hc0 : w.cell? ⟨Bs, 0, none⟩ = some (.int .i64 start)) (hc1 : w.cell? ⟨Bs, 1, none⟩ = some (.slice A p.length c)) (hs : SlC w n₀ A p) :
    SeqStopsK Fence.wide n Try.prog 69 #[.pointer (some ⟨Bs, 0, none⟩)] encC (KC B0) (fun xs => xs = itemsF 0 start p) (fun xs => xs <+: itemsF 0 start p) (itemsF 0 start p).length w := by
  intro l J Jx W hW hJ hJx hY h0
  have hcW0 := (hW.cell (p := ⟨Bs, 0, none⟩) hBs).trans hc0
  have hcW1 := (hW.cell (p := ⟨Bs, 1, none⟩) hBs).trans hc1
  have hsW : SlC W n₀ A p := hs.below (hW.mono (by omega))
  have hzW : B0 < W.heap.size := by have := hW.size; omega
  clear hc0 hc1 hs hW hBs hB0
  have HY := Lib.hid hY
  have HJ := Lib.hid hJ
  have HW := Lib.hid hw
  clear hY hJ hJx hw
  refine callsIn_of_wp Try.func69 rfl trivial ?_ rfl
  simp only [Try.ntmps69, List.size_toArray, List.length_cons, List.length_nil, Nat.reduceAdd, Nat.reduceSub, Array.replicate_succ, Array.replicate_zero, List.push_toArray, List.append_toArray, List.nil_append, List.cons_append]
  gi_wp2
  gi_loopw [3, 14] (fun s3 i wr => ∃ (k : Nat) (m : Int) (pre : List Cnt), k ≤ p.length ∧ i = .int .i64 k ∧ s3 = .int .i64 m ∧ J pre wr ∧ Hid (itemsF 0 start p = pre ++ itemsF k m (p.drop k)) ∧ SlC wr n₀ A p ∧ W.heap.size ≤ wr.heap.size) (fun _ i _ => p.length - (intOf i).toNat)
  case atStart => exact ⟨0, start, [], Nat.zero_le _, rfl, rfl, h0, rfl, hsW, Nat.le_refl _⟩
  case round =>
    obtain ⟨k, m, pre, hk, rfl, rfl, hJs, HI, hsr, hzr⟩ := hrel
    clear hcW0 hcW1 hsW h0
    by_cases hlt : k < p.length
    · obtain ⟨b, off, r, A', C', rfl, hB, hr, hcr0, hcr1, hC, hsi⟩ := hsr.at_ hlt
      have hwr := HW.out r (List.mem_of_getElem? hr)
      have HI2 : Hid (itemsF 0 start p = pre ++ (⟨k, m, rowA m r.2, rowE m r.2⟩ :: if rowE m r.2 = 0 then itemsF (k + 1) (rowA m r.2) (p.drop (k + 1)) else [])) := by
        unfold Hid; rw [HI.out]; congr 1
        obtain ⟨hk', e⟩ := List.getElem?_eq_some_iff.1 hr
        rw [List.drop_eq_getElem_cons hk', e]; rfl
      have hlen : pre.length < (itemsF 0 start p).length := by rw [HI2.out, List.length_append]; simp
      have HJs := Lib.hid hJs
      have HS := Lib.hid hsr
      have HSi := Lib.hid hsi
      have HWr := Lib.hid hwr
      clear hJs hsr hsi hr HI hwr
      gi_wp2_with fail
      refine ⟨trivial, (wide_calls (uses_any A' C' r.2 HWr.out _ ((HSi.out.below (((Below.refl n₀ wr).alloc (by omega) _).alloc (by simp; omega) _)).more (by simp; omega)))).mono ?_⟩
      rintro e w1 ⟨rfl, hb1⟩
      have hb01 : Below wr.heap.size wr w1 := (((Below.refl _ wr).alloc (Nat.le_refl _) _).alloc (by simp) _).trans (hb1.mono (by simp; omega))
      have hz1 : wr.heap.size + 2 ≤ w1.heap.size := by have := hb1.size; simp at this; omega
      have x0 : w1.cell? ⟨wr.heap.size + 1, 0, none⟩ = some (.int .i64 m) := (bcell (B := wr.heap.size + 2) (hb1.mono (by simp)) (by omega) _).trans (cell_new rfl (by simp) rfl)
      have x1 : w1.cell? ⟨wr.heap.size + 1, 1, none⟩ = some (.int .i64 0) := (bcell (B := wr.heap.size + 2) (hb1.mono (by simp)) (by omega) _).trans (cell_new rfl (by simp) rfl)
      have x2 : w1.cell? ⟨wr.heap.size + 1, 2, none⟩ = some (.int .i64 0) := (bcell (B := wr.heap.size + 2) (hb1.mono (by simp)) (by omega) _).trans (cell_new rfl (by simp) rfl)
      have fr : ∀ k, w1.frozen? ⟨wr.heap.size + 1, k, none⟩ = false := fun k => (Below.frozen (B := wr.heap.size + 2) (hb1.mono (by simp)) (by show wr.heap.size + 1 < _; omega)).trans (thawed_new' _ _ _ k (by simp))
      have r1 : w1.cell? ⟨wr.heap.size, 1, none⟩ = some (.slice A' r.2.length C') := (bcell (B := wr.heap.size + 2) (hb1.mono (by simp)) (by omega) _).trans ((bcell (B := wr.heap.size + 1) ((Below.refl _ _).alloc (by simp) _) (by omega) _).trans (cell_new rfl rfl rfl))
      have HB1 := Lib.hid hb01
      have HE : Hid (rowE m r.2 = if allE r.2 ≠ 0 then allE r.2 else if usesE r.2 ≠ m then 26 else 0) := rfl
      have HAf : Hid (rowA m r.2 = if rowE m r.2 = 0 then makesE r.2 else 0) := rfl
      have HSi1 := Lib.hid ((HSi.out.below (hb01.mono (by omega))).more (show n₀ ≤ w1.heap.size by omega))
      have HMk := Lib.hid (makes_any A' C' r.2 HWr.out w1 HSi1.out)
      generalize usesE r.2 = us at HE ⊢
      generalize allE r.2 = ae at HE HMk ⊢
      generalize makesE r.2 = mk at HAf HMk
      clear hb1 hb01 HSi HSi1 hcr0 hcr1
      by_cases he : ae = 0
      case neg =>
        have hE : rowE m r.2 = ae := by rw [HE.out, if_pos he]
        have hA : rowA m r.2 = 0 := by rw [HAf.out, hE, if_neg he]
        have HI3 := HI2.out
        rw [hE, if_neg he, hA] at HI3
        have HI4 := Lib.hid HI3
        have heb : (ae != 0) = true := by simp [he]
        have heb2 : (ae == 0) = false := by simp [he]
        clear HE HAf HI2 HI3 hE hA he
        have hbY : Below wr.heap.size wr (w1.setCell ⟨wr.heap.size + 1, 2, none⟩ (.int .i64 ae)) := HB1.out.setCell (p := ⟨wr.heap.size + 1, 2, none⟩) (by simp) _
        obtain ⟨fn, tmps, assign, body, hy, hR⟩ := HY.out _ (⟨k, m, 0, ae⟩ : Cnt) _ (abides_step' HJ.out HJs.out hbY) hlen
        clear hbY HMk r1
        unfold encC at hy
        gi_wp2
        refine hR.mono ?_
        rintro e W3 (⟨rfl, hJ3, hk3⟩ | ⟨rfl, hJx3⟩)
        · have z2 := hk3.cell (b := wr.heap.size + 1) (by omega) (set_same (v := .int .i64 ae) x2)
          have HJ3 := Lib.hid hJ3
          clear hk3 hJ3 x0 x1 x2 fr
          gi_wp2
          refine bodyPost_ret (results_none rfl _ _ _) rfl ?_
          exact ⟨⟨_, rfl⟩, .inl ⟨_, HI4.out.symm, HJ3.out⟩⟩
        · gi_wp2
          refine bodyPost_ret (results_none rfl _ _ _) rfl ?_
          exact ⟨⟨_, rfl⟩, .inr ⟨_, ⟨[], by rw [HI4.out, List.append_nil]⟩, hJx3⟩⟩
      case pos =>
        subst he
        by_cases hu : us = m
        case neg =>
          have hE : rowE m r.2 = 26 := by rw [HE.out, if_neg (by simp), if_pos hu]
          have hA : rowA m r.2 = 0 := by rw [HAf.out, hE]; rfl
          have hub : (us != m) = true := by simp [hu]
          have hub2 : (us == m) = false := by simp [hu]
          have he : ¬ (26 : Int) = 0 := by decide
          have HI3 := HI2.out
          rw [hE, if_neg he, hA] at HI3
          have HI4 := Lib.hid HI3
          have heb : ((26 : Int) != 0) = true := by decide
          have heb2 : ((26 : Int) == 0) = false := by decide
          clear HE HAf HI2 HI3 hE hA he
          have hbY : Below wr.heap.size wr (w1.setCell ⟨wr.heap.size + 1, 2, none⟩ (.int .i64 26)) := HB1.out.setCell (p := ⟨wr.heap.size + 1, 2, none⟩) (by simp) _
          obtain ⟨fn, tmps, assign, body, hy, hR⟩ := HY.out _ (⟨k, m, 0, 26⟩ : Cnt) _ (abides_step' HJ.out HJs.out hbY) hlen
          clear hbY HMk r1
          unfold encC at hy
          gi_wp2
          refine hR.mono ?_
          rintro e W3 (⟨rfl, hJ3, hk3⟩ | ⟨rfl, hJx3⟩)
          · have z2 := hk3.cell (b := wr.heap.size + 1) (by omega) (set_same (v := .int .i64 26) x2)
            have HJ3 := Lib.hid hJ3
            clear hk3 hJ3 x0 x1 x2 fr
            gi_wp2
            refine bodyPost_ret (results_none rfl _ _ _) rfl ?_
            exact ⟨⟨_, rfl⟩, .inl ⟨_, HI4.out.symm, HJ3.out⟩⟩
          · gi_wp2
            refine bodyPost_ret (results_none rfl _ _ _) rfl ?_
            exact ⟨⟨_, rfl⟩, .inr ⟨_, ⟨[], by rw [HI4.out, List.append_nil]⟩, hJx3⟩⟩
        case pos =>
          subst hu
          have hE : rowE us r.2 = 0 := by rw [HE.out, if_neg (by simp), if_neg (by simp)]
          have hA : rowA us r.2 = mk := by rw [HAf.out, hE, if_pos rfl]
          have HI3 := HI2.out
          rw [hE, if_pos rfl, hA] at HI3
          have HI4 := Lib.hid HI3
          have HE4 := Lib.hid (show _ ∧ _ from ⟨hE, hA⟩)
          clear HE HAf HI2 HI3 hE hA
          gi_wp2_with fail
          refine ⟨trivial, (wide_calls HMk.out).mono ?_⟩
          rintro e w2 ⟨rfl, hb2⟩
          have y0 := (bcell hb2 (by omega) _).trans x0
          have y1 := (bcell hb2 (by omega) _).trans x1
          have y2 := (bcell hb2 (by omega) _).trans x2
          have fr2 : ∀ k, w2.frozen? ⟨wr.heap.size + 1, k, none⟩ = false := fun k => (Below.frozen hb2 (by show wr.heap.size + 1 < _; omega)).trans (fr k)
          have hbY : Below wr.heap.size wr (w2.setCell ⟨wr.heap.size + 1, 1, none⟩ (.int .i64 mk)) := (HB1.out.trans (hb2.mono (by omega))).setCell (p := ⟨wr.heap.size + 1, 1, none⟩) (by simp) _
          obtain ⟨fn, tmps, assign, body, hy, hR⟩ := HY.out _ (⟨k, us, mk, 0⟩ : Cnt) _ (abides_step' HJ.out HJs.out hbY) hlen
          have HbY := Lib.hid hbY
          have hz2 := hb2.size
          clear x0 x1 x2 r1 fr hbY hb2 HMk
          unfold encC at hy
          gi_wp2
          refine hR.mono ?_
          rintro e W3 (⟨rfl, hJ3, hk3⟩ | ⟨rfl, hJx3⟩)
          · have z1 := hk3.cell (b := wr.heap.size + 1) (by omega) (set_same (v := .int .i64 mk) y1)
            have z2 := hk3.cell (b := wr.heap.size + 1) (by omega) (set_other (o := 1) (v := .int .i64 mk) (by decide) y2)
            have HJ3 := Lib.hid hJ3
            have HS3 := Lib.hid (hk3.slC hn0 (HS.out.below (HbY.out.mono (by omega))))
            have hz3 := hk3.1
            simp only [World.size_setCell] at hz3
            clear hk3 hJ3 y0 y1 y2 fr2
            gi_wp2
            go_roundw
            case rel => exact ⟨k + 1, mk, pre ++ [⟨k, us, mk, 0⟩], by omega, by go_num, rfl, HJ3.out, by unfold Hid; rw [HI4.out, List.append_assoc]; rfl, HS3.out, by omega⟩
            case measure => simp [intOf]; omega
          · gi_wp2
            refine bodyPost_ret (results_none rfl _ _ _) rfl ?_
            exact ⟨⟨_, rfl⟩, .inr ⟨_, ⟨_, by rw [HI4.out, List.append_assoc]; rfl⟩, hJx3⟩⟩
    · obtain rfl : k = p.length := by omega
      have HI3 : Hid (itemsF 0 start p = pre) := by unfold Hid; rw [HI.out, List.drop_length]; simp [itemsF]
      have HJ3 := Lib.hid hJs
      clear hJs hsr HI
      gi_wp2
      go_end0
      exact ⟨⟨_, rfl⟩, .inl ⟨_, HI3.out.symm, HJ3.out⟩⟩
end Go.Proofs.Ytbnddpknejgmhaa
