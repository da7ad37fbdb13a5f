/- Layer 30: copied, walked. Layer 30: On. -/
import Derived.Test.YtbnddpknejgmhaaGreatKP11
import Derived.Sort.CutIn
namespace Go.Proofs.YtbnddpknejgmhaaGreat
open Go.RowKit Go.Shelf Go.Sort
set_option maxRecDepth 100000

theorem keepB {w0 W W' : World} {b : Nat} {v0 v1 v2 v3 : Value} (h : W.cell? ⟨b, 0, none⟩ = some v0 ∧ W.cell? ⟨b, 1, none⟩ = some v1 ∧ W.cell? ⟨b, 2, none⟩ = some v2 ∧ W.cell? ⟨b, 3, none⟩ = some v3 ∧ Below w0.heap.size w0 W) (hb : Below W.heap.size W W') :
    W'.cell? ⟨b, 0, none⟩ = some v0 ∧ W'.cell? ⟨b, 1, none⟩ = some v1 ∧ W'.cell? ⟨b, 2, none⟩ = some v2 ∧ W'.cell? ⟨b, 3, none⟩ = some v3 ∧ Below w0.heap.size w0 W' := by
  obtain ⟨h1, h2, h3, h4, h7⟩ := h
  have hl := lt_of_cell h1
  exact ⟨(bcell hb hl _).trans h1, (bcell hb hl _).trans h2, (bcell hb hl _).trans h3, (bcell hb hl _).trans h4, h7.trans (hb.mono h7.size)⟩
theorem keepB5 {w0 W : World} {b : Nat} {v0 v1 v2 v3 : Value} (h : W.cell? ⟨b, 0, none⟩ = some v0 ∧ W.cell? ⟨b, 1, none⟩ = some v1 ∧ W.cell? ⟨b, 2, none⟩ = some v2 ∧ W.cell? ⟨b, 3, none⟩ = some v3 ∧ Below w0.heap.size w0 W) : Below w0.heap.size w0 W := h.2.2.2.2
theorem copy_start {w W0 W1 W2 W3 : World} {s : BedS} {hv : List (Hk × Value)} {mv : List (Mk × Value)} {vh vf vm : Value} (b3 : Below W2.heap.size W2 W3) (r3 : (Own.mk 57 4 s.made.length vm (mv.map makeCells).flatten).lies W3 W2.heap.size)
    (b2 : Below W1.heap.size W1 W2) (r2 : (Own.mk 90 3 s.feeds.length vf (s.feeds.map Fd.cells).flatten).lies W2 W1.heap.size)
    (b1 : Below W0.heap.size W0 W1) (r1 : (Own.mk 87 3 s.hooks.length vh (hv.map hookCells).flatten).lies W1 W0.heap.size)
    (b0 : Below w.heap.size w W0) (e1 : hv.map Prod.fst = s.hooks) (o1 : ∀ p ∈ hv, OldI w w.heap.size p.2 p.1.loops) (e2 : mv.map Prod.fst = s.made) (o2 : ∀ p ∈ mv, OldI w w.heap.size p.2 p.1.parents) :
    CopyAt w (W3.alloc (.cells #[.int .i64 s.rack, vh, vf, vm] 84)) W3.heap.size s [] hv [] mv vh vf vm := by
  have z0 := b0.size
  have z1 := b1.size
  have z2 := b2.size
  have z3 := b3.size
  have h1 := (Owns.nil (w := W0) (B := w.heap.size)).add b1 z0 r1
  have h2 := h1.add b2 (by omega) r2
  have h3 := h2.add b3 (by omega) r3
  have h4 := h3.add (w' := W3.alloc (.cells #[.int .i64 s.rack, vh, vf, vm] 84)) (o := rowP 84 W3.heap.size s.rack vh vf vm) ((Below.refl _ _).alloc (Nat.le_refl _) _) (by omega)
    (World.ownsRow_lit W3 #[.int .i64 s.rack, vh, vf, vm] 1 (Nat.le_refl _) (by decide) rfl)
  have lh : hv.length = s.hooks.length := by rw [← e1, List.length_map]
  have lm : mv.length = s.made.length := by rw [← e2, List.length_map]
  refine ⟨e1, e2, o1, o2, ?_, (((b0.trans (b1.mono z0)).trans (b2.mono (by omega))).trans (b3.mono (by omega))).alloc (by omega) _⟩
  rw [← lh, ← lm] at h4
  refine h4.perm (List.Perm.cons _ ?_)
  exact ((List.Perm.swap _ _ _).trans (List.Perm.cons _ (List.Perm.swap _ _ _))).trans (List.Perm.swap _ _ _)
set_option maxHeartbeats 4000000 in
theorem copied_any (s : BedS) (p : BedP) (hn : s.hooks.length ≤ 9000 ∧ s.feeds.length ≤ 9000 ∧ s.made.length ≤ 9000) (hll : (∀ h ∈ s.hooks, h.loops.length ≤ 6) ∧ ∀ m ∈ s.made, m.parents.length ≤ 6) (w : World) (hs : BedAt w w.heap.size p s) :
    Calls Tryz.prog 29 #[s.val p] w fun e w' => ∃ pb, e = .returned (.pointer (some ⟨pb, 0, none⟩)) ∧ WorkX 84 w' w.heap.size pb s [] ∧ Below w.heap.size w w' := by
  unfold BedS.val
  obtain ⟨hv, hve, hvs, hvo⟩ := hs.hooks.vals
  obtain ⟨mv, mve, mvs, mvo⟩ := hs.made.vals
  have HCS := Lib.hid (bed_box w s p)
  have HLL := Lib.hid hll
  clear hll
  have hlh : hv.length = s.hooks.length := by rw [← hve, List.length_map]
  have hlm : mv.length = s.made.length := by rw [← mve, List.length_map]
  have src : ∀ {sz : Nat} {A : Option Addr} {zs : List (List Value)} {n : Nat}, (∀ cs ∈ zs, cs.length = sz) → zs.length = n → SlS sz w w.heap.size A zs → ∀ W, Below w.heap.size w W → 0 < n → ∃ b off, A = some ⟨b, off, none⟩ ∧ b < W.heap.size ∧ ∀ j u, zs.flatten[j]? = some u → W.cell? ⟨b, off + j, none⟩ = some u := fun {sz A zs n} hl hn h W hb hp => by
    obtain ⟨b, off, e, hB, _⟩ := h (fun e => by subst e; simp at hn; omega)
    subst e
    exact ⟨b, off, rfl, by have := hb.size; omega, fun j u hu => by
      have := SlS.flat hl h j u hu
      rw [addr_plus] at this
      exact (bcell hb hB _).trans this⟩
  have HCh : Hid (∀ W, Below w.heap.size w W → Calls Tryz.prog 57 #[.slice p.ah s.hooks.length p.ch] W fun e w' => cloneOut 87 3 s.hooks.length (hv.map hookCells).flatten W e w') := fun W hb =>
    cloneH_any p.ah p.ch s.hooks.length _ (by rw [flat_len cells3h, List.length_map, hlh]) (one3h fun q hq => (hvo q hq).one) (by omega) W (src cells3h (by rw [List.length_map, hlh]) hvs W hb)
  have HCf : Hid (∀ W, Below w.heap.size w W → Calls Tryz.prog 58 #[.slice p.af s.feeds.length p.cf] W fun e w' => cloneOut 90 3 s.feeds.length (s.feeds.map Fd.cells).flatten W e w') := fun W hb =>
    cloneF_any p.af p.cf s.feeds.length _ (by rw [flat_len (cells3f _), List.length_map]) (one3f _) (by omega) W (src (cells3f _) (by rw [List.length_map]) hs.feeds W hb)
  have HCm : Hid (∀ W, Below w.heap.size w W → Calls Tryz.prog 59 #[.slice p.am s.made.length p.cm] W fun e w' => cloneOut 57 4 s.made.length (mv.map makeCells).flatten W e w') := fun W hb =>
    cloneM_any p.am p.cm s.made.length _ (by rw [flat_len cells4m, List.length_map, hlm]) (one4m fun q hq => (mvo q hq).one) (by omega) W (src cells4m (by rw [List.length_map, hlm]) mvs W hb)
  have HVE := Lib.hid hve
  have HVO := Lib.hid hvo
  have HME := Lib.hid mve
  have HMO := Lib.hid mvo
  have HLN := Lib.hid (show _ ∧ _ from ⟨hlh, hlm⟩)
  have HBx : Hid (∀ o, Below w.heap.size w (w.alloc o)) := fun o => (Below.refl _ w).alloc (Nat.le_refl _) o
  clear hve hvs hvo mve mvs mvo hs src hlh hlm
  go_enter Tryz.func29, Tryz.ntmps29
  go_upto_region 1 with fail
  obtain ⟨w0, hw0⟩ : ∃ w0, w0 = w.alloc (.cells #[.int .i64 s.rack, .slice p.ah s.hooks.length p.ch, .slice p.af s.feeds.length p.cf, .slice p.am s.made.length p.cm] 39) := ⟨_, rfl⟩
  have hHB := HBx.out (.cells #[.int .i64 s.rack, .slice p.ah s.hooks.length p.ch, .slice p.af s.feeds.length p.cf, .slice p.am s.made.length p.cm] 39)
  rw [← hw0] at HCS hHB ⊢
  obtain ⟨c0, c1, c2, c3⟩ := HCS.out w0 (Below.refl _ _)
  have HS0 : Hid (w0.cell? ⟨w.heap.size, 0, none⟩ = some (.int .i64 s.rack) ∧ w0.cell? ⟨w.heap.size, 1, none⟩ = some (.slice p.ah s.hooks.length p.ch) ∧ w0.cell? ⟨w.heap.size, 2, none⟩ = some (.slice p.af s.feeds.length p.cf) ∧ w0.cell? ⟨w.heap.size, 3, none⟩ = some (.slice p.am s.made.length p.cm) ∧ Below w.heap.size w w0) := ⟨c0, c1, c2, c3, hHB⟩
  clear hw0 c0 c1 c2 c3 hHB
  go_cut [3] (fun s3 wr => ∃ (pb : Nat) (vh vf vm : Value), s3 = .pointer (some ⟨pb, 0, none⟩) ∧ Hid (CopyAt w wr pb s [] hv [] mv vh vf vm))
  case first =>
    go_region_held3 (fun W => W.cell? ⟨w.heap.size, 0, none⟩ = some (.int .i64 s.rack) ∧ W.cell? ⟨w.heap.size, 1, none⟩ = some (.slice p.ah s.hooks.length p.ch) ∧ W.cell? ⟨w.heap.size, 2, none⟩ = some (.slice p.af s.feeds.length p.cf) ∧ W.cell? ⟨w.heap.size, 3, none⟩ = some (.slice p.am s.made.length p.cm) ∧ Below w.heap.size w W)
      (first | exact keepB HS0.out (Below.drew (Below.refl _ _)) | exact keepB (by assumption) (by assumption) | exact keepB (by assumption) ((Below.refl _ _).alloc (Nat.le_refl _) _))
      (first | (go_at_call 57; refine (HCh.out _ (keepB5 (by assumption))).mono ?_; rintro e w' ⟨A', C', rfl, hrow, hb1⟩) | (go_at_call 58; refine (HCf.out _ (keepB5 (by assumption))).mono ?_; rintro e w' ⟨A', C', rfl, hrow, hb1⟩) | (go_at_call 59; refine (HCm.out _ (keepB5 (by assumption))).mono ?_; rintro e w' ⟨A', C', rfl, hrow, hb1⟩))
    go_wp2_with fail
    go_meet
    have h1 := HVE.out
    have h2 := HVO.out
    have h3 := HME.out
    have h4 := HMO.out
    have h0 : Below w.heap.size w w0.drew := HS0.out.2.2.2.2.drew
    clear HCh HCf HCm
    refine ⟨_, _, _, _, rfl, copy_start (by assumption) (by assumption) (by assumption) (by assumption) (by assumption) (by assumption) h0 h1 h2 h3 h4⟩
  case rest =>
    obtain ⟨pb, vh, vf, vm, rfl, HC⟩ := hcut
    clear HCh HCf HCm HVE HVO HME HMO HS0
    obtain ⟨c1, c3, _⟩ := HC.out.cells
    have HLh := Lib.hid (own_slice HC.out.rh)
    have HLm := Lib.hid (own_slice HC.out.rm)
    obtain ⟨ah, ch, eh, hch⟩ := HLh.out
    have eh' : vh = .slice ah ([] ++ hv).length ch := eh
    rw [List.nil_append, HLN.out.1] at eh'
    subst eh'
    obtain ⟨am, cm, em, hcm⟩ := HLm.out
    have em' : vm = .slice am ([] ++ mv).length cm := em
    rw [List.nil_append, HLN.out.2] at em'
    subst em'
    clear eh em HLh HLm hch hcm
    have HCi : Hid (∀ (W : World) (A : Option Addr) (c : Nat) (l : List Int), l.length ≤ 1000000 → SlI W W.heap.size A l → Calls Tryz.prog 60 #[.slice A l.length c] W fun e w' => cloneOut 3 1 l.length (intV l) W e w') := fun W A c l hl h =>
      cloneI_any A c l.length (intV l) (by rw [intV_lenB, Nat.mul_one]) (intV_one' l) hl W (fun hp => by
        obtain ⟨b, off, e, hB, hc⟩ := h (fun e => by subst e; simp at hp)
        subst e
        refine ⟨b, off, rfl, hB, fun j u hu => ?_⟩
        have := slI_news (W := W) (B := W.heap.size) h j u hu
        rwa [addr_plus] at this)
    go_wp2
    go_loopw [4, 26] (fun s4 s26 wr => ∃ (k : Nat) (v4 : Value) (hA hB : List (Hk × Value)), k ≤ s.hooks.length ∧ s26 = .int .i64 (k : Int) ∧ v4 = s4 ∧ Hid (hA.length = k) ∧ Hid (CopyAt w wr pb s hA hB [] mv (.slice ah s.hooks.length ch) vf (.slice am s.made.length cm))) (fun _ s26 _ => s.hooks.length - (intOf s26).toNat)
    case atStart => exact ⟨0, _, [], hv, Nat.zero_le _, rfl, rfl, rfl, HC⟩
    case round =>
      obtain ⟨k, v4, hA, hB, hk, rfl, rfl, HK, HCk⟩ := hrel
      clear c1 c3 HC
      by_cases hlt : k < s.hooks.length
      case pos =>
        cases hB with
        | nil => exfalso; have h1 := HCk.out.hlen; have h2 := HK.out; simp at h1; omega
        | cons p hB =>
          obtain ⟨c1, _, hpl⟩ := HCk.out.cells
          obtain ⟨A', C', hp2, hsl⟩ := HCk.out.oldH p List.mem_cons_self
          have hbw := HCk.out.below
          have hrh := HCk.out.rh
          have hll : (hA ++ p :: hB).length = s.hooks.length := by have := HCk.out.hlen; rw [List.length_append]; exact this
          obtain ⟨g, rfl⟩ : ∃ g, ah = some ⟨g, 0, none⟩ := by
            obtain ⟨g, cap, e, _⟩ := World.ownsRow.form hrh (by show 0 < (hA ++ p :: hB).length; omega)
            exact ⟨g, (Value.slice.inj e).1⟩
          have hrh : wr.ownsRow w.heap.size 87 3 (.slice (some ⟨g, 0, none⟩) s.hooks.length ch) (hA ++ p :: hB).length ((hA ++ p :: hB).map hookCells).flatten := hrh
          rw [hll] at hrh
          have hc2 : wr.drew.cell? ⟨g, k * 3 + 2, none⟩ = some (.slice A' p.1.loops.length C') := by
            show wr.cell? _ = _
            rw [hrh.cellAt (k * 3 + 2) (by omega), ← hp2]
            exact flat_at cells3h (by rw [List.getElem?_map, List.getElem?_append_right (by rw [HK.out]; exact Nat.le_refl _), HK.out, Nat.sub_self]; rfl) (show (hookCells p)[2]? = some p.2 from rfl)
          have hfz : wr.drew.frozen? ⟨g, k * 3 + 2, none⟩ = false := hrh.frozenAt _
          have hl2 : g < wr.drew.heap.size := lt_of_cell hc2
          have hl1 : pb < wr.drew.heap.size := hpl
          have hc1 : wr.drew.cell? ⟨pb, 1, none⟩ = some (.slice (some ⟨g, 0, none⟩) s.hooks.length ch) := c1
          have hbw' : Below w.heap.size w wr.drew := hbw.drew
          have HCi2 : Hid (∀ W, Below w.heap.size w W → Calls Tryz.prog 60 #[.slice A' p.1.loops.length C'] W fun e w' => cloneOut 3 1 p.1.loops.length (intV p.1.loops) W e w') := fun W hb =>
            HCi.out W A' C' p.1.loops (by have := HLL.out.1 p.1 (by rw [← HCk.out.hooks]; exact List.mem_map_of_mem (by simp)); omega) ((hsl.below hb).more hb.size)
          have hkm : (k : Int) < (s.hooks.length : Int) := by omega
          have hk0 : (0 : Int) ≤ (k : Int) := by omega
          clear hrh hll hsl hp2 HCi hbw hpl
          go_upto_region 5 with fail
          clear c1
          go_region_with (first | (go_at_call 60; refine (HCi2.out _ hbw').mono ?_; rintro e w' ⟨A2, C2, rfl, hrow, hb1⟩; have d1 := (bcell hb1 hl1 1).trans hc1; have d2 := (bcell hb1 hl2 (k * 3 + 2)).trans hc2; have d3 := (hb1.frozen (p := ⟨g, k * 3 + 2, none⟩) hl2).trans hfz))
          all_goals
            have HN := Lib.hid (CopyAt.stepH (HCk.out.to (Below.drew (Below.refl _ _))) hrow hb1 rfl)
            rw [HK.out] at HN
            have HLk := Lib.hid (show (hA ++ [(p.1, Value.slice A2 p.1.loops.length C2)]).length = k + 1 by rw [List.length_append, HK.out]; rfl)
            clear hrow hb1 d1 d2 d3 hc1 hc2 hfz HCi2 HCk hbw'
            go_wp2
            go_roundw
            case rel => exact ⟨k + 1, _, hA ++ [(p.1, Value.slice A2 p.1.loops.length C2)], hB, by omega, by go_num, rfl, HLk, HN⟩
            case measure => simp [intOf]; omega
      case neg =>
        obtain rfl : hB = [] := by
          have h1 := HCk.out.hlen
          have h2 := HK.out
          exact List.eq_nil_of_length_eq_zero (by omega)
        obtain ⟨_, c3, _⟩ := HCk.out.cells
        have hke : k = s.hooks.length := by omega
        clear HK
        subst hke
        go_wp2
        go_loopw [5, 54] (fun s5 s54 wr => ∃ (k : Nat) (v5 : Value) (mA mB : List (Mk × Value)), k ≤ s.made.length ∧ s54 = .int .i64 (k : Int) ∧ v5 = s5 ∧ Hid (mA.length = k) ∧ Hid (CopyAt w wr pb s hA [] mA mB (.slice ah s.hooks.length ch) vf (.slice am s.made.length cm))) (fun _ s54 _ => s.made.length - (intOf s54).toNat)
        case atStart => exact ⟨0, _, [], mv, Nat.zero_le _, rfl, rfl, rfl, HCk⟩
        case round =>
          obtain ⟨k, v5, mA, mB, hk, rfl, rfl, HK, HCm⟩ := hrel
          clear c3 HCk
          by_cases hlt : k < s.made.length
          case pos =>
            cases mB with
            | nil => exfalso; have h1 := HCm.out.mlen; have h2 := HK.out; simp at h1; omega
            | cons p mB =>
              obtain ⟨_, c1, hpl⟩ := HCm.out.cells
              obtain ⟨A', C', hp2, hsl⟩ := HCm.out.oldM p List.mem_cons_self
              have hbw := HCm.out.below
              have hrh := HCm.out.rm
              have hll : (mA ++ p :: mB).length = s.made.length := by have := HCm.out.mlen; rw [List.length_append]; exact this
              obtain ⟨g, rfl⟩ : ∃ g, am = some ⟨g, 0, none⟩ := by
                obtain ⟨g, cap, e, _⟩ := World.ownsRow.form hrh (by show 0 < (mA ++ p :: mB).length; omega)
                exact ⟨g, (Value.slice.inj e).1⟩
              have hrh : wr.ownsRow w.heap.size 57 4 (.slice (some ⟨g, 0, none⟩) s.made.length cm) (mA ++ p :: mB).length ((mA ++ p :: mB).map makeCells).flatten := hrh
              rw [hll] at hrh
              have hc2 : wr.drew.cell? ⟨g, k * 4, none⟩ = some (.slice A' p.1.parents.length C') := by
                show wr.cell? _ = _
                rw [hrh.cellAt (k * 4) (by omega), ← hp2]
                exact flat_at (i := 0) cells4m (by rw [List.getElem?_map, List.getElem?_append_right (by rw [HK.out]; exact Nat.le_refl _), HK.out, Nat.sub_self]; rfl) (show (makeCells p)[0]? = some p.2 from rfl)
              have hfz : wr.drew.frozen? ⟨g, k * 4, none⟩ = false := hrh.frozenAt _
              have hl2 : g < wr.drew.heap.size := lt_of_cell hc2
              have hl1 : pb < wr.drew.heap.size := hpl
              have hc1 : wr.drew.cell? ⟨pb, 3, none⟩ = some (.slice (some ⟨g, 0, none⟩) s.made.length cm) := c1
              have hbw' : Below w.heap.size w wr.drew := hbw.drew
              have HCi2 : Hid (∀ W, Below w.heap.size w W → Calls Tryz.prog 60 #[.slice A' p.1.parents.length C'] W fun e w' => cloneOut 3 1 p.1.parents.length (intV p.1.parents) W e w') := fun W hb =>
                HCi.out W A' C' p.1.parents (by have := HLL.out.2 p.1 (by rw [← HCm.out.made]; exact List.mem_map_of_mem (by simp)); omega) ((hsl.below hb).more hb.size)
              have hkm : (k : Int) < (s.made.length : Int) := by omega
              have hk0 : (0 : Int) ≤ (k : Int) := by omega
              clear hrh hll hsl hp2 HCi hbw hpl
              go_upto_region 10 with fail
              clear c1
              go_region_with (first | (go_at_call 60; refine (HCi2.out _ hbw').mono ?_; rintro e w' ⟨A2, C2, rfl, hrow, hb1⟩; have d1 := (bcell hb1 hl1 3).trans hc1; have d2 := (bcell hb1 hl2 (k * 4)).trans hc2; have d3 := (hb1.frozen (p := ⟨g, k * 4, none⟩) hl2).trans hfz))
              all_goals
                have HN := Lib.hid (CopyAt.stepM (HCm.out.to (Below.drew (Below.refl _ _))) hrow hb1 rfl)
                rw [HK.out] at HN
                have HLk := Lib.hid (show (mA ++ [(p.1, Value.slice A2 p.1.parents.length C2)]).length = k + 1 by rw [List.length_append, HK.out]; rfl)
                clear hrow hb1 d1 d2 d3 hc1 hc2 hfz HCi2 HCm hbw'
                go_wp2
                go_roundw
                case rel => exact ⟨k + 1, _, mA ++ [(p.1, Value.slice A2 p.1.parents.length C2)], mB, by omega, by go_num, rfl, HLk, HN⟩
                case measure => simp [intOf]; omega
          case neg =>
            obtain rfl : mB = [] := by
              have h1 := HCm.out.mlen
              have h2 := HK.out
              exact List.eq_nil_of_length_eq_zero (by omega)
            have HF := Lib.hid HCm.out.done
            have HB := Lib.hid HCm.out.below
            clear HCm HK HCi
            go_wp2
            go_ret
            exact ⟨pb, rfl, HF.out, HB.out⟩
end Go.Proofs.YtbnddpknejgmhaaGreat
namespace Go.Proofs.YtbnddpknejgmhaaGreat
open Go.RowKit Go.Shelf
set_option maxRecDepth 100000

theorem madeAll_at : ∀ {l : List Mk} {i k : Nat} {m : Mk}, madeAll i l = true → l[k]? = some m → madeOk (i + k) m = true
  | x :: l, i, 0, m, h, hm => by
    simp at hm; subst hm
    simp only [madeAll, Bool.and_eq_true] at h
    exact h.1
  | x :: l, i, k + 1, m, h, hm => by
    simp only [madeAll, Bool.and_eq_true] at h
    have := madeAll_at (l := l) (i := i + 1) (k := k) h.2 (by simpa using hm)
    rwa [show i + 1 + k = i + (k + 1) by omega] at this
theorem bed_made0 {s : BedS} (h : bedE s = 0) : madeAll 0 s.made = true := by
  unfold bedE at h
  cases hb : bedOk s with
  | false => rw [hb] at h; simp at h
  | true =>
    unfold bedOk at hb
    simp only [Bool.and_eq_true] at hb
    exact hb.1.1.1.2
theorem bed_parents {s : BedS} (h : bedE s = 0) : ∀ m ∈ s.made, m.parents.length ≤ 6 := fun m hm => by
  obtain ⟨k, hk⟩ := List.mem_iff_getElem?.1 hm
  have := madeAll_at (bed_made0 h) hk
  unfold madeOk at this
  rw [Bool.and_eq_true] at this
  exact (of_decide_eq_true this.1).2.2.2
theorem bed_loops {s : BedS} (h : bedE s = 0) : ∀ x ∈ s.hooks, 0 < x.loops.length ∧ x.loops.length ≤ 6 := fun x hx => by
  have := (bed_zero h).1 x hx
  unfold hookOk at this
  have h2 := of_decide_eq_true this
  exact ⟨h2.2.2.1, h2.2.2.2⟩
theorem bed_seek {s : BedS} (h : bedE s = 0) (hwf : s.wf) (hn : s.hooks.length ≤ 9000) : Seek s.hooks := ⟨hn, fun x hx => by
  have := (bed_zero h).1 x hx
  unfold hookOk at this
  have h2 := of_decide_eq_true this
  have h3 := hwf.1 x hx
  unfold Hk.wf at h3
  unfold Hk.near
  unfold needleP at h2
  exact ⟨h3.1, h2.1, h2.2.1.1, h2.2.1.2⟩, (bed_zero h).2.2.1⟩
def onR (s : BedS) (b n : Int) : List Int × Int := if bedE s ≠ 0 then ([], bedE s) else if ¬ (b ≤ 1 ∧ needleP n) then ([], 2) else (heldAt s.hooks b n, 0)
def onOut (s : BedS) (b n : Int) (w : World) (e : Ending) (w' : World) : Prop := ∃ A c, e = .returned (.tuple #[.slice A (onR s b n).1.length c, .int .i64 (onR s b n).2]) ∧ SlI w' w'.heap.size A (onR s b n).1 ∧ Below w.heap.size w w'
theorem onOut.mk' {s : BedS} {b n : Int} {l : List Int} {x : Int} {w w' : World} {A : Option Addr} {c : Nat} (h : onR s b n = (l, x)) (hs : SlI w' w'.heap.size A l) (hb : Below w.heap.size w w') : onOut s b n w (.returned (.tuple #[.slice A l.length c, .int .i64 x])) w' := ⟨A, c, by rw [h], by rw [h]; exact hs, hb⟩
theorem onOut.nil {s : BedS} {b n : Int} {x : Int} {w w' : World} {A : Option Addr} {c : Nat} (h : onR s b n = ([], x)) (hb : Below w.heap.size w w') : onOut s b n w (.returned (.tuple #[.slice A 0 c, .int .i64 x])) w' := onOut.mk' h SlI.nil hb
set_option maxHeartbeats 4000000 in
theorem on_any (s : BedS) (p : BedP) (hwf : s.wf) (hn : s.hooks.length ≤ 9000 ∧ s.feeds.length ≤ 9000 ∧ s.made.length ≤ 9000) (b n : Int) (hb : 0 ≤ b) (w : World) (hs : BedAt w w.heap.size p s) :
    Calls Tryz.prog 14 #[s.val p, .int .u8 b, .int .i64 n] w fun e w' => onOut s b n w e w' := by
  have HC := Lib.hid (fun (w1 : World) (hb : Below w.heap.size w w1) => bcheck_any s p hwf ⟨by omega, by omega, by omega⟩ w1 ((hs.below hb).more hb.size))
  have HAl := Lib.hid ((Below.refl w.heap.size w).alloc (Nat.le_refl _) (.cells #[.int .i64 s.rack, .slice p.ah s.hooks.length p.ch, .slice p.af s.feeds.length p.cf, .slice p.am s.made.length p.cm] 39))
  have HCS := Lib.hid (bed_box w s p)
  have HN := Lib.hid (fun w => needle_any n w)
  unfold RetB8 at HC
  by_cases he : bedE s = 0
  case neg =>
    have HF : Hid (onR s b n = ([], bedE s)) := by unfold Hid onR; rw [if_pos he]
    have e1 : (bedE s == 0) = false := by simp [he]
    have e2 : (bedE s != 0) = true := by simp [he]
    unfold BedS.val at HC ⊢
    generalize bedE s = x at HC HF e1 e2
    clear hs he
    go_enter Tryz.func14, Tryz.ntmps14
    go_upto_region 1 with fail
    obtain ⟨c0, c1, c2, c3⟩ := HCS.out _ (Below.refl _ _)
    go_wp2_with fail
    refine (HC.out _ HAl.out).mono ?_
    rintro e w1 ⟨rfl, hb1⟩
    have HB1 := Lib.hid (HAl.out.trans (hb1.mono (by simp)))
    clear hb1
    go_wp2
    go_ret2
    exact onOut.nil HF.out HB1.out
  rw [he] at HC
  by_cases hbn : b ≤ 1 ∧ needleP n
  case neg =>
    have HF : Hid (onR s b n = ([], 2)) := by unfold Hid onR; rw [if_neg (by simpa using he), if_pos hbn]
    unfold BedS.val at HC ⊢
    by_cases hb1 : 1 < b
    · clear hs he hbn
      go_enter Tryz.func14, Tryz.ntmps14
      go_upto_region 1 with fail
      obtain ⟨c0, c1, c2, c3⟩ := HCS.out _ (Below.refl _ _)
      go_wp2_with fail
      refine (HC.out _ HAl.out).mono ?_
      rintro e w1 ⟨rfl, hb1⟩
      have HB1 := Lib.hid (HAl.out.trans (hb1.mono (by simp)))
      clear hb1
      go_wp2
      go_ret2
      exact onOut.nil HF.out HB1.out
    · have hnp : ¬ needleP n := fun h => hbn ⟨by omega, h⟩
      rw [decide_eq_false hnp] at HN
      clear hs he hbn hnp
      go_enter Tryz.func14, Tryz.ntmps14
      go_upto_region 1 with fail
      obtain ⟨c0, c1, c2, c3⟩ := HCS.out _ (Below.refl _ _)
      go_wp2_with fail
      refine (HC.out _ HAl.out).mono ?_
      rintro e w1 ⟨rfl, hb1⟩
      have HB1 := Lib.hid (HAl.out.trans (hb1.mono (by simp)))
      clear hb1
      go_wp2_with (go_at_call 39; refine (HN.out _).mono ?_; rintro e w2 ⟨rfl, rfl⟩)
      go_ret2
      exact onOut.nil HF.out HB1.out
  case pos =>
    have HF : Hid (onR s b n = (heldAt s.hooks b n, 0)) := by unfold Hid onR; rw [if_neg (by simpa using he), if_neg (by simpa using hbn)]
    have HCo := Lib.hid (fun (w1 : World) (hb : Below w.heap.size w w1) => copied_any s p hn ⟨fun h hh => (bed_loops he h hh).2, bed_parents he⟩ w1 ((hs.below hb).more hb.size))
    have HTk := Lib.hid (fun (B pb : Nat) (w1 : World) (hBw : B ≤ w1.heap.size) (h : WorkX 84 w1 B pb s []) => take_any B pb s [] (bed_seek he hwf hn.1) b n ⟨hb, hbn.1⟩ hbn.2 w1 hBw h)
    rw [decide_eq_true hbn.2] at HN
    unfold BedS.val at HC HCo ⊢
    have hb1 : ¬ 1 < b := by omega
    clear hs he hbn
    go_enter Tryz.func14, Tryz.ntmps14
    go_upto_region 1 with fail
    obtain ⟨c0, c1, c2, c3⟩ := HCS.out _ (Below.refl _ _)
    go_wp2_with fail
    refine (HC.out _ HAl.out).mono ?_
    rintro e w1 ⟨rfl, hb1⟩
    have HB1 := Lib.hid (HAl.out.trans (hb1.mono (by simp)))
    obtain ⟨d0, d1, d2, d3⟩ := HCS.out w1 (hb1.mono (by simp))
    clear hb1 c0 c1 c2 c3
    go_wp2_with (go_at_call 39; refine (HN.out _).mono ?_; rintro e w2 ⟨rfl, rfl⟩)
    refine (HCo.out _ HB1.out).mono ?_
    rintro e w2 ⟨pb, rfl, hw2, hb2⟩
    have HW2 := Lib.hid hw2
    have HB2 := Lib.hid hb2
    clear hw2 hb2 d0 d1 d2 d3
    go_wp2_with fail
    refine (HTk.out _ _ _ HB2.out.size HW2.out).mono ?_
    rintro e w3 ⟨v, rfl, hw3, hb3⟩
    obtain ⟨A, c, rfl, _, hs3⟩ := rowI_form (hw3.row List.mem_cons_self)
    have HS3 := Lib.hid hs3
    have HB3 := Lib.hid (HB1.out.trans ((HB2.out.trans hb3).mono HB1.out.size))
    clear hw3 hb3 hs3
    go_wp2
    go_ret2
    exact onOut.mk' HF.out HS3.out HB3.out
end Go.Proofs.YtbnddpknejgmhaaGreat
