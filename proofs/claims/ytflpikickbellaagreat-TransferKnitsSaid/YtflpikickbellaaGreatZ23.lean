/- Layer 30. -/
import Derived.Test.YtflpikickbellaaGreatZ22
import Derived.Sort.CutIn
namespace Go.Proofs.YtflpikickbellaaGreat
open Go.RowKit Go.Shelf Go.Sort
set_option maxRecDepth 100000
theorem keepB {w0 W W' : World} {b : Nat} {v0 v1 v2 v3 : Value} (h : W.cell? ⟨b, 0, none⟩ = some v0 ∧ W.cell? ⟨b, 1, none⟩ = some v1 ∧ W.cell? ⟨b, 2, none⟩ = some v2 ∧ W.cell? ⟨b, 3, none⟩ = some v3 ∧ Below w0.heap.size w0 W) (hb : Below W.heap.size W W') :
 W'.cell? ⟨b, 0, none⟩ = some v0 ∧ W'.cell? ⟨b, 1, none⟩ = some v1 ∧ W'.cell? ⟨b, 2, none⟩ = some v2 ∧ W'.cell? ⟨b, 3, none⟩ = some v3 ∧ Below w0.heap.size w0 W' := by
 obtain ⟨h1, h2, h3, h4, h7⟩ := h
 have hl := lt_of_cell h1
 exact ⟨(bcell hb hl _).trans h1, (bcell hb hl _).trans h2, (bcell hb hl _).trans h3, (bcell hb hl _).trans h4, h7.trans (hb.mono h7.size)⟩
theorem keepB5 {w0 W : World} {b : Nat} {v0 v1 v2 v3 : Value} (h : W.cell? ⟨b, 0, none⟩ = some v0 ∧ W.cell? ⟨b, 1, none⟩ = some v1 ∧ W.cell? ⟨b, 2, none⟩ = some v2 ∧ W.cell? ⟨b, 3, none⟩ = some v3 ∧ Below w0.heap.size w0 W) : Below w0.heap.size w0 W := h.2.2.2.2
theorem copy_start {w W0 W1 W2 W3 : World} {s : BedS} {hv : List (Hk × Value)} {mv : List (Mk × Value)} {vh vf vm : Value} (b3 : Below W2.heap.size W2 W3) (r3 : (Own.mk 66 4 s.made.length vm (mv.map makeCells).flatten).lies W3 W2.heap.size)
 (b2 : Below W1.heap.size W1 W2) (r2 : (Own.mk 125 3 s.feeds.length vf (s.feeds.map Fd.cells).flatten).lies W2 W1.heap.size)
 (b1 : Below W0.heap.size W0 W1) (r1 : (Own.mk 82 3 s.hooks.length vh (hv.map hookCells).flatten).lies W1 W0.heap.size)
 (b0 : Below w.heap.size w W0) (e1 : hv.map Prod.fst = s.hooks) (o1 : ∀ p ∈ hv, OldI w w.heap.size p.2 p.1.loops) (e2 : mv.map Prod.fst = s.made) (o2 : ∀ p ∈ mv, OldI w w.heap.size p.2 p.1.parents) :
 CopyAt w (W3.alloc (.cells #[.int .i64 s.rack, vh, vf, vm] 90)) W3.heap.size s [] hv [] mv vh vf vm := by
 have z0 := b0.size
 have z1 := b1.size
 have z2 := b2.size
 have z3 := b3.size
 have h1 := (Owns.nil (w := W0) (B := w.heap.size)).add b1 z0 r1
 have h2 := h1.add b2 (by omega) r2
 have h3 := h2.add b3 (by omega) r3
 have h4 := h3.add (w' := W3.alloc (.cells #[.int .i64 s.rack, vh, vf, vm] 90)) (o := rowP 90 W3.heap.size s.rack vh vf vm) ((Below.refl _ _).alloc (Nat.le_refl _) _) (by omega)
  (World.ownsRow_lit W3 #[.int .i64 s.rack, vh, vf, vm] 1 (Nat.le_refl _) (by decide) rfl)
 have lh : hv.length = s.hooks.length := by rw [← e1, List.length_map]
 have lm : mv.length = s.made.length := by rw [← e2, List.length_map]
 refine ⟨e1, e2, o1, o2, ?_, (((b0.trans (b1.mono z0)).trans (b2.mono (by omega))).trans (b3.mono (by omega))).alloc (by omega) _⟩
 rw [← lh, ← lm] at h4
 refine h4.perm (List.Perm.cons _ ?_)
 exact ((List.Perm.swap _ _ _).trans (List.Perm.cons _ (List.Perm.swap _ _ _))).trans (List.Perm.swap _ _ _)
set_option maxHeartbeats 4000000 in
theorem copied_any (s : BedS) (p : BedP) (hn : s.hooks.length ≤ 9000 ∧ s.feeds.length ≤ 9000 ∧ s.made.length ≤ 9000) (hll : (∀ h ∈ s.hooks, h.loops.length ≤ 6) ∧ ∀ m ∈ s.made, m.parents.length ≤ 6) (w : World) (hs : BedAt w w.heap.size p s) :
 Calls Tryz.prog 34 #[s.val p] w fun e w' => ∃ pb, e = .returned (.pointer (some ⟨pb, 0, none⟩)) ∧ WorkX 90 w' w.heap.size pb s [] ∧ Below w.heap.size w w' := by
 unfold BedS.val
 obtain ⟨hv, hve, hvs, hvo⟩ := hs.hooks.vals
 obtain ⟨mv, mve, mvs, mvo⟩ := hs.made.vals
 have HCS := Lib.hid (bed_box w s p)
 have HLL := Lib.hid hll
 clear hll
 have hlh : hv.length = s.hooks.length := by rw [← hve, List.length_map]
 have hlm : mv.length = s.made.length := by rw [← mve, List.length_map]
 have src : ∀ {sz : Nat} {A : Option Addr} {zs : List (List Value)} {n : Nat}, (∀ cs ∈ zs, cs.length = sz) → zs.length = n → SlS sz w w.heap.size A zs → ∀ W, Below w.heap.size w W → 0 < n → ∃ b off, A = some ⟨b, off, none⟩ ∧ b < W.heap.size ∧ ∀ j u, zs.flatten[j]? = some u → W.cell? ⟨b, off + j, none⟩ = some u := fun {sz A zs n} hl hn h W hb hp => by
  obtain ⟨b, off, e, hB, _⟩ := h (fun e => by subst e; simp at hn; omega)
  subst e
  exact ⟨b, off, rfl, by have := hb.size; omega, fun j u hu => by
   have := SlS.flat hl h j u hu
   rw [addr_plus] at this
   exact (bcell hb hB _).trans this⟩
 have HCh : Hid (∀ W, Below w.heap.size w W → Calls Tryz.prog 72 #[.slice p.ah s.hooks.length p.ch] W fun e w' => cloneOut 82 3 s.hooks.length (hv.map hookCells).flatten W e w') := fun W hb =>
  cloneH_any p.ah p.ch s.hooks.length _ (by rw [flat_len cells3h, List.length_map, hlh]) (one3h fun q hq => (hvo q hq).one) (by omega) W (src cells3h (by rw [List.length_map, hlh]) hvs W hb)
 have HCf : Hid (∀ W, Below w.heap.size w W → Calls Tryz.prog 73 #[.slice p.af s.feeds.length p.cf] W fun e w' => cloneOut 125 3 s.feeds.length (s.feeds.map Fd.cells).flatten W e w') := fun W hb =>
  cloneF_any p.af p.cf s.feeds.length _ (by rw [flat_len (cells3f _), List.length_map]) (one3f _) (by omega) W (src (cells3f _) (by rw [List.length_map]) hs.feeds W hb)
 have HCm : Hid (∀ W, Below w.heap.size w W → Calls Tryz.prog 74 #[.slice p.am s.made.length p.cm] W fun e w' => cloneOut 66 4 s.made.length (mv.map makeCells).flatten W e w') := fun W hb =>
  cloneM_any p.am p.cm s.made.length _ (by rw [flat_len cells4m, List.length_map, hlm]) (one4m fun q hq => (mvo q hq).one) (by omega) W (src cells4m (by rw [List.length_map, hlm]) mvs W hb)
 have HVE := Lib.hid hve
 have HVO := Lib.hid hvo
 have HME := Lib.hid mve
 have HMO := Lib.hid mvo
 have HLN := Lib.hid (show _ ∧ _ from ⟨hlh, hlm⟩)
 have HBx : Hid (∀ o, Below w.heap.size w (w.alloc o)) := fun o => (Below.refl _ w).alloc (Nat.le_refl _) o
 clear hve hvs hvo mve mvs mvo hs src hlh hlm
 go_enter Tryz.func34, Tryz.ntmps34
 go_upto_region 1 with fail
 obtain ⟨w0, hw0⟩ : ∃ w0, w0 = w.alloc (.cells #[.int .i64 s.rack, .slice p.ah s.hooks.length p.ch, .slice p.af s.feeds.length p.cf, .slice p.am s.made.length p.cm] 39) := ⟨_, rfl⟩
 have hHB := HBx.out (.cells #[.int .i64 s.rack, .slice p.ah s.hooks.length p.ch, .slice p.af s.feeds.length p.cf, .slice p.am s.made.length p.cm] 39)
 rw [← hw0] at HCS hHB ⊢
 obtain ⟨c0, c1, c2, c3⟩ := HCS.out w0 (Below.refl _ _)
 have HS0 : Hid (w0.cell? ⟨w.heap.size, 0, none⟩ = some (.int .i64 s.rack) ∧ w0.cell? ⟨w.heap.size, 1, none⟩ = some (.slice p.ah s.hooks.length p.ch) ∧ w0.cell? ⟨w.heap.size, 2, none⟩ = some (.slice p.af s.feeds.length p.cf) ∧ w0.cell? ⟨w.heap.size, 3, none⟩ = some (.slice p.am s.made.length p.cm) ∧ Below w.heap.size w w0) := ⟨c0, c1, c2, c3, hHB⟩
 clear hw0 c0 c1 c2 c3 hHB
 go_cut [3] (fun s3 wr => ∃ (pb : Nat) (vh vf vm : Value), s3 = .pointer (some ⟨pb, 0, none⟩) ∧ Hid (CopyAt w wr pb s [] hv [] mv vh vf vm))
 case first =>
  go_region_held3 (fun W => W.cell? ⟨w.heap.size, 0, none⟩ = some (.int .i64 s.rack) ∧ W.cell? ⟨w.heap.size, 1, none⟩ = some (.slice p.ah s.hooks.length p.ch) ∧ W.cell? ⟨w.heap.size, 2, none⟩ = some (.slice p.af s.feeds.length p.cf) ∧ W.cell? ⟨w.heap.size, 3, none⟩ = some (.slice p.am s.made.length p.cm) ∧ Below w.heap.size w W)
   (first | exact keepB HS0.out (Below.drew (Below.refl _ _)) | exact keepB (by assumption) (by assumption) | exact keepB (by assumption) ((Below.refl _ _).alloc (Nat.le_refl _) _))
   (first | (go_at_call 72; refine (HCh.out _ (keepB5 (by assumption))).mono ?_; rintro e w' ⟨A', C', rfl, hrow, hb1⟩) | (go_at_call 73; refine (HCf.out _ (keepB5 (by assumption))).mono ?_; rintro e w' ⟨A', C', rfl, hrow, hb1⟩) | (go_at_call 74; refine (HCm.out _ (keepB5 (by assumption))).mono ?_; rintro e w' ⟨A', C', rfl, hrow, hb1⟩))
  go_wp2_with fail
  go_meet
  have h1 := HVE.out
  have h2 := HVO.out
  have h3 := HME.out
  have h4 := HMO.out
  have h0 : Below w.heap.size w w0.drew := HS0.out.2.2.2.2.drew
  clear HCh HCf HCm
  refine ⟨_, _, _, _, rfl, copy_start (by assumption) (by assumption) (by assumption) (by assumption) (by assumption) (by assumption) h0 h1 h2 h3 h4⟩
 case rest =>
  obtain ⟨pb, vh, vf, vm, rfl, HC⟩ := hcut
  clear HCh HCf HCm HVE HVO HME HMO HS0
  obtain ⟨c1, c3, _⟩ := HC.out.cells
  have HLh := Lib.hid (own_slice HC.out.rh)
  have HLm := Lib.hid (own_slice HC.out.rm)
  obtain ⟨ah, ch, eh, hch⟩ := HLh.out
  have eh' : vh = .slice ah ([] ++ hv).length ch := eh
  rw [List.nil_append, HLN.out.1] at eh'
  subst eh'
  obtain ⟨am, cm, em, hcm⟩ := HLm.out
  have em' : vm = .slice am ([] ++ mv).length cm := em
  rw [List.nil_append, HLN.out.2] at em'
  subst em'
  clear eh em HLh HLm hch hcm
  have HCi : Hid (∀ (W : World) (A : Option Addr) (c : Nat) (l : List Int), l.length ≤ 1000000 → SlI W W.heap.size A l → Calls Tryz.prog 75 #[.slice A l.length c] W fun e w' => cloneOut 3 1 l.length (intV l) W e w') := fun W A c l hl h =>
   cloneI_any A c l.length (intV l) (by rw [intV_lenB, Nat.mul_one]) (intV_one' l) hl W (fun hp => by
    obtain ⟨b, off, e, hB, hc⟩ := h (fun e => by subst e; simp at hp)
    subst e
    refine ⟨b, off, rfl, hB, fun j u hu => ?_⟩
    have := slI_news (W := W) (B := W.heap.size) h j u hu
    rwa [addr_plus] at this)
  go_wp2
  go_loopw [4, 26] (fun s4 s26 wr => ∃ (k : Nat) (v4 : Value) (hA hB : List (Hk × Value)), k ≤ s.hooks.length ∧ s26 = .int .i64 (k : Int) ∧ v4 = s4 ∧ Hid (hA.length = k) ∧ Hid (CopyAt w wr pb s hA hB [] mv (.slice ah s.hooks.length ch) vf (.slice am s.made.length cm))) (fun _ s26 _ => s.hooks.length - (intOf s26).toNat)
  case atStart => exact ⟨0, _, [], hv, Nat.zero_le _, rfl, rfl, rfl, HC⟩
  case round =>
   obtain ⟨k, v4, hA, hB, hk, rfl, rfl, HK, HCk⟩ := hrel
   clear c1 c3 HC
   by_cases hlt : k < s.hooks.length
   case pos =>
    cases hB with
    | nil => exfalso; have h1 := HCk.out.hlen; have h2 := HK.out; simp at h1; omega
    | cons p hB =>
      obtain ⟨c1, _, hpl⟩ := HCk.out.cells
      obtain ⟨A', C', hp2, hsl⟩ := HCk.out.oldH p List.mem_cons_self
      have hbw := HCk.out.below
      have hrh := HCk.out.rh
      have hll : (hA ++ p :: hB).length = s.hooks.length := by have := HCk.out.hlen; rw [List.length_append]; exact this
      obtain ⟨g, rfl⟩ : ∃ g, ah = some ⟨g, 0, none⟩ := by
       obtain ⟨g, cap, e, _⟩ := World.ownsRow.form hrh (by show 0 < (hA ++ p :: hB).length; omega)
       exact ⟨g, (Value.slice.inj e).1⟩
      have hrh : wr.ownsRow w.heap.size 82 3 (.slice (some ⟨g, 0, none⟩) s.hooks.length ch) (hA ++ p :: hB).length ((hA ++ p :: hB).map hookCells).flatten := hrh
      rw [hll] at hrh
      have hc2 : wr.drew.cell? ⟨g, k * 3 + 2, none⟩ = some (.slice A' p.1.loops.length C') := by
       show wr.cell? _ = _
       rw [hrh.cellAt (k * 3 + 2) (by omega), ← hp2]
       exact flat_at cells3h (by rw [List.getElem?_map, List.getElem?_append_right (by rw [HK.out]; exact Nat.le_refl _), HK.out, Nat.sub_self]; rfl) (show (hookCells p)[2]? = some p.2 from rfl)
      have hfz : wr.drew.frozen? ⟨g, k * 3 + 2, none⟩ = false := hrh.frozenAt _
      have hl2 : g < wr.drew.heap.size := lt_of_cell hc2
      have hl1 : pb < wr.drew.heap.size := hpl
      have hc1 : wr.drew.cell? ⟨pb, 1, none⟩ = some (.slice (some ⟨g, 0, none⟩) s.hooks.length ch) := c1
      have hbw' : Below w.heap.size w wr.drew := hbw.drew
      have HCi2 : Hid (∀ W, Below w.heap.size w W → Calls Tryz.prog 75 #[.slice A' p.1.loops.length C'] W fun e w' => cloneOut 3 1 p.1.loops.length (intV p.1.loops) W e w') := fun W hb =>
       HCi.out W A' C' p.1.loops (by have := HLL.out.1 p.1 (by rw [← HCk.out.hooks]; exact List.mem_map_of_mem (by simp)); omega) ((hsl.below hb).more hb.size)
      have hkm : (k : Int) < (s.hooks.length : Int) := by omega
      have hk0 : (0 : Int) ≤ (k : Int) := by omega
      clear hrh hll hsl hp2 HCi hbw hpl
      go_upto_region 5 with fail
      clear c1
      go_region_with (first | (go_at_call 75; refine (HCi2.out _ hbw').mono ?_; rintro e w' ⟨A2, C2, rfl, hrow, hb1⟩; have d1 := (bcell hb1 hl1 1).trans hc1; have d2 := (bcell hb1 hl2 (k * 3 + 2)).trans hc2; have d3 := (hb1.frozen (p := ⟨g, k * 3 + 2, none⟩) hl2).trans hfz))
      all_goals
       have HN := Lib.hid (CopyAt.stepH (HCk.out.to (Below.drew (Below.refl _ _))) hrow hb1 rfl)
       rw [HK.out] at HN
       have HLk := Lib.hid (show (hA ++ [(p.1, Value.slice A2 p.1.loops.length C2)]).length = k + 1 by rw [List.length_append, HK.out]; rfl)
       clear hrow hb1 d1 d2 d3 hc1 hc2 hfz HCi2 HCk hbw'
       go_wp2
       go_roundw
       case rel => exact ⟨k + 1, _, hA ++ [(p.1, Value.slice A2 p.1.loops.length C2)], hB, by omega, by go_num, rfl, HLk, HN⟩
       case measure => simp [intOf]; omega
   case neg =>
    obtain rfl : hB = [] := by
     have h1 := HCk.out.hlen
     have h2 := HK.out
     exact List.eq_nil_of_length_eq_zero (by omega)
    obtain ⟨_, c3, _⟩ := HCk.out.cells
    have hke : k = s.hooks.length := by omega
    clear HK
    subst hke
    go_wp2
    go_loopw [5, 54] (fun s5 s54 wr => ∃ (k : Nat) (v5 : Value) (mA mB : List (Mk × Value)), k ≤ s.made.length ∧ s54 = .int .i64 (k : Int) ∧ v5 = s5 ∧ Hid (mA.length = k) ∧ Hid (CopyAt w wr pb s hA [] mA mB (.slice ah s.hooks.length ch) vf (.slice am s.made.length cm))) (fun _ s54 _ => s.made.length - (intOf s54).toNat)
    case atStart => exact ⟨0, _, [], mv, Nat.zero_le _, rfl, rfl, rfl, HCk⟩
    case round =>
     obtain ⟨k, v5, mA, mB, hk, rfl, rfl, HK, HCm⟩ := hrel
     clear c3 HCk
     by_cases hlt : k < s.made.length
     case pos =>
      cases mB with
      | nil => exfalso; have h1 := HCm.out.mlen; have h2 := HK.out; simp at h1; omega
      | cons p mB =>
        obtain ⟨_, c1, hpl⟩ := HCm.out.cells
        obtain ⟨A', C', hp2, hsl⟩ := HCm.out.oldM p List.mem_cons_self
        have hbw := HCm.out.below
        have hrh := HCm.out.rm
        have hll : (mA ++ p :: mB).length = s.made.length := by have := HCm.out.mlen; rw [List.length_append]; exact this
        obtain ⟨g, rfl⟩ : ∃ g, am = some ⟨g, 0, none⟩ := by
         obtain ⟨g, cap, e, _⟩ := World.ownsRow.form hrh (by show 0 < (mA ++ p :: mB).length; omega)
         exact ⟨g, (Value.slice.inj e).1⟩
        have hrh : wr.ownsRow w.heap.size 66 4 (.slice (some ⟨g, 0, none⟩) s.made.length cm) (mA ++ p :: mB).length ((mA ++ p :: mB).map makeCells).flatten := hrh
        rw [hll] at hrh
        have hc2 : wr.drew.cell? ⟨g, k * 4, none⟩ = some (.slice A' p.1.parents.length C') := by
         show wr.cell? _ = _
         rw [hrh.cellAt (k * 4) (by omega), ← hp2]
         exact flat_at (i := 0) cells4m (by rw [List.getElem?_map, List.getElem?_append_right (by rw [HK.out]; exact Nat.le_refl _), HK.out, Nat.sub_self]; rfl) (show (makeCells p)[0]? = some p.2 from rfl)
        have hfz : wr.drew.frozen? ⟨g, k * 4, none⟩ = false := hrh.frozenAt _
        have hl2 : g < wr.drew.heap.size := lt_of_cell hc2
        have hl1 : pb < wr.drew.heap.size := hpl
        have hc1 : wr.drew.cell? ⟨pb, 3, none⟩ = some (.slice (some ⟨g, 0, none⟩) s.made.length cm) := c1
        have hbw' : Below w.heap.size w wr.drew := hbw.drew
        have HCi2 : Hid (∀ W, Below w.heap.size w W → Calls Tryz.prog 75 #[.slice A' p.1.parents.length C'] W fun e w' => cloneOut 3 1 p.1.parents.length (intV p.1.parents) W e w') := fun W hb =>
         HCi.out W A' C' p.1.parents (by have := HLL.out.2 p.1 (by rw [← HCm.out.made]; exact List.mem_map_of_mem (by simp)); omega) ((hsl.below hb).more hb.size)
        have hkm : (k : Int) < (s.made.length : Int) := by omega
        have hk0 : (0 : Int) ≤ (k : Int) := by omega
        clear hrh hll hsl hp2 HCi hbw hpl
        go_upto_region 10 with fail
        clear c1
        go_region_with (first | (go_at_call 75; refine (HCi2.out _ hbw').mono ?_; rintro e w' ⟨A2, C2, rfl, hrow, hb1⟩; have d1 := (bcell hb1 hl1 3).trans hc1; have d2 := (bcell hb1 hl2 (k * 4)).trans hc2; have d3 := (hb1.frozen (p := ⟨g, k * 4, none⟩) hl2).trans hfz))
        all_goals
         have HN := Lib.hid (CopyAt.stepM (HCm.out.to (Below.drew (Below.refl _ _))) hrow hb1 rfl)
         rw [HK.out] at HN
         have HLk := Lib.hid (show (mA ++ [(p.1, Value.slice A2 p.1.parents.length C2)]).length = k + 1 by rw [List.length_append, HK.out]; rfl)
         clear hrow hb1 d1 d2 d3 hc1 hc2 hfz HCi2 HCm hbw'
         go_wp2
         go_roundw
         case rel => exact ⟨k + 1, _, mA ++ [(p.1, Value.slice A2 p.1.parents.length C2)], mB, by omega, by go_num, rfl, HLk, HN⟩
         case measure => simp [intOf]; omega
     case neg =>
      obtain rfl : mB = [] := by
       have h1 := HCm.out.mlen
       have h2 := HK.out
       exact List.eq_nil_of_length_eq_zero (by omega)
      have HF := Lib.hid HCm.out.done
      have HB := Lib.hid HCm.out.below
      clear HCm HK HCi
      go_wp2
      go_ret
      exact ⟨pb, rfl, HF.out, HB.out⟩
end Go.Proofs.YtflpikickbellaaGreat
namespace Go.Proofs.YtflpikickbellaaGreat
open Go.RowKit Go.Shelf
set_option maxRecDepth 100000
theorem madeAll_at : ∀ {l : List Mk} {i k : Nat} {m : Mk}, madeAll i l = true → l[k]? = some m → madeOk (i + k) m = true
 | x :: l, i, 0, m, h, hm => by
   simp at hm; subst hm
   simp only [madeAll, Bool.and_eq_true] at h
   exact h.1
 | x :: l, i, k + 1, m, h, hm => by
   simp only [madeAll, Bool.and_eq_true] at h
   have := madeAll_at (l := l) (i := i + 1) (k := k) h.2 (by simpa using hm)
   rwa [show i + 1 + k = i + (k + 1) by omega] at this
theorem bed_made0 {s : BedS} (h : bedE s = 0) : madeAll 0 s.made = true := by
 unfold bedE at h
 cases hb : bedOk s with
 | false => rw [hb] at h; simp at h
 | true =>
   unfold bedOk at hb
   simp only [Bool.and_eq_true] at hb
   exact hb.1.1.1.2
theorem bed_parents {s : BedS} (h : bedE s = 0) : ∀ m ∈ s.made, m.parents.length ≤ 6 := fun m hm => by
 obtain ⟨k, hk⟩ := List.mem_iff_getElem?.1 hm
 have := madeAll_at (bed_made0 h) hk
 unfold madeOk at this
 rw [Bool.and_eq_true] at this
 exact (of_decide_eq_true this.1).2.2.2
theorem bed_loops {s : BedS} (h : bedE s = 0) : ∀ x ∈ s.hooks, 0 < x.loops.length ∧ x.loops.length ≤ 6 := fun x hx => by
 have := (bed_zero h).1 x hx
 unfold hookOk at this
 have h2 := of_decide_eq_true this
 exact ⟨h2.2.2.1, h2.2.2.2⟩
end Go.Proofs.YtflpikickbellaaGreat
namespace Go.Proofs.YtflpikickbellaaGreat
open Go.RowKit Go.Shelf Go.Sort
set_option maxRecDepth 100000
theorem ris_of_pair {α : Type} {lt : α → α → Bool} : ∀ {l : List α}, l.Pairwise (fun a b => lt a b = true) → risB lt l = true
 | [], _ => rfl
 | [_], _ => rfl
 | a :: b :: t, h => by
   simp only [risB, Bool.and_eq_true]
   have h2 := List.pairwise_cons.1 h
   exact ⟨h2.1 b List.mem_cons_self, ris_of_pair h2.2⟩
theorem Seek.sub {l l' : List Hk} (h : Seek l) (hs : l'.Sublist l) : Seek l' :=
 ⟨Nat.le_trans hs.length_le h.len, fun x hx => h.near x (hs.subset hx), ris_of_pair ((ris_pair ltH_tr h.ris).sublist hs)⟩
theorem filter_app_sub {α : Type} {p q : α → Bool} : ∀ {l : List α}, l.Pairwise (fun a b => q a = true → p b = false) → (∀ x ∈ l, ¬ (p x = true ∧ q x = true)) → (l.filter p ++ l.filter q).Sublist l
 | [], _, _ => by simp
 | a :: l, h, hpq => by
   have h2 := List.pairwise_cons.1 h
   have ih := filter_app_sub h2.2 (fun x hx => hpq x (List.mem_cons_of_mem _ hx))
   cases hp : p a with
   | true =>
     have hq : q a = false := by
      cases hq : q a with
      | false => rfl
      | true => exact absurd ⟨hp, hq⟩ (hpq a List.mem_cons_self)
     rw [List.filter_cons_of_pos hp, List.filter_cons_of_neg (by rw [hq]; simp), List.cons_append]
     exact ih.cons_cons a
   | false =>
     cases hq : q a with
     | false =>
       rw [List.filter_cons_of_neg (by rw [hp]; simp), List.filter_cons_of_neg (by rw [hq]; simp)]
       exact ih.cons a
     | true =>
       have hnil : l.filter p = [] := List.filter_eq_nil_iff.2 fun x hx => by rw [h2.1 x hx hq]; simp
       rw [hnil, List.nil_append] at ih
       rw [List.filter_cons_of_neg (by rw [hp]; simp), hnil, List.nil_append, List.filter_cons_of_pos hq]
       exact ih.cons_cons a
theorem set_sub {α : Type} {f : α → Int} {l : List α} (h : Mono f l) : (setF f [] l).Sublist l := by
 unfold setF loF hiF
 rw [List.nil_append]
 refine filter_app_sub (h.imp fun {a b} hab hq => ?_) (fun x _ ⟨h1, h2⟩ => ?_)
 · have hq := of_decide_eq_true hq
   refine decide_eq_false fun hb => ?_
   have := hab (by omega)
   omega
 · have h1 := of_decide_eq_true h1
   have h2 := of_decide_eq_true h2
   omega
theorem take_sub {s : BedS} (h : Seek s.hooks) (b n : Int) : (takeS s b n).hooks.Sublist s.hooks := by
 unfold takeS putAt
 rw [if_pos rfl]
 exact set_sub (monoH h.ris b n)
theorem set_ne {α : Type} {f : α → Int} {l : List α} : ∀ x ∈ setF f [] l, f x ≠ 0 := fun x hx => by
 unfold setF at hx
 rw [List.nil_append] at hx
 rcases List.mem_append.1 hx with h | h
 · have := loF_lo h; omega
 · have := hiF_hi h; omega
theorem found_put {s : BedS} (hk : Seek s.hooks) {b n : Int} {i : Nat} {q : Bool} (hf : Found (fun j => keyH b n ((takeS s b n).hooks.getD j defH)) (takeS s b n).hooks.length i q) {ls : List Int} (hne : ls ≠ []) :
 i ≤ (takeS s b n).hooks.length ∧ putAt s.hooks b n ls = (takeS s b n).hooks.take i ++ ⟨b, n, ls⟩ :: (takeS s b n).hooks.drop i := by
 have hm := monoH (hk.sub (take_sub hk b n)).ris b n
 have h := found_split hm hf
 refine ⟨hf.le, ?_⟩
 have e : (takeS s b n).hooks = setF (keyH b n) [] s.hooks := by unfold takeS putAt; rw [if_pos rfl]
 cases q with
 | true =>
   obtain ⟨⟨x, hx, hz⟩, _⟩ := h.2.1 rfl
   exact absurd hz (set_ne x (by rw [← e]; exact List.mem_of_getElem? hx))
 | false =>
   have h2 := (h.2.2 rfl).1
   rw [← h.1, ← h2, e, loF_set, hiF_set]
   unfold putAt setF
   rw [if_neg hne]
   simp
theorem hook_ins (hv : List (Hk × Value)) (p : Hk × Value) (i : Nat) : (hv.map hookCells).flatten.take (i * 3) ++ (hookCells p ++ (hv.map hookCells).flatten.drop (i * 3)) = ((hv.take i ++ p :: hv.drop i).map hookCells).flatten := by
 have ht : ∀ k (L : List (Hk × Value)), (L.map hookCells).flatten.take (k * 3) = ((L.take k).map hookCells).flatten := by
  intro k
  induction k with
  | zero => intro L; simp
  | succ k ih =>
    intro L
    cases L with
    | nil => simp
    | cons a L =>
      simp only [List.map_cons, List.flatten_cons, List.take_succ_cons]
      rw [show (k + 1) * 3 = (hookCells a).length + k * 3 by simp [hookCells]; omega, List.take_length_add_append, ih]
 have hd : ∀ k (L : List (Hk × Value)), (L.map hookCells).flatten.drop (k * 3) = ((L.drop k).map hookCells).flatten := by
  intro k
  induction k with
  | zero => intro L; simp
  | succ k ih =>
    intro L
    cases L with
    | nil => simp
    | cons a L =>
      simp only [List.map_cons, List.flatten_cons, List.drop_succ_cons]
      rw [show (k + 1) * 3 = (hookCells a).length + k * 3 by simp [hookCells]; omega, List.drop_length_add_append, ih]
 rw [ht, hd]; simp
def stopV (x : Int) : Value := .iface 135 (.agg #[.int .i64 x])
def stopE (x : Int) : Ending := .panicked [{ v := stopV x, recovered := false }]
def stepOut (B pb : Nat) (r : Option BedS) (X : List Own) (w : World) (e : Ending) (w' : World) : Prop :=
 match r with
 | some t => e = .returned (.tuple #[]) ∧ WorkX 90 w' B pb t X ∧ Below B w w'
 | none => e = stopE 36 ∧ Owns w' B X ∧ Below B w w'
theorem stepOut.stop {B pb : Nat} {r : Option BedS} {X : List Own} {w w' : World} (h : r = none) (ho : Owns w' B X) (hb : Below B w w') : stepOut B pb r X w (stopE 36) w' := by
 subst h; exact ⟨rfl, ho, hb⟩
theorem stepOut.go {B pb : Nat} {r : Option BedS} {t : BedS} {X : List Own} {w w' : World} (h : r = some t) (hw : WorkX 90 w' B pb t X) (hb : Below B w w') : stepOut B pb r X w (.returned (.tuple #[])) w' := by
 subst h; exact ⟨rfl, hw, hb⟩
set_option maxHeartbeats 4000000 in
theorem lay_any (B pb : Nat) (s : BedS) (X : List Own) (vl : Value) (l : List Int) (hk : Seek s.hooks) (hh : ∀ h ∈ s.hooks, h.loops.length ≤ 6) (hl : l.length ≤ 6) (b n : Int) (hb : 0 ≤ b ∧ b ≤ 1) (hn : needleP n) (w : World) (hBw : B ≤ w.heap.size) (hw : WorkX 90 w B pb s (rowI vl l :: X)) :
 Calls Tryz.prog 102 #[.pointer (some ⟨pb, 0, none⟩), .int .u8 b, .int .i64 n, vl] w fun e w' => stepOut B pb (layS s b n l) (rowI vl l :: X) w e w' := by
 have HTk := Lib.hid (take_any B pb s (rowI vl l :: X) hk b n hb hn w hBw hw)
 have hheld : (heldAt s.hooks b n).length ≤ 6 := by
  unfold heldAt
  split
  · rename_i h hf; exact hh h (List.mem_of_find?_eq_some hf)
  · simp
 have HK := Lib.hid hk
 obtain ⟨i0, hi, hz0, hz1, hz2⟩ := info_parts info_int'
 have HNB := Lib.hid (show _ ∧ _ from ⟨hb, hn⟩)
 clear hw hk hh hb hn
 go_enter Tryz.func102, Tryz.ntmps102
 go_upto_region 0 with fail
 go_cut [3] (fun s3 wr => ∃ v', v' = s3 ∧ Hid (WorkX 90 wr B pb (takeS s b n) (rowI v' (heldAt s.hooks b n ++ l) :: rowI vl l :: X)) ∧ Hid (Below B w wr))
 case first =>
  go_wp2_with fail
  refine HTk.out.mono ?_
  rintro e w1 ⟨v, rfl, hw1, hb1⟩
  obtain ⟨A, c, rfl, hc, -⟩ := rowI_form (hw1.row List.mem_cons_self)
  obtain ⟨A', c', rfl, hc', hs'⟩ := rowI_form (v := vl) (l := l) (hw1.row (by simp))
  have HB1 := Lib.hid hb1
  have HW1 := Lib.hid hw1
  have HL' := Lib.hid (hw1.row (o := rowI (.slice A' l.length c') l) (by simp))
  have hBz := Nat.le_trans hBw hb1.size
  clear hw1 hb1 HTk
  by_cases hln : l = []
  · subst hln
    have HN : Hid (WorkX 90 w1 B pb (takeS s b n) (rowI (.slice A (heldAt s.hooks b n).length c) (heldAt s.hooks b n ++ []) :: rowI (.slice A' ([] : List Int).length c') [] :: X)) := by rw [List.append_nil]; exact HW1
    clear HW1
    cases A' <;> cases A
    all_goals
     go_wp2_with fail
     go_meet
     exact ⟨_, rfl, HN, HB1⟩
  · have hlp : 0 < l.length := List.length_pos_iff.2 hln
    obtain ⟨g', cap', e', -, -⟩ := World.ownsRow.form HL'.out hlp
    have e2 : Value.slice A' l.length c' = .slice (some ⟨g', 0, none⟩) l.length cap' := e'
    cases e2
    have HNw : Hid (∀ j u, (intV l)[j]? = some u → w1.cell? ((⟨g', 0, none⟩ : Addr).add j) = some u) := slI_news hs'
    clear hs' e' HL'
    go_wp2_with (at_builtin; refine wpList_append_lies _ rfl _ _ _ rfl B 3 i0 _ 1 8 Tryz.underlying22 hi hz0 hz1 hz2 rfl (by omega) _ (heldAt s.hooks b n).length (intV (heldAt s.hooks b n)) rfl (HW1.out.row List.mem_cons_self) ⟨g', 0, none⟩ l.length c' (intV l) rfl (by rw [intV_lenB, Nat.mul_one]) HNw.out (intV_one' l) hlp (by unfold maxLen; omega) (by omega) hBz w1.heap.size rfl ?_; intro g cap w2 hown hgrow hat hlt; have HOw := Lib.hid hown; have HG := Lib.hid hgrow; have HA := Lib.hid hat; clear hown hgrow hat)
    go_meet
    refine ⟨_, rfl, ?_, ?_⟩
    · have e3 : (heldAt s.hooks b n ++ l).length = (heldAt s.hooks b n).length + l.length := List.length_append
      refine HW1.out.turn (o' := rowI _ _) HG.out ?_ (fun k hk => ?_)
      · unfold rowI Own.lies
        rw [e3, intV_app]
        exact HOw.out
      · obtain rfl : g = k := Option.some.inj hk
        rcases HA.out with h | h
        · exact Or.inl h
        · exact Or.inr (by omega)
    · exact HB1.out.trans (Below.of_grown HG.out hBz (fun k hk => (World.ownsRow.lt (HW1.out.row List.mem_cons_self) k hk).1))
 case rest =>
  obtain ⟨v', rfl, HW, HB⟩ := hcut
  obtain ⟨A2, c2, rfl, hc2, -⟩ := rowI_form (HW.out.row List.mem_cons_self)
  obtain ⟨ls, hls⟩ : ∃ ls, ls = heldAt s.hooks b n ++ l := ⟨_, rfl⟩
  rw [← hls] at HW hc2 ⊢
  have HS : Hid (layS s b n l = if 6 < ls.length then none else some { s with hooks := putAt s.hooks b n ls }) := by unfold Hid layS; rw [hls]
  have HLs := Lib.hid hls
  clear HTk hls hheld
  by_cases h6 : 6 < ls.length
  · have HF : Hid (layS s b n l = none) := by rw [Hid, HS.out, if_pos h6]
    have HO := Lib.hid HW.out.less.owns
    clear HS HW
    go_wp2
    exact ⟨rfl, stepOut.stop HF.out HO.out HB.out⟩
  have HF : Hid (layS s b n l = some { s with hooks := putAt s.hooks b n ls }) := by rw [Hid, HS.out, if_neg h6]
  clear HS
  by_cases h0 : ls = []
  · subst h0
    have HW2 := Lib.hid HW.out.less
    clear HW hc2
    go_wp2
    refine bodyPost_end (results_none rfl _ _ _) rfl ?_
    exact stepOut.go HF.out HW2.out HB.out
  · have hlp : 0 < ls.length := List.length_pos_iff.2 h0
    have hlp2 : (0 : Int) < (ls.length : Int) := by omega
    obtain ⟨hv, mv, vh, vf, vm, hwa⟩ := HW.out
    obtain ⟨A, c, rfl, hlc, hsl⟩ := hwa.slh
    have hcs := hwa.cells
    have HFi := Lib.hid (find_any pb A c (takeS s b n).hooks (HK.out.sub (take_sub HK.out b n)) b n HNB.out.1 HNB.out.2 wc hcs.2.1 hsl)
    have HWa := Lib.hid hwa
    have hBc : B ≤ wc.heap.size := by have := hwa.base; omega
    clear hwa hsl hcs HW
    go_wp2_with fail
    refine HFi.out.mono ?_
    rintro e w1 ⟨i, q, rfl, hf, hb1⟩
    have HP := Lib.hid (found_put HK.out hf h0)
    have HW1 := Lib.hid (HWa.out.to hb1)
    have HB1 := Lib.hid (HB.out.trans (hb1.mono hBc))
    have hle := hf.le
    clear hf hb1 HFi HWa HB
    have hc1 := HW1.out.cells.2.1
    have hBz : B ≤ w1.heap.size := by have := HW1.out.base; omega
    have HWl : Hid (∀ o, WorkAt 90 (w1.alloc o) B pb (takeS s b n) hv mv (.slice A (takeS s b n).hooks.length c) vf vm (rowI (.slice A2 ls.length c2) ls :: rowI vl l :: X)) := fun o => HW1.out.to ((Below.refl _ _).alloc (Nat.le_refl _) _)
    have HIn : Hid (Calls Tryz.prog 143 #[.slice A (takeS s b n).hooks.length c, .int .i64 i, .slice (some ⟨w1.heap.size, 0, none⟩) 1 1] (w1.alloc (.cells #[.int .u8 b, .int .i64 n, .slice A2 ls.length c2] 82)) fun e w' => insOutH B (takeS s b n).hooks.length (.slice A (takeS s b n).hooks.length c) ((hv.take i ++ (⟨b, n, ls⟩, .slice A2 ls.length c2) :: hv.drop i).map hookCells).flatten (w1.alloc (.cells #[.int .u8 b, .int .i64 n, .slice A2 ls.length c2] 82)) e w') := by
     rw [← hook_ins]
     have hln : hv.length = (takeS s b n).hooks.length := HW1.out.hlen
     have hlen : (takeS s b n).hooks.length ≤ 9000 := (HK.out.sub (take_sub HK.out b n)).len
     refine insertH_any B (takeS s b n).hooks.length i _ _ (one3h fun q hq => own_one (HW1.out.rl hq)) (by omega) _ ?_ hle (by simp; omega) w1.heap.size 1 [.int .u8 b, .int .i64 n, .slice A2 ls.length c2] rfl (heap_alloc_new w1 _) (by intro u hu; simp only [List.mem_cons, List.not_mem_nil, or_false] at hu; rcases hu with rfl | rfl | rfl <;> rfl) ?_
     · have := (HWl.out (.cells #[.int .u8 b, .int .i64 n, .slice A2 ls.length c2] 82)).rh
       unfold rowH Own.lies at this
       rw [hln] at this
       exact this
     · intro e
       have := (World.ownsRow.lt HW1.out.rh _ e).2
       omega
    clear hc1 hle
    have hc1 := (HWl.out (.cells #[.int .u8 b, .int .i64 n, .slice A2 ls.length c2] 82)).cells.2.1
    have hc1' := HW1.out.cells.2.1
    go_wp2_with fail
    refine HIn.out.mono ?_
    rintro e w2 ⟨g, c', rfl, ho, hg, hat⟩
    obtain ⟨-, d1, -, -, d4⟩ := (HWl.out _).struct hg HW1.out.pbH
    have d4' := d4 1
    have HO : Hid (WorkX 90 (w2.setCell ⟨pb, 1, none⟩ (.slice (some ⟨g, 0, none⟩) ((takeS s b n).hooks.length + 1) c')) B pb { s with hooks := putAt s.hooks b n ls } (rowI vl l :: X)) := by
     have hln : hv.length = (takeS s b n).hooks.length := HW1.out.hlen
     refine ⟨hv.take i ++ (⟨b, n, ls⟩, .slice A2 ls.length c2) :: hv.drop i, mv, _, vf, vm, (HWl.out _).setHooks hg ?_ (fun k hk => ?_) ?_ ?_⟩
     · have e1 : (hv.take i ++ ((⟨b, n, ls⟩, .slice A2 ls.length c2) : Hk × Value) :: hv.drop i).length = (takeS s b n).hooks.length + 1 := by
        have := HP.out.1
        simp; omega
       unfold rowH Own.lies
       rw [e1]
       exact ho
     · obtain rfl : g = k := Option.some.inj hk
       rcases hat with h | h
       · exact Or.inl h
       · exact Or.inr (by omega)
     · rw [HP.out.2, ← HW1.out.hooks]; simp
     · rw [List.map_append, List.map_cons]
       have e2 : hv.map rowL = (hv.take i).map rowL ++ (hv.drop i).map rowL := by rw [← List.map_append, List.take_append_drop]
       rw [e2]
       refine List.perm_middle.trans ?_
       refine List.Perm.trans ?_ (List.Perm.append_right _ List.perm_middle.symm)
       exact List.Perm.refl _
    have HB2 := Lib.hid (HB1.out.trans (((Below.refl B w1).alloc hBz (.cells #[.int .u8 b, .int .i64 n, .slice A2 ls.length c2] 82)).trans (Below.of_grown hg (by simp; omega) (fun k hk => (World.ownsRow.lt (HWl.out (.cells #[.int .u8 b, .int .i64 n, .slice A2 ls.length c2] 82)).rh k hk).1))))
    have hpb := HW1.out.base.1
    clear ho hg hat d4 HIn HWl HW1 hc1 hc1'
    go_wp2
    refine bodyPost_end (results_none rfl _ _ _) rfl ?_
    exact stepOut.go HF.out HO.out (HB2.out.setCell (by exact hpb) _)
end Go.Proofs.YtflpikickbellaaGreat
