/- Layer 27, the program: work. Layer 27, the program: work, of all kinds. slices.Backward over stitches. -/
import Derived.Test.YtbnddpknejgmhaaGreatKP26
import Derived.Test.YtbnddpknejgmhaaGreatKP27
import Derived.Test.YtbnddpknejgmhaaGreatKP19
import Derived.Deep.RegionHeld3
import Derived.Deep.DeepCutAuto
namespace Go.Proofs.YtbnddpknejgmhaaGreat
open Go.RowKit Go.Shelf Go.Sort
set_option maxRecDepth 100000

def WoPost (B pb : Nat) (t : Pw) (X : List Own) (w : World) (e : Ending) (w' : World) : Prop := e = .returned (.tuple #[]) ∧ QcE B pb t X w' ∧ Below B w w'
theorem usesE_one {s : Stc} (hs : s.ok = true) : allE [s] = 0 ∧ usesE [s] = usesS s := by
  have hn := (stc_k hs).nat
  have h0 : allE [s] = 0 := by
    unfold allE
    rw [if_neg (by simp), if_neg, if_neg]
    · simp [sumU, sumM]; omega
    · simp [Stc.err, hs]
  refine ⟨h0, ?_⟩
  unfold usesE
  rw [if_pos h0]
  simp [sumU]
theorem lit_stc (W : World) (s : Stc) : SlT (W.alloc (.cells #[.int .u8 s.kind, .bool s.purl, .int .i64 s.a, .int .i64 s.b] 51)) (W.alloc (.cells #[.int .u8 s.kind, .bool s.purl, .int .i64 s.a, .int .i64 s.b] 51)).heap.size (some ⟨W.heap.size, 0, none⟩) [s] := fun _ => by
  refine ⟨W.heap.size, 0, rfl, by simp, fun j cs hj i v hv => ?_⟩
  cases j with
  | succ j => simp at hj
  | zero =>
    simp at hj
    subst hj
    rw [Nat.zero_mul, Nat.add_zero, Nat.zero_add]
    exact cell_new rfl rfl (by simpa [Stc.cells] using hv)
theorem stc_wf {s : Stc} (h : s.ok = true) : s.wf := by
  have := stc_k h
  exact ⟨by have := this.lo; omega, by have := this.hi; omega⟩
/-- A new box of a loop beside the piece. -/
theorem QcE.box {B pb : Nat} {t : Pw} {X : List Own} {W : World} (h : QcE B pb t X W) (hB : B ≤ W.heap.size) (row k : Int) (purl : Bool) : QcE B pb t (lpO W.heap.size row k (.slice none 0 0) purl :: X) (W.alloc (.cells #[.int .i64 row, .int .i64 k, .slice none 0 0, .bool purl] 49)) ∧ Below B W (W.alloc (.cells #[.int .i64 row, .int .i64 k, .slice none 0 0, .bool purl] 49)) := by
  have hal := al_t W (.cells #[.int .i64 row, .int .i64 k, .slice none 0 0, .bool purl] 49)
  exact ⟨h.add hal hB (bxT_new W 49 [.int .i64 row, .int .i64 k, .slice none 0 0, .bool purl]), hal.mono hB⟩
/-- A row in an outer row of one. -/
theorem QcE.one {B pb : Nat} {t : Pw} {X : List Own} {W : World} {uv : Value} {u : List Int} (h : QcE B pb t (pxJ uv u :: X) W) (hB : B ≤ W.heap.size) : QcE B pb t (pxV (.slice (some ⟨W.heap.size, 0, none⟩) 1 1) [uv] :: (rowsO [uv] [u] ++ X)) (W.alloc (.cells #[uv] 43)) ∧ Below B W (W.alloc (.cells #[uv] 43)) := by
  have hal := al_t W (.cells #[uv] 43)
  exact ⟨h.add hal hB (bxT_new W 43 [uv]), hal.mono hB⟩
theorem QcE.rev {B pb : Nat} {t : Pw} {X : List Own} {W : World} {a : Option Addr} {n c : Nat} {l : List Int} (h : QcE B pb t (pxJ (.slice a n c) l :: X) W) (hn : l.length = n) (hl : n ≤ 1000000) (hB : B ≤ W.heap.size) :
    Calls Tryz.prog 85 #[.slice a n c] W fun e w' => e = .returned (.tuple #[]) ∧ QcE B pb t (pxJ (.slice a n c) l.reverse :: X) w' ∧ Below B W w' := by
  obtain ⟨vL, vB, vC, vR, vs, h⟩ := h
  exact (revJ_any h.front hn hl hB).mono fun e w' ⟨h1, h2, h3⟩ => ⟨h1, ⟨_, _, _, _, _, QcA.back h2 h.vl⟩, h3⟩
theorem QcE.nils {B pb : Nat} {t : Pw} {X : List Own} {W : World} (h : QcE B pb t X W) : ∀ n, QcE B pb t (rowsO (List.replicate n (.slice none 0 0)) (List.replicate n []) ++ X) W
  | 0 => h
  | n + 1 => by
    rw [List.replicate_succ, List.replicate_succ]
    exact (h.nils n).nil
theorem info_rowV : (Tryz.prog.info? 43).map (fun i => (i.zero, i.size, i.bytes)) = some (some (.slice none 0 0), 1, 24) := by kernel_rfl
theorem mk_vs (n : Nat) (hn : n ≤ 1000000) (w : World) : ∃ w', (Instr.makeSlice 147 (.int .i64 (n : Int)) (.int .i64 (n : Int))).run Tryz.prog w = .ok (.slice (some ⟨w.heap.size, 0, none⟩) n n) w' ∧ (pxV (.slice (some ⟨w.heap.size, 0, none⟩) n n) (List.replicate n (.slice none 0 0))).lies w' w.heap.size ∧ Below w.heap.size w w' := by
  obtain ⟨i1, hi', hz0', hz1', hz2'⟩ := info_parts info_rowV
  obtain ⟨w3, hmr, hob, hgb⟩ := run_make_full (P := Tryz.prog) w w.heap.size 147 43 i1 (.slice none 0 0) 1 Tryz.underlying147 hi' hz0' hz1' .i64 .i64 n (by rw [hz2']; omega) (by unfold maxLen; omega) (Nat.le_refl _)
  have hb := (Below.refl w.heap.size w).grown hgb (Nat.le_refl _) (fun k e => by cases e)
  refine ⟨w3, hmr, ?_, hb⟩
  have e : (madeCells (Value.slice none 0 0).cells (n * 1)).toList = List.replicate n (.slice none 0 0) := by
    rw [Nat.mul_one]
    exact toList_madeCells_one _ _
  rw [e] at hob
  unfold pxV Own.lies
  rw [List.length_replicate]
  exact hob
set_option maxHeartbeats 4000000 in
theorem pwork1 (B pb : Nat) (t : Pw) (row k : Int) (s : Stc) (hs : s.ok = true) (hk : s.kind = 1) (X : List Own) (hat : t.next + (usesS s).toNat ≤ t.lp.length) (hl : t.lp.length ≤ 50000) (w : World) (h : QcE B pb t X w) (hB : B ≤ w.heap.size) :
    Calls Tryz.prog 51 #[.pointer (some ⟨pb, 0, none⟩), .int .i64 row, .int .i64 k, s.val] w fun e w' => WoPost B pb (stepC row k s t) X w e w' := by
  have hK := stc_k hs
  obtain ⟨kind, purl, sa, sb⟩ := s
  obtain rfl : kind = 1 := hk
  have hal := al_t w (.cells #[.int .u8 1, .bool purl, .int .i64 sa, .int .i64 sb] 51)
  have HX : Hid (QcE B pb t (stB w.heap.size ⟨1, purl, sa, sb⟩ :: X) (w.alloc (.cells #[.int .u8 1, .bool purl, .int .i64 sa, .int .i64 sb] 51)) ∧ Below B w (w.alloc (.cells #[.int .u8 1, .bool purl, .int .i64 sa, .int .i64 sb] 51))) :=
    ⟨h.add hal hB (bxT_new w _ _), hal.mono hB⟩
  obtain ⟨cb, hcb⟩ : ∃ cb, cb = w.heap.size := ⟨_, rfl⟩
  rw [← hcb] at HX
  obtain ⟨U, hU⟩ : ∃ U : Nat, usesS ⟨1, purl, sa, sb⟩ = (U : Int) := ⟨(usesS ⟨1, purl, sa, sb⟩).toNat, by have := hK.nat; omega⟩
  have hU200 : U ≤ 200 := by have := hK.nat; omega
  have HUe := Lib.hid hU
  rw [hU, Int.toNat_natCast] at hat
  clear h hal
  show Calls Tryz.prog 51 #[_, _, _, .agg #[.int .u8 1, .bool purl, .int .i64 sa, .int .i64 sb]] w _
  go_enter Tryz.func51, Tryz.ntmps51
  go_upto_region 1 with fail
  refine abs_world (Q := fun W => Code.wp _ _ _ _ W) (F := fun W => QcE B pb t (stB cb ⟨1, purl, sa, sb⟩ :: X) W ∧ Below B w W) _ HX.out ?_
  clear HX
  rw [← hcb]
  clear hcb
  rintro W1 ⟨h1, hb1⟩
  obtain ⟨x0, x1, x2, x3⟩ := stB_at (h1.mem List.mem_cons_self)
  have hB1 : B ≤ W1.heap.size := Nat.le_trans hB hb1.size
  have hal1 := al_t W1 (.cells #[.int .u8 1, .bool purl, .int .i64 sa, .int .i64 sb] 51)
  obtain ⟨q1, q2⟩ := usesE_one hs
  have HC := uses_any (some ⟨W1.heap.size, 0, none⟩) 1 [⟨1, purl, sa, sb⟩] (fun x hx => by rw [List.mem_singleton.1 hx]; exact stc_wf hs) _ (lit_stc W1 ⟨1, purl, sa, sb⟩)
  rw [q1, q2, hU] at HC
  have HC1 := Lib.hid HC
  have HQ1 := Lib.hid (And.intro (h1.to hal1) (hb1.trans (hal1.mono hB1)))
  clear HC h1 hb1 hal1 q1 q2
  go_upto_region 2 with (go_at_call 77; refine HC1.out.mono ?_; rintro e w2 ⟨rfl, hb2⟩)
  refine abs_world (Q := fun W => Code.wp _ _ _ _ W) (F := fun W => QcE B pb t (stB cb ⟨1, purl, sa, sb⟩ :: X) W ∧ Below B w W) _ ⟨HQ1.out.1.to hb2, HQ1.out.2.trans (hb2.mono (Nat.le_trans hB HQ1.out.2.size))⟩ ?_
  clear HQ1 HC1 hb2 x0 x1 x2 x3 hB1
  rintro W2 ⟨h2, hb2⟩
  have HT := Lib.hid (ptake_any B pb t U (by omega) (by omega) _ W2 h2 (Nat.le_trans hB hb2.size))
  have HB2 := Lib.hid hb2
  clear h2 hb2
  go_upto_region 3 with (go_at_call 83; refine HT.out.mono ?_; rintro e w3 ⟨uv, rfl, h3, hb3⟩)
  have hb3' := HB2.out.trans hb3
  obtain ⟨ua, uc, rfl⟩ := pxJ_is (h3.mem List.mem_cons_self) (usedN_len _ _)
  obtain ⟨x0, x1, x2, x3⟩ := stB_at (h3.mem (List.mem_cons_of_mem _ List.mem_cons_self))
  obtain ⟨n1, n2⟩ := h3.box (Nat.le_trans hB hb3'.size) row k purl
  obtain ⟨lb, hlb⟩ : ∃ lb, lb = w3.heap.size := ⟨_, rfl⟩
  have HN := Lib.hid (And.intro n1 (hb3'.trans n2))
  rw [← hlb] at HN
  clear h3 hb3 hb3' n1 n2 HT HB2
  go_upto_region 4 with fail
  refine abs_world (Q := fun W => Code.wp _ _ _ _ W) (F := fun W => QcE B pb ⟨t.lp, t.bound, t.cross, t.rows, t.next + U⟩ (lpO lb row k (.slice none 0 0) purl :: pxJ (.slice ua U uc) (usedN t.next U) :: stB cb ⟨1, purl, sa, sb⟩ :: X) W ∧ Below B w W) _ HN.out ?_
  clear HN x0 x1 x2 x3
  rw [← hlb]
  clear hlb
  rintro W4 ⟨h4, hb4⟩
  have HSt : Hid (stepC row k ⟨1, purl, sa, sb⟩ t = ⟨t.lp ++ addL row k purl [usedN t.next U], t.bound, t.cross, t.rows, t.next + U⟩) := by
    show _ = _
    unfold stepC newsL boundL crossL
    rw [HUe.out, Int.toNat_natCast]
    simp [addL]
  have hP4 := h4.perm (List.Perm.swap _ _ _)
  have hB4 : B ≤ W4.heap.size := Nat.le_trans hB hb4.size
  obtain ⟨n1, n2⟩ := hP4.one hB4
  obtain ⟨x0, x1, x2, x3⟩ := stB_at (h4.mem (List.mem_cons_of_mem _ (List.mem_cons_of_mem _ List.mem_cons_self)))
  obtain ⟨b1, -⟩ := bxT_at (h4.mem List.mem_cons_self)
  have y0 := b1 0 _ rfl
  have y1 := b1 1 _ rfl
  have y2 := b1 2 _ rfl
  have y3 := b1 3 _ rfl
  have HA := Lib.hid (padd_any B pb ⟨t.lp, t.bound, t.cross, t.rows, t.next + U⟩ row k (.slice none 0 0) purl (some ⟨W4.heap.size, 0, none⟩) 1 1 [.slice ua U uc] [usedN t.next U] rfl rfl (by show t.lp.length + 1 ≤ 100000; omega) _ _ n1 (Nat.le_trans hB4 n2.size))
  have HB4 := Lib.hid (hb4.trans n2)
  clear h4 hP4 n1 n2 b1 hb4
  go_wp2_with (go_at_call 84; refine HA.out.mono ?_; rintro e w5 ⟨rfl, h5, hb5⟩)
  refine bodyPost_end (results_none rfl _ _ _) rfl ?_
  rw [HSt.out]
  exact ⟨rfl, h5.lift ((List.sublist_cons_self _ _).trans (List.sublist_cons_self _ _)), HB4.out.trans hb5⟩
set_option maxHeartbeats 4000000 in
theorem pwork8 (B pb : Nat) (t : Pw) (row k : Int) (s : Stc) (hs : s.ok = true) (hk : s.kind = 8) (X : List Own) (hat : t.next + (usesS s).toNat ≤ t.lp.length) (hl : t.lp.length ≤ 50000) (w : World) (h : QcE B pb t X w) (hB : B ≤ w.heap.size) :
    Calls Tryz.prog 51 #[.pointer (some ⟨pb, 0, none⟩), .int .i64 row, .int .i64 k, s.val] w fun e w' => WoPost B pb (stepC row k s t) X w e w' := by
  have hK := stc_k hs
  obtain ⟨kind, purl, sa, sb⟩ := s
  obtain rfl : kind = 8 := hk
  have hal := al_t w (.cells #[.int .u8 8, .bool purl, .int .i64 sa, .int .i64 sb] 51)
  have HX : Hid (QcE B pb t (stB w.heap.size ⟨8, purl, sa, sb⟩ :: X) (w.alloc (.cells #[.int .u8 8, .bool purl, .int .i64 sa, .int .i64 sb] 51)) ∧ Below B w (w.alloc (.cells #[.int .u8 8, .bool purl, .int .i64 sa, .int .i64 sb] 51))) :=
    ⟨h.add hal hB (bxT_new w _ _), hal.mono hB⟩
  obtain ⟨cb, hcb⟩ : ∃ cb, cb = w.heap.size := ⟨_, rfl⟩
  rw [← hcb] at HX
  obtain ⟨U, hU⟩ : ∃ U : Nat, usesS ⟨8, purl, sa, sb⟩ = (U : Int) := ⟨(usesS ⟨8, purl, sa, sb⟩).toNat, by have := hK.nat; omega⟩
  have hU200 : U ≤ 200 := by have := hK.nat; omega
  have HUe := Lib.hid hU
  rw [hU, Int.toNat_natCast] at hat
  clear h hal
  show Calls Tryz.prog 51 #[_, _, _, .agg #[.int .u8 8, .bool purl, .int .i64 sa, .int .i64 sb]] w _
  go_enter Tryz.func51, Tryz.ntmps51
  go_upto_region 1 with fail
  refine abs_world (Q := fun W => Code.wp _ _ _ _ W) (F := fun W => QcE B pb t (stB cb ⟨8, purl, sa, sb⟩ :: X) W ∧ Below B w W) _ HX.out ?_
  clear HX
  rw [← hcb]
  clear hcb
  rintro W1 ⟨h1, hb1⟩
  obtain ⟨x0, x1, x2, x3⟩ := stB_at (h1.mem List.mem_cons_self)
  have hB1 : B ≤ W1.heap.size := Nat.le_trans hB hb1.size
  have hal1 := al_t W1 (.cells #[.int .u8 8, .bool purl, .int .i64 sa, .int .i64 sb] 51)
  obtain ⟨q1, q2⟩ := usesE_one hs
  have HC := uses_any (some ⟨W1.heap.size, 0, none⟩) 1 [⟨8, purl, sa, sb⟩] (fun x hx => by rw [List.mem_singleton.1 hx]; exact stc_wf hs) _ (lit_stc W1 ⟨8, purl, sa, sb⟩)
  rw [q1, q2, hU] at HC
  have HC1 := Lib.hid HC
  have HQ1 := Lib.hid (And.intro (h1.to hal1) (hb1.trans (hal1.mono hB1)))
  clear HC h1 hb1 hal1 q1 q2
  go_upto_region 2 with (go_at_call 77; refine HC1.out.mono ?_; rintro e w2 ⟨rfl, hb2⟩)
  refine abs_world (Q := fun W => Code.wp _ _ _ _ W) (F := fun W => QcE B pb t (stB cb ⟨8, purl, sa, sb⟩ :: X) W ∧ Below B w W) _ ⟨HQ1.out.1.to hb2, HQ1.out.2.trans (hb2.mono (Nat.le_trans hB HQ1.out.2.size))⟩ ?_
  clear HQ1 HC1 hb2 x0 x1 x2 x3 hB1
  rintro W2 ⟨h2, hb2⟩
  have HT := Lib.hid (ptake_any B pb t U (by omega) (by omega) _ W2 h2 (Nat.le_trans hB hb2.size))
  have HB2 := Lib.hid hb2
  clear h2 hb2
  go_upto_region 3 with (go_at_call 83; refine HT.out.mono ?_; rintro e w3 ⟨uv, rfl, h3, hb3⟩)
  have hb3' := HB2.out.trans hb3
  obtain ⟨ua, uc, rfl⟩ := pxJ_is (h3.mem List.mem_cons_self) (usedN_len _ _)
  obtain ⟨x0, x1, x2, x3⟩ := stB_at (h3.mem (List.mem_cons_of_mem _ List.mem_cons_self))
  obtain ⟨n1, n2⟩ := h3.box (Nat.le_trans hB hb3'.size) row k purl
  obtain ⟨lb, hlb⟩ : ∃ lb, lb = w3.heap.size := ⟨_, rfl⟩
  have HN := Lib.hid (And.intro n1 (hb3'.trans n2))
  rw [← hlb] at HN
  clear h3 hb3 hb3' n1 n2 HT HB2
  go_upto_region 4 with fail
  refine abs_world (Q := fun W => Code.wp _ _ _ _ W) (F := fun W => QcE B pb ⟨t.lp, t.bound, t.cross, t.rows, t.next + U⟩ (lpO lb row k (.slice none 0 0) purl :: pxJ (.slice ua U uc) (usedN t.next U) :: stB cb ⟨8, purl, sa, sb⟩ :: X) W ∧ Below B w W) _ HN.out ?_
  clear HN x0 x1 x2 x3
  rw [← hlb]
  clear hlb
  rintro W4 ⟨h4, hb4⟩
  have hU1 : U = 1 := by have h1 := HUe.out; rw [hK.uses] at h1; simp at h1; omega
  subst hU1
  obtain ⟨l, hl8⟩ : ∃ l, t.lp[t.next]? = some l := ⟨_, List.getElem?_eq_getElem (show t.next < t.lp.length by omega)⟩
  have HSt : Hid (stepC row k ⟨8, purl, sa, sb⟩ t = ⟨t.lp ++ addL row k l.purl [usedN t.next 1], t.bound, t.cross, t.rows, t.next + 1⟩) := by
    show _ = _
    have e : t.lp[t.next]?.getD lp0 = l := by rw [hl8]; rfl
    unfold stepC newsL boundL crossL
    rw [HUe.out, Int.toNat_natCast]
    simp only [usedN]
    simp [addL, e]
  obtain ⟨lg, lc, q0, q1⟩ := h4.loop_at (j := t.next) hl8 rfl
  obtain ⟨ug, uc', eu, u0⟩ := pxJ_at (h4.mem (List.mem_cons_of_mem _ List.mem_cons_self)) (usedN_at (a := t.next) (n := 1) (i := 0) (by omega)) (usedN_len _ _)
  cases eu
  simp only [Nat.add_zero] at u0
  obtain ⟨x0, x1, x2, x3⟩ := stB_at (h4.mem (List.mem_cons_of_mem _ (List.mem_cons_of_mem _ List.mem_cons_self)))
  obtain ⟨b1, b2, -⟩ := bxT_at (h4.mem List.mem_cons_self)
  have y3 := b1 3 _ rfl
  have f3 := b2 3
  have hB4 : B ≤ W4.heap.size := Nat.le_trans hB hb4.size
  have hbd : Below W4.heap.size W4 W4.drew := Below.drew (Below.refl _ _)
  obtain ⟨n1, n2⟩ := (h4.to hbd).set (Nat.le_trans hB4 hbd.size) 3 (.bool l.purl)
  have HS := Lib.hid (And.intro n1 (hb4.trans ((hbd.mono hB4).trans n2)))
  have hlt8 : t.next < t.lp.length := by omega
  obtain ⟨N, hN⟩ : ∃ N, N = t.lp.length := ⟨_, rfl⟩
  rw [← hN] at q0 hlt8
  clear h4 hb4 n1 n2 hbd b1 b2 hl8
  go_upto_region 12 with fail
  go_region
  all_goals
    go_upto_region 13 with fail
    refine abs_world (Q := fun W => Code.wp _ _ _ _ W) (F := fun W => QcE B pb ⟨t.lp, t.bound, t.cross, t.rows, t.next + 1⟩ (lpO lb row k (.slice none 0 0) l.purl :: pxJ (.slice (some ⟨ug, 0, none⟩) 1 uc) (usedN t.next 1) :: stB cb ⟨8, purl, sa, sb⟩ :: X) W ∧ Below B w W) _ HS.out ?_
    clear HS x0 x1 x2 x3 y3 f3 q0 q1 u0 hB4
    clear W4
    rintro W4 ⟨h4, hb4⟩
    have hP4 := h4.perm (List.Perm.swap _ _ _)
    have hB4 : B ≤ W4.heap.size := Nat.le_trans hB hb4.size
    obtain ⟨n1, n2⟩ := hP4.one hB4
    obtain ⟨x0, x1, x2, x3⟩ := stB_at (h4.mem (List.mem_cons_of_mem _ (List.mem_cons_of_mem _ List.mem_cons_self)))
    obtain ⟨b1, -⟩ := bxT_at (h4.mem List.mem_cons_self)
    have y0 := b1 0 _ rfl
    have y1 := b1 1 _ rfl
    have y2 := b1 2 _ rfl
    have y3 := b1 3 _ rfl
    have HA := Lib.hid (padd_any B pb ⟨t.lp, t.bound, t.cross, t.rows, t.next + 1⟩ row k (.slice none 0 0) l.purl (some ⟨W4.heap.size, 0, none⟩) 1 1 [.slice (some ⟨ug, 0, none⟩) 1 uc] [usedN t.next 1] rfl rfl (by show t.lp.length + 1 ≤ 100000; omega) _ _ n1 (Nat.le_trans hB4 n2.size))
    have HB4 := Lib.hid (hb4.trans n2)
    clear h4 hP4 n1 n2 b1 hb4
    go_wp2_with (go_at_call 84; refine HA.out.mono ?_; rintro e w5 ⟨rfl, h5, hb5⟩)
    refine bodyPost_end (results_none rfl _ _ _) rfl ?_
    rw [HSt.out]
    exact ⟨rfl, h5.lift ((List.sublist_cons_self _ _).trans (List.sublist_cons_self _ _)), HB4.out.trans hb5⟩
end Go.Proofs.YtbnddpknejgmhaaGreat
namespace Go.Proofs.YtbnddpknejgmhaaGreat
open Go.RowKit Go.Shelf Go.Sort
set_option maxRecDepth 100000

theorem pwork_any (B pb : Nat) (t : Pw) (row k : Int) (s : Stc) (hs : s.ok = true) (hkb : s.kind = 1 ∨ s.kind = 8) (X : List Own) (hat : t.next + (usesS s).toNat ≤ t.lp.length) (hl : t.lp.length ≤ 50000) (_ : t.bound.length ≤ 50000) (_ : t.cross.length ≤ 50000) (w : World) (h : QcE B pb t X w) (hB : B ≤ w.heap.size) :
    Calls Tryz.prog 51 #[.pointer (some ⟨pb, 0, none⟩), .int .i64 row, .int .i64 k, s.val] w fun e w' => WoPost B pb (stepC row k s t) X w e w' := by
  rcases hkb with hk | hk
  · exact pwork1 B pb t row k s hs hk X hat hl w h hB
  · exact pwork8 B pb t row k s hs hk X hat hl w h hB
end Go.Proofs.YtbnddpknejgmhaaGreat
namespace Go.Proofs.YtbnddpknejgmhaaGreat
open Go.RowKit Go.Shelf
attribute [local go_sem] Oper.semAt_some
set_option maxRecDepth 100000

structure Bk where
  i : Int
  s : Stc
  h : s.wf
def encB (x : Bk) : Array Value := #[.int .i64 x.i, x.s.val]
def stc0 : Stc := ⟨0, false, 0, 0⟩
theorem getD_wf {l : List Stc} (hw : ∀ s ∈ l, s.wf) (m : Nat) : (l.getD m stc0).wf := by
  rw [List.getD]
  cases h : l[m]? with
  | none => exact ⟨by decide, by decide⟩
  | some s => exact hw s (List.mem_of_getElem? h)
def backs (l : List Stc) (hw : ∀ s ∈ l, s.wf) : Nat → List Bk
  | 0 => []
  | m + 1 => ⟨m, l.getD m stc0, getD_wf hw m⟩ :: backs l hw m
theorem backs_len (l : List Stc) (hw : ∀ s ∈ l, s.wf) : ∀ m, (backs l hw m).length = m
  | 0 => rfl
  | m + 1 => by simp only [backs, List.length_cons]; rw [backs_len l hw m]
theorem backs_map (l : List Stc) (hw : ∀ s ∈ l, s.wf) : ∀ m, m ≤ l.length → (backs l hw m).map (·.s) = (l.take m).reverse
  | 0, _ => by simp [backs]
  | m + 1, h => by
    have e : l.take (m + 1) = l.take m ++ [l.getD m stc0] := by
      rw [List.take_succ_eq_append_getElem (by omega), List.getD, List.getElem?_eq_getElem (by omega)]; rfl
    simp only [backs, List.map_cons]
    rw [backs_map l hw m (by omega), e]; simp
theorem backward_any (A : Option Addr) (n c : Nat) (w : World) :
    Calls Tryz.prog 81 #[.slice A n c] w fun e w' => e = .returned (.func (.func 108) #[] #[.pointer (some ⟨w.heap.size, 0, none⟩)]) ∧ w.alloc (.cells #[.slice A n c] 52) = w' := by
  have hmf : ∀ (fn : Fn) (first cap : Array Value) (w : World), (Instr.makeFunc fn first cap).run Tryz.prog w = .ok (.func fn first cap) w := fun _ _ _ _ => rfl
  go_enter Tryz.func81, Tryz.ntmps81
  go_wp2
  go_ret
  exact ⟨rfl, rfl⟩
/-- The cells below a block, and those of block Bs, lie as they lay. -/
def KP (n₀ Bs : Nat) (W W' : World) : Prop := W.heap.size ≤ W'.heap.size ∧ ∀ k cs t f, (k < n₀ ∨ k = Bs) → W.heap[k]? = some (.cells cs t f) → W'.heap[k]? = some (.cells cs t f)
theorem KP.refl (n₀ Bs : Nat) (W : World) : KP n₀ Bs W W := ⟨Nat.le_refl _, fun _ _ _ _ _ h => h⟩
theorem KP.trans {n₀ Bs : Nat} {A B C : World} (h : KP n₀ Bs A B) (k : KP n₀ Bs B C) : KP n₀ Bs A C := ⟨Nat.le_trans h.1 k.1, fun i cs t f hi hc => k.2 i cs t f hi (h.2 i cs t f hi hc)⟩
theorem KP.of_below {n₀ Bs : Nat} {A B : World} (h : Below A.heap.size A B) : KP n₀ Bs A B := ⟨h.size, fun i _ _ _ _ hc => (h.block i (Array.getElem?_eq_some_iff.1 hc).1).trans hc⟩
theorem KP.of_grown {n₀ Bs : Nat} {A B : World} {row : Option Nat} (h : A.grownBy B row) (hr : ∀ r, row = some r → n₀ ≤ r ∧ r ≠ Bs) : KP n₀ Bs A B := ⟨h.size, fun i _ _ _ hi hc => (h.block i (Array.getElem?_eq_some_iff.1 hc).1 (fun e => by
  obtain ⟨h1, h2⟩ := hr i e.symm
  omega)).trans hc⟩
theorem KP.put {n₀ Bs : Nat} (W : World) (l : Nat) (o o' : Obj) (h : W.heap[l]? = some o) (ho : o.isCells = false) : KP n₀ Bs W (W.putObj l o') := by
  refine ⟨by simp, fun i cs t f _ hc => ?_⟩
  have hne : i ≠ l := by
    rintro rfl
    rw [hc] at h; cases h; cases ho
  rw [World.putObj_heap_other hne]; exact hc
theorem KP.cell {n₀ Bs : Nat} {A B : World} (h : KP n₀ Bs A B) {b o : Nat} {v : Value} (hb : b < n₀ ∨ b = Bs) (hc : A.cell? ⟨b, o, none⟩ = some v) : B.cell? ⟨b, o, none⟩ = some v := by
  unfold World.cell? at hc ⊢
  cases hk : A.heap[b]? with
  | none => simp [hk] at hc
  | some ob =>
    cases ob with
    | cells cs t f => rw [h.2 b cs t f hb hk]; rw [hk] at hc; exact hc
    | _ => simp [hk] at hc
theorem KP.slS {sz n₀ Bs : Nat} {A B : World} (h : KP n₀ Bs A B) {a : Option Addr} {zs : List (List Value)} (hs : SlS sz A n₀ a zs) : SlS sz B n₀ a zs := fun hz => by
  obtain ⟨b, off, e, hB, hc⟩ := hs hz
  exact ⟨b, off, e, hB, fun j cs hj i v hv => h.cell (Or.inl hB) (hc j cs hj i v hv)⟩
set_option maxHeartbeats 4000000 in
theorem backward_stops (n : Nat) (hn : 1 ≤ n) (Bs n₀ : Nat) (A : Option Addr) (c : Nat) (p : List Stc) (hw : ∀ s ∈ p, s.wf) (hpl : p.length ≤ 1000) (w : World) (hBs : Bs < w.heap.size) (hn0 : n₀ ≤ w.heap.size)
    (hc0 : w.cell? ⟨Bs, 0, none⟩ = some (.slice A p.length c)) (hs : SlT w n₀ A p) :
    SeqStopsK Fence.wide n Tryz.prog 108 #[.pointer (some ⟨Bs, 0, none⟩)] encB (KP n₀ Bs) (fun xs => xs = backs p hw p.length) (fun _ => True) p.length w := by
  intro l J Jx W hW hJ hJx hY h0
  have hcW0 := (hW.cell (p := ⟨Bs, 0, none⟩) hBs).trans hc0
  have hsW : SlT W n₀ A p := hs.below (hW.mono (by omega))
  clear hc0 hs hW hBs
  have HY := Lib.hid hY
  have HJ := Lib.hid hJ
  clear hY hJ hJx
  refine callsIn_of_wp Tryz.func108 rfl trivial ?_ rfl
  simp only [Tryz.ntmps108, List.size_toArray, List.length_cons, List.length_nil, Nat.reduceAdd, Nat.reduceSub, Array.replicate_succ, Array.replicate_zero, List.push_toArray, List.append_toArray, List.nil_append, List.cons_append]
  gi_wp2
  gi_loopw [3] (fun s3 wr => ∃ (m : Nat) (pre : List Bk), m ≤ p.length ∧ s3 = .int .i64 ((m : Int) - 1) ∧ J pre wr ∧ Hid (backs p hw p.length = pre ++ backs p hw m) ∧ SlT wr n₀ A p ∧ W.heap.size ≤ wr.heap.size ∧ wr.cell? ⟨Bs, 0, none⟩ = some (.slice A p.length c)) (fun s3 _ => (intOf s3 + 1).toNat)
  case atStart => exact ⟨p.length, [], Nat.le_refl _, rfl, h0, rfl, hsW, Nat.le_refl _, hcW0⟩
  case round =>
    obtain ⟨m, pre, hm, rfl, hJs, HI, hsr, hzr, hcb⟩ := hrel
    clear hcW0 hsW h0
    cases m with
    | zero =>
      have HI3 : Hid (backs p hw p.length = pre) := by unfold Hid; rw [HI.out]; simp [backs]
      have HJ3 := Lib.hid hJs
      clear hJs hsr HI
      gi_wp2
      go_end0
      exact ⟨⟨_, rfl⟩, .inl ⟨_, HI3.out.symm, HJ3.out⟩⟩
    | succ m =>
      have em : (((m + 1 : Nat) : Int) - 1) = (m : Int) := by omega
      rw [em]
      obtain ⟨b, off, s, rfl, hB, hr, hcs⟩ := hsr.at_ (k := m) (by omega)
      obtain ⟨c0, c1, c2, c3⟩ := hcs
      obtain ⟨x, hxe⟩ : ∃ x : Bk, x = ⟨m, p.getD m stc0, getD_wf hw m⟩ := ⟨_, rfl⟩
      have hxs : s = x.s := by
        have e : p.getD m stc0 = s := by rw [List.getD, hr]; rfl
        rw [hxe]; exact e.symm
      have hxi : x.i = (m : Int) := by rw [hxe]
      have HI2 : Hid (backs p hw p.length = (pre ++ [x]) ++ backs p hw m) := by
        unfold Hid; rw [HI.out, List.append_assoc, hxe]; rfl
      have hlen : pre.length < p.length := by
        have := congrArg List.length HI2.out
        rw [backs_len, List.length_append, List.length_append, backs_len] at this
        simp at this; omega
      obtain ⟨fn, tmps, assign, body, hy, hR⟩ := HY.out _ x _ hJs hlen
      unfold encB Stc.val at hy
      rw [hxi] at hy
      rw [hxs] at c0 c1 c2 c3
      clear hxe hxs hxi
      have HS := Lib.hid hsr
      have HCb := Lib.hid hcb
      have hml : (m : Int) < (p.length : Int) := by omega
      clear hJs hsr HI hr
      gi_wp2
      refine hR.mono ?_
      rintro e W3 (⟨rfl, hJ3, hk3⟩ | ⟨rfl, hJx3⟩)
      · have HJ3 := Lib.hid hJ3
        have HS3 := Lib.hid (KP.slS hk3 HS.out)
        have HC3 := Lib.hid (hk3.cell (Or.inr rfl) HCb.out)
        have hz3 := hk3.1
        clear hk3 hJ3 c0 c1 c2 c3 hcb
        gi_wp2
        go_roundw
        case rel => exact ⟨m, pre ++ [x], by omega, rfl, HJ3.out, HI2, HS3.out, by omega, HC3.out⟩
        case measure => simp [intOf]
      · gi_wp2
        refine bodyPost_ret (results_none rfl _ _ _) rfl ?_
        exact ⟨⟨_, rfl⟩, .inr ⟨_, trivial, hJx3⟩⟩
end Go.Proofs.YtbnddpknejgmhaaGreat
