/- Layer 27, the program. -/
import Derived.Test.YtflpikickbellaaGreatZ36
namespace Go.Proofs.YtflpikickbellaaGreat
open Go.RowKit Go.Shelf Go.Sort
set_option maxRecDepth 100000
def WoPost (B pb : Nat) (t : Pw) (X : List Own) (w : World) (e : Ending) (w' : World) : Prop := e = .returned (.tuple #[]) ∧ QcE B pb t X w' ∧ Below B w w'
theorem usesE_one {s : Stc} (hs : s.ok = true) : allE [s] = 0 ∧ usesE [s] = usesS s := by
 have hn := (stc_k hs).nat
 have h0 : allE [s] = 0 := by
  unfold allE
  rw [if_neg (by simp), if_neg, if_neg]
  · simp [sumU, sumM]; omega
  · simp [Stc.err, hs]
 refine ⟨h0, ?_⟩
 unfold usesE
 rw [if_pos h0]
 simp [sumU]
theorem lit_stc (W : World) (s : Stc) : SlT (W.alloc (.cells #[.int .u8 s.kind, .bool s.purl, .int .i64 s.a, .int .i64 s.b] 96)) (W.alloc (.cells #[.int .u8 s.kind, .bool s.purl, .int .i64 s.a, .int .i64 s.b] 96)).heap.size (some ⟨W.heap.size, 0, none⟩) [s] := fun _ => by
 refine ⟨W.heap.size, 0, rfl, by simp, fun j cs hj i v hv => ?_⟩
 cases j with
 | succ j => simp at hj
 | zero =>
   simp at hj
   subst hj
   rw [Nat.zero_mul, Nat.add_zero, Nat.zero_add]
   exact cell_new rfl rfl (by simpa [Stc.cells] using hv)
theorem stc_wf {s : Stc} (h : s.ok = true) : s.wf := by
 have := stc_k h
 exact ⟨by have := this.lo; omega, by have := this.hi; omega⟩
theorem QcE.box {B pb : Nat} {t : Pw} {X : List Own} {W : World} (h : QcE B pb t X W) (hB : B ≤ W.heap.size) (row k : Int) (purl : Bool) : QcE B pb t (lpO W.heap.size row k (.slice none 0 0) purl :: X) (W.alloc (.cells #[.int .i64 row, .int .i64 k, .slice none 0 0, .bool purl] 68)) ∧ Below B W (W.alloc (.cells #[.int .i64 row, .int .i64 k, .slice none 0 0, .bool purl] 68)) := by
 have hal := al_t W (.cells #[.int .i64 row, .int .i64 k, .slice none 0 0, .bool purl] 68)
 exact ⟨h.add hal hB (bxT_new W 68 [.int .i64 row, .int .i64 k, .slice none 0 0, .bool purl]), hal.mono hB⟩
theorem QcE.one {B pb : Nat} {t : Pw} {X : List Own} {W : World} {uv : Value} {u : List Int} (h : QcE B pb t (pxJ uv u :: X) W) (hB : B ≤ W.heap.size) : QcE B pb t (pxV (.slice (some ⟨W.heap.size, 0, none⟩) 1 1) [uv] :: (rowsO [uv] [u] ++ X)) (W.alloc (.cells #[uv] 22)) ∧ Below B W (W.alloc (.cells #[uv] 22)) := by
 have hal := al_t W (.cells #[uv] 22)
 exact ⟨h.add hal hB (bxT_new W 22 [uv]), hal.mono hB⟩
theorem QcE.rev {B pb : Nat} {t : Pw} {X : List Own} {W : World} {a : Option Addr} {n c : Nat} {l : List Int} (h : QcE B pb t (pxJ (.slice a n c) l :: X) W) (hn : l.length = n) (hl : n ≤ 1000000) (hB : B ≤ W.heap.size) :
 Calls Tryz.prog 126 #[.slice a n c] W fun e w' => e = .returned (.tuple #[]) ∧ QcE B pb t (pxJ (.slice a n c) l.reverse :: X) w' ∧ Below B W w' := by
 obtain ⟨vL, vB, vC, vR, vs, h⟩ := h
 exact (revJ_any h.front hn hl hB).mono fun e w' ⟨h1, h2, h3⟩ => ⟨h1, ⟨_, _, _, _, _, QcA.back h2 h.vl⟩, h3⟩
theorem QcE.nils {B pb : Nat} {t : Pw} {X : List Own} {W : World} (h : QcE B pb t X W) : ∀ n, QcE B pb t (rowsO (List.replicate n (.slice none 0 0)) (List.replicate n []) ++ X) W
 | 0 => h
 | n + 1 => by
   rw [List.replicate_succ, List.replicate_succ]
   exact (h.nils n).nil
theorem info_rowV : (Tryz.prog.info? 22).map (fun i => (i.zero, i.size, i.bytes)) = some (some (.slice none 0 0), 1, 24) := by kernel_rfl
theorem mk_vs (n : Nat) (hn : n ≤ 1000000) (w : World) : ∃ w', (Instr.makeSlice 188 (.int .i64 (n : Int)) (.int .i64 (n : Int))).run Tryz.prog w = .ok (.slice (some ⟨w.heap.size, 0, none⟩) n n) w' ∧ (pxV (.slice (some ⟨w.heap.size, 0, none⟩) n n) (List.replicate n (.slice none 0 0))).lies w' w.heap.size ∧ Below w.heap.size w w' := by
 obtain ⟨i1, hi', hz0', hz1', hz2'⟩ := info_parts info_rowV
 obtain ⟨w3, hmr, hob, hgb⟩ := run_make_full (P := Tryz.prog) w w.heap.size 188 22 i1 (.slice none 0 0) 1 Tryz.underlying188 hi' hz0' hz1' .i64 .i64 n (by rw [hz2']; omega) (by unfold maxLen; omega) (Nat.le_refl _)
 have hb := (Below.refl w.heap.size w).grown hgb (Nat.le_refl _) (fun k e => by cases e)
 refine ⟨w3, hmr, ?_, hb⟩
 have e : (madeCells (Value.slice none 0 0).cells (n * 1)).toList = List.replicate n (.slice none 0 0) := by
  rw [Nat.mul_one]
  exact toList_madeCells_one _ _
 rw [e] at hob
 unfold pxV Own.lies
 rw [List.length_replicate]
 exact hob
set_option maxHeartbeats 4000000 in
theorem pwork1 (B pb : Nat) (t : Pw) (row k : Int) (s : Stc) (hs : s.ok = true) (hk : s.kind = 1) (X : List Own) (hat : t.next + (usesS s).toNat ≤ t.lp.length) (hl : t.lp.length ≤ 50000) (w : World) (h : QcE B pb t X w) (hB : B ≤ w.heap.size) :
 Calls Tryz.prog 89 #[.pointer (some ⟨pb, 0, none⟩), .int .i64 row, .int .i64 k, s.val] w fun e w' => WoPost B pb (stepC row k s t) X w e w' := by
 have hK := stc_k hs
 obtain ⟨kind, purl, sa, sb⟩ := s
 obtain rfl : kind = 1 := hk
 have hal := al_t w (.cells #[.int .u8 1, .bool purl, .int .i64 sa, .int .i64 sb] 96)
 have HX : Hid (QcE B pb t (stB w.heap.size ⟨1, purl, sa, sb⟩ :: X) (w.alloc (.cells #[.int .u8 1, .bool purl, .int .i64 sa, .int .i64 sb] 96)) ∧ Below B w (w.alloc (.cells #[.int .u8 1, .bool purl, .int .i64 sa, .int .i64 sb] 96))) :=
  ⟨h.add hal hB (bxT_new w _ _), hal.mono hB⟩
 obtain ⟨cb, hcb⟩ : ∃ cb, cb = w.heap.size := ⟨_, rfl⟩
 rw [← hcb] at HX
 obtain ⟨U, hU⟩ : ∃ U : Nat, usesS ⟨1, purl, sa, sb⟩ = (U : Int) := ⟨(usesS ⟨1, purl, sa, sb⟩).toNat, by have := hK.nat; omega⟩
 have hU200 : U ≤ 200 := by have := hK.nat; omega
 have HUe := Lib.hid hU
 rw [hU, Int.toNat_natCast] at hat
 clear h hal
 show Calls Tryz.prog 89 #[_, _, _, .agg #[.int .u8 1, .bool purl, .int .i64 sa, .int .i64 sb]] w _
 go_enter Tryz.func89, Tryz.ntmps89
 go_upto_region 1 with fail
 refine abs_world (Q := fun W => Code.wp _ _ _ _ W) (F := fun W => QcE B pb t (stB cb ⟨1, purl, sa, sb⟩ :: X) W ∧ Below B w W) _ HX.out ?_
 clear HX
 rw [← hcb]
 clear hcb
 rintro W1 ⟨h1, hb1⟩
 obtain ⟨x0, x1, x2, x3⟩ := stB_at (h1.mem List.mem_cons_self)
 have hB1 : B ≤ W1.heap.size := Nat.le_trans hB hb1.size
 have hal1 := al_t W1 (.cells #[.int .u8 1, .bool purl, .int .i64 sa, .int .i64 sb] 96)
 obtain ⟨q1, q2⟩ := usesE_one hs
 have HC := uses_any (some ⟨W1.heap.size, 0, none⟩) 1 [⟨1, purl, sa, sb⟩] (fun x hx => by rw [List.mem_singleton.1 hx]; exact stc_wf hs) _ (lit_stc W1 ⟨1, purl, sa, sb⟩)
 rw [q1, q2, hU] at HC
 have HC1 := Lib.hid HC
 have HQ1 := Lib.hid (And.intro (h1.to hal1) (hb1.trans (hal1.mono hB1)))
 clear HC h1 hb1 hal1 q1 q2
 go_upto_region 2 with (go_at_call 39; refine HC1.out.mono ?_; rintro e w2 ⟨rfl, hb2⟩)
 refine abs_world (Q := fun W => Code.wp _ _ _ _ W) (F := fun W => QcE B pb t (stB cb ⟨1, purl, sa, sb⟩ :: X) W ∧ Below B w W) _ ⟨HQ1.out.1.to hb2, HQ1.out.2.trans (hb2.mono (Nat.le_trans hB HQ1.out.2.size))⟩ ?_
 clear HQ1 HC1 hb2 x0 x1 x2 x3 hB1
 rintro W2 ⟨h2, hb2⟩
 have HT := Lib.hid (ptake_any B pb t U (by omega) (by omega) _ W2 h2 (Nat.le_trans hB hb2.size))
 have HB2 := Lib.hid hb2
 clear h2 hb2
 go_upto_region 3 with (go_at_call 124; refine HT.out.mono ?_; rintro e w3 ⟨uv, rfl, h3, hb3⟩)
 have hb3' := HB2.out.trans hb3
 obtain ⟨ua, uc, rfl⟩ := pxJ_is (h3.mem List.mem_cons_self) (usedN_len _ _)
 obtain ⟨x0, x1, x2, x3⟩ := stB_at (h3.mem (List.mem_cons_of_mem _ List.mem_cons_self))
 obtain ⟨n1, n2⟩ := h3.box (Nat.le_trans hB hb3'.size) row k purl
 obtain ⟨lb, hlb⟩ : ∃ lb, lb = w3.heap.size := ⟨_, rfl⟩
 have HN := Lib.hid (And.intro n1 (hb3'.trans n2))
 rw [← hlb] at HN
 clear h3 hb3 hb3' n1 n2 HT HB2
 go_upto_region 4 with fail
 refine abs_world (Q := fun W => Code.wp _ _ _ _ W) (F := fun W => QcE B pb ⟨t.lp, t.bound, t.cross, t.rows, t.next + U⟩ (lpO lb row k (.slice none 0 0) purl :: pxJ (.slice ua U uc) (usedN t.next U) :: stB cb ⟨1, purl, sa, sb⟩ :: X) W ∧ Below B w W) _ HN.out ?_
 clear HN x0 x1 x2 x3
 rw [← hlb]
 clear hlb
 rintro W4 ⟨h4, hb4⟩
 have HSt : Hid (stepC row k ⟨1, purl, sa, sb⟩ t = ⟨t.lp ++ addL row k purl [usedN t.next U], t.bound, t.cross, t.rows, t.next + U⟩) := by
  show _ = _
  unfold stepC newsL boundL crossL
  rw [HUe.out, Int.toNat_natCast]
  simp [addL]
 have hP4 := h4.perm (List.Perm.swap _ _ _)
 have hB4 : B ≤ W4.heap.size := Nat.le_trans hB hb4.size
 obtain ⟨n1, n2⟩ := hP4.one hB4
 obtain ⟨x0, x1, x2, x3⟩ := stB_at (h4.mem (List.mem_cons_of_mem _ (List.mem_cons_of_mem _ List.mem_cons_self)))
 obtain ⟨b1, -⟩ := bxT_at (h4.mem List.mem_cons_self)
 have y0 := b1 0 _ rfl
 have y1 := b1 1 _ rfl
 have y2 := b1 2 _ rfl
 have y3 := b1 3 _ rfl
 have HA := Lib.hid (padd_any B pb ⟨t.lp, t.bound, t.cross, t.rows, t.next + U⟩ row k (.slice none 0 0) purl (some ⟨W4.heap.size, 0, none⟩) 1 1 [.slice ua U uc] [usedN t.next U] rfl rfl (by show t.lp.length + 1 ≤ 100000; omega) _ _ n1 (Nat.le_trans hB4 n2.size))
 have HB4 := Lib.hid (hb4.trans n2)
 clear h4 hP4 n1 n2 b1 hb4
 go_wp2_with (go_at_call 125; refine HA.out.mono ?_; rintro e w5 ⟨rfl, h5, hb5⟩)
 refine bodyPost_end (results_none rfl _ _ _) rfl ?_
 rw [HSt.out]
 exact ⟨rfl, h5.lift ((List.sublist_cons_self _ _).trans (List.sublist_cons_self _ _)), HB4.out.trans hb5⟩
set_option maxHeartbeats 4000000 in
theorem pwork2 (B pb : Nat) (t : Pw) (row k : Int) (s : Stc) (hs : s.ok = true) (hk : s.kind = 2) (X : List Own) (hat : t.next + (usesS s).toNat ≤ t.lp.length) (hl : t.lp.length ≤ 50000) (w : World) (h : QcE B pb t X w) (hB : B ≤ w.heap.size) :
 Calls Tryz.prog 89 #[.pointer (some ⟨pb, 0, none⟩), .int .i64 row, .int .i64 k, s.val] w fun e w' => WoPost B pb (stepC row k s t) X w e w' := by
 have hK := stc_k hs
 obtain ⟨kind, purl, sa, sb⟩ := s
 obtain rfl : kind = 2 := hk
 have hal := al_t w (.cells #[.int .u8 2, .bool purl, .int .i64 sa, .int .i64 sb] 96)
 have HX : Hid (QcE B pb t (stB w.heap.size ⟨2, purl, sa, sb⟩ :: X) (w.alloc (.cells #[.int .u8 2, .bool purl, .int .i64 sa, .int .i64 sb] 96)) ∧ Below B w (w.alloc (.cells #[.int .u8 2, .bool purl, .int .i64 sa, .int .i64 sb] 96))) :=
  ⟨h.add hal hB (bxT_new w _ _), hal.mono hB⟩
 obtain ⟨cb, hcb⟩ : ∃ cb, cb = w.heap.size := ⟨_, rfl⟩
 rw [← hcb] at HX
 obtain ⟨U, hU⟩ : ∃ U : Nat, usesS ⟨2, purl, sa, sb⟩ = (U : Int) := ⟨(usesS ⟨2, purl, sa, sb⟩).toNat, by have := hK.nat; omega⟩
 have hU200 : U ≤ 200 := by have := hK.nat; omega
 have HUe := Lib.hid hU
 rw [hU, Int.toNat_natCast] at hat
 clear h hal
 show Calls Tryz.prog 89 #[_, _, _, .agg #[.int .u8 2, .bool purl, .int .i64 sa, .int .i64 sb]] w _
 go_enter Tryz.func89, Tryz.ntmps89
 go_upto_region 1 with fail
 refine abs_world (Q := fun W => Code.wp _ _ _ _ W) (F := fun W => QcE B pb t (stB cb ⟨2, purl, sa, sb⟩ :: X) W ∧ Below B w W) _ HX.out ?_
 clear HX
 rw [← hcb]
 clear hcb
 rintro W1 ⟨h1, hb1⟩
 obtain ⟨x0, x1, x2, x3⟩ := stB_at (h1.mem List.mem_cons_self)
 have hB1 : B ≤ W1.heap.size := Nat.le_trans hB hb1.size
 have hal1 := al_t W1 (.cells #[.int .u8 2, .bool purl, .int .i64 sa, .int .i64 sb] 96)
 obtain ⟨q1, q2⟩ := usesE_one hs
 have HC := uses_any (some ⟨W1.heap.size, 0, none⟩) 1 [⟨2, purl, sa, sb⟩] (fun x hx => by rw [List.mem_singleton.1 hx]; exact stc_wf hs) _ (lit_stc W1 ⟨2, purl, sa, sb⟩)
 rw [q1, q2, hU] at HC
 have HC1 := Lib.hid HC
 have HQ1 := Lib.hid (And.intro (h1.to hal1) (hb1.trans (hal1.mono hB1)))
 clear HC h1 hb1 hal1 q1 q2
 go_upto_region 2 with (go_at_call 39; refine HC1.out.mono ?_; rintro e w2 ⟨rfl, hb2⟩)
 refine abs_world (Q := fun W => Code.wp _ _ _ _ W) (F := fun W => QcE B pb t (stB cb ⟨2, purl, sa, sb⟩ :: X) W ∧ Below B w W) _ ⟨HQ1.out.1.to hb2, HQ1.out.2.trans (hb2.mono (Nat.le_trans hB HQ1.out.2.size))⟩ ?_
 clear HQ1 HC1 hb2 x0 x1 x2 x3 hB1
 rintro W2 ⟨h2, hb2⟩
 have HT := Lib.hid (ptake_any B pb t U (by omega) (by omega) _ W2 h2 (Nat.le_trans hB hb2.size))
 have HB2 := Lib.hid hb2
 clear h2 hb2
 go_upto_region 3 with (go_at_call 124; refine HT.out.mono ?_; rintro e w3 ⟨uv, rfl, h3, hb3⟩)
 have hb3' := HB2.out.trans hb3
 obtain ⟨ua, uc, rfl⟩ := pxJ_is (h3.mem List.mem_cons_self) (usedN_len _ _)
 obtain ⟨x0, x1, x2, x3⟩ := stB_at (h3.mem (List.mem_cons_of_mem _ List.mem_cons_self))
 obtain ⟨n1, n2⟩ := h3.box (Nat.le_trans hB hb3'.size) row k purl
 obtain ⟨lb, hlb⟩ : ∃ lb, lb = w3.heap.size := ⟨_, rfl⟩
 have HN := Lib.hid (And.intro n1 (hb3'.trans n2))
 rw [← hlb] at HN
 clear h3 hb3 hb3' n1 n2 HT HB2
 go_upto_region 4 with fail
 refine abs_world (Q := fun W => Code.wp _ _ _ _ W) (F := fun W => QcE B pb ⟨t.lp, t.bound, t.cross, t.rows, t.next + U⟩ (lpO lb row k (.slice none 0 0) purl :: pxJ (.slice ua U uc) (usedN t.next U) :: stB cb ⟨2, purl, sa, sb⟩ :: X) W ∧ Below B w W) _ HN.out ?_
 clear HN x0 x1 x2 x3
 rw [← hlb]
 clear hlb
 rintro W4 ⟨h4, hb4⟩
 have HSt : Hid (stepC row k ⟨2, purl, sa, sb⟩ t = ⟨t.lp ++ addL row k purl (List.replicate 1 []), t.bound, t.cross, t.rows, t.next + U⟩) := by
  show _ = _
  unfold stepC newsL boundL crossL
  rw [HUe.out, Int.toNat_natCast]
  have h0 : U = 0 := by have h1 := HUe.out; rw [hK.uses] at h1; simp at h1; omega
  subst h0
  simp [addL, usedN]
 obtain rfl : sa = 0 := (hK.plain (by simp)).1
 have hB4 : B ≤ W4.heap.size := Nat.le_trans hB hb4.size
 have hbd : Below W4.heap.size W4 W4.drew := Below.drew (Below.refl _ _)
 obtain ⟨w5, hmk, ho5, hb5⟩ := mk_vs 1 (by omega) W4.drew
 have h5 := ((h4.to hbd).nils 1).add hb5 (Nat.le_trans hB4 hbd.size) ho5
 have hb5' : Below B W4 w5 := (hbd.mono hB4).trans (hb5.mono (Nat.le_trans hB4 hbd.size))
 have hKp : ∀ W', Below W4.heap.size W4 W' → W'.cell? ⟨lb, 0, none⟩ = some (.int .i64 row) ∧ W'.cell? ⟨lb, 1, none⟩ = some (.int .i64 k) ∧ W'.cell? ⟨lb, 2, none⟩ = some (.slice none 0 0) ∧ W'.cell? ⟨lb, 3, none⟩ = some (.bool purl) ∧ W'.cell? ⟨cb, 2, none⟩ = some (.int .i64 0) := fun W' hb => by
  have h := h4.to hb
  obtain ⟨b1, -⟩ := bxT_at (h.mem List.mem_cons_self)
  obtain ⟨x0, x1, x2, x3⟩ := stB_at (h.mem (List.mem_cons_of_mem _ (List.mem_cons_of_mem _ List.mem_cons_self)))
  exact ⟨b1 0 _ rfl, b1 1 _ rfl, b1 2 _ rfl, b1 3 _ rfl, x2⟩
 have HKq : Hid (∀ t' W', QcE B pb t' (lpO lb row k (.slice none 0 0) purl :: pxJ (.slice ua U uc) (usedN t.next U) :: stB cb ⟨2, purl, 0, sb⟩ :: X) W' → W'.cell? ⟨lb, 0, none⟩ = some (.int .i64 row) ∧ W'.cell? ⟨lb, 1, none⟩ = some (.int .i64 k) ∧ W'.cell? ⟨lb, 2, none⟩ = some (.slice none 0 0) ∧ W'.cell? ⟨lb, 3, none⟩ = some (.bool purl) ∧ W'.cell? ⟨cb, 2, none⟩ = some (.int .i64 0)) := fun t' W' h => by
  obtain ⟨b1, -⟩ := bxT_at (h.mem List.mem_cons_self)
  obtain ⟨x0, x1, x2, x3⟩ := stB_at (h.mem (List.mem_cons_of_mem _ (List.mem_cons_of_mem _ List.mem_cons_self)))
  exact ⟨b1 0 _ rfl, b1 1 _ rfl, b1 2 _ rfl, b1 3 _ rfl, x2⟩
 have HK1 := Lib.hid (hKp _ hbd)
 have HK2 := Lib.hid (hKp _ (hbd.trans (hb5.mono hbd.size)))
 have HA := Lib.hid (padd_any B pb ⟨t.lp, t.bound, t.cross, t.rows, t.next + U⟩ row k (.slice none 0 0) purl (some ⟨W4.heap.size, 0, none⟩) 1 1 (List.replicate 1 (.slice none 0 0)) (List.replicate 1 []) List.length_replicate List.length_replicate (by show t.lp.length + 1 ≤ 100000; omega) _ _ h5 (Nat.le_trans hB4 hb5'.size))
 have HB5 := Lib.hid (hb4.trans hb5')
 have hx0 := (stB_at (h4.mem (List.mem_cons_of_mem _ (List.mem_cons_of_mem _ List.mem_cons_self)))).1
 have hmk' : (Instr.makeSlice 188 (.int .i64 (max 1 0)) (.int .i64 (max 1 0))).run Tryz.prog W4.drew = .ok (.slice (some ⟨W4.heap.size, 0, none⟩) 1 1) w5 := by
  rw [show max 1 (0 : Int) = ((1 : Nat) : Int) by omega]
  exact hmk
 clear h4 h5 hb4 hbd hb5 ho5 hb5' hKp hB4 hmk
 go_upto_region 8 with fail
 go_region_held3 (fun W' => W'.cell? ⟨lb, 0, none⟩ = some (.int .i64 row) ∧ W'.cell? ⟨lb, 1, none⟩ = some (.int .i64 k) ∧ W'.cell? ⟨lb, 2, none⟩ = some (.slice none 0 0) ∧ W'.cell? ⟨lb, 3, none⟩ = some (.bool purl) ∧ W'.cell? ⟨cb, 2, none⟩ = some (.int .i64 0))
  (first | (with_reducible exact HK1.out) | (with_reducible exact HK2.out) | exact HKq.out _ _ (by assumption) | fail)
  (first | (go_at_call 125; refine HA.out.mono ?_; rintro e w6 ⟨rfl, h6, hb6⟩))
 have HQ := Lib.hid (And.intro h6 (HB5.out.trans hb6))
 clear h6 hb6
 simp only [Exit.inBlock]
 refine bodyPost_end (results_none rfl _ _ _) rfl ?_
 rw [HSt.out]
 exact ⟨rfl, HQ.out.1.lift ((List.sublist_cons_self _ _).trans ((List.sublist_cons_self _ _).trans (List.sublist_cons_self _ _))), HQ.out.2⟩
set_option maxHeartbeats 4000000 in
theorem pwork3 (B pb : Nat) (t : Pw) (row k : Int) (s : Stc) (hs : s.ok = true) (hk : s.kind = 3) (X : List Own) (hat : t.next + (usesS s).toNat ≤ t.lp.length) (hl : t.lp.length ≤ 50000) (w : World) (h : QcE B pb t X w) (hB : B ≤ w.heap.size) :
 Calls Tryz.prog 89 #[.pointer (some ⟨pb, 0, none⟩), .int .i64 row, .int .i64 k, s.val] w fun e w' => WoPost B pb (stepC row k s t) X w e w' := by
 have hK := stc_k hs
 obtain ⟨kind, purl, sa, sb⟩ := s
 obtain rfl : kind = 3 := hk
 have hal := al_t w (.cells #[.int .u8 3, .bool purl, .int .i64 sa, .int .i64 sb] 96)
 have HX : Hid (QcE B pb t (stB w.heap.size ⟨3, purl, sa, sb⟩ :: X) (w.alloc (.cells #[.int .u8 3, .bool purl, .int .i64 sa, .int .i64 sb] 96)) ∧ Below B w (w.alloc (.cells #[.int .u8 3, .bool purl, .int .i64 sa, .int .i64 sb] 96))) :=
  ⟨h.add hal hB (bxT_new w _ _), hal.mono hB⟩
 obtain ⟨cb, hcb⟩ : ∃ cb, cb = w.heap.size := ⟨_, rfl⟩
 rw [← hcb] at HX
 obtain ⟨U, hU⟩ : ∃ U : Nat, usesS ⟨3, purl, sa, sb⟩ = (U : Int) := ⟨(usesS ⟨3, purl, sa, sb⟩).toNat, by have := hK.nat; omega⟩
 have hU200 : U ≤ 200 := by have := hK.nat; omega
 have HUe := Lib.hid hU
 rw [hU, Int.toNat_natCast] at hat
 clear h hal
 show Calls Tryz.prog 89 #[_, _, _, .agg #[.int .u8 3, .bool purl, .int .i64 sa, .int .i64 sb]] w _
 go_enter Tryz.func89, Tryz.ntmps89
 go_upto_region 1 with fail
 refine abs_world (Q := fun W => Code.wp _ _ _ _ W) (F := fun W => QcE B pb t (stB cb ⟨3, purl, sa, sb⟩ :: X) W ∧ Below B w W) _ HX.out ?_
 clear HX
 rw [← hcb]
 clear hcb
 rintro W1 ⟨h1, hb1⟩
 obtain ⟨x0, x1, x2, x3⟩ := stB_at (h1.mem List.mem_cons_self)
 have hB1 : B ≤ W1.heap.size := Nat.le_trans hB hb1.size
 have hal1 := al_t W1 (.cells #[.int .u8 3, .bool purl, .int .i64 sa, .int .i64 sb] 96)
 obtain ⟨q1, q2⟩ := usesE_one hs
 have HC := uses_any (some ⟨W1.heap.size, 0, none⟩) 1 [⟨3, purl, sa, sb⟩] (fun x hx => by rw [List.mem_singleton.1 hx]; exact stc_wf hs) _ (lit_stc W1 ⟨3, purl, sa, sb⟩)
 rw [q1, q2, hU] at HC
 have HC1 := Lib.hid HC
 have HQ1 := Lib.hid (And.intro (h1.to hal1) (hb1.trans (hal1.mono hB1)))
 clear HC h1 hb1 hal1 q1 q2
 go_upto_region 2 with (go_at_call 39; refine HC1.out.mono ?_; rintro e w2 ⟨rfl, hb2⟩)
 refine abs_world (Q := fun W => Code.wp _ _ _ _ W) (F := fun W => QcE B pb t (stB cb ⟨3, purl, sa, sb⟩ :: X) W ∧ Below B w W) _ ⟨HQ1.out.1.to hb2, HQ1.out.2.trans (hb2.mono (Nat.le_trans hB HQ1.out.2.size))⟩ ?_
 clear HQ1 HC1 hb2 x0 x1 x2 x3 hB1
 rintro W2 ⟨h2, hb2⟩
 have HT := Lib.hid (ptake_any B pb t U (by omega) (by omega) _ W2 h2 (Nat.le_trans hB hb2.size))
 have HB2 := Lib.hid hb2
 clear h2 hb2
 go_upto_region 3 with (go_at_call 124; refine HT.out.mono ?_; rintro e w3 ⟨uv, rfl, h3, hb3⟩)
 have hb3' := HB2.out.trans hb3
 obtain ⟨ua, uc, rfl⟩ := pxJ_is (h3.mem List.mem_cons_self) (usedN_len _ _)
 obtain ⟨x0, x1, x2, x3⟩ := stB_at (h3.mem (List.mem_cons_of_mem _ List.mem_cons_self))
 obtain ⟨n1, n2⟩ := h3.box (Nat.le_trans hB hb3'.size) row k purl
 obtain ⟨lb, hlb⟩ : ∃ lb, lb = w3.heap.size := ⟨_, rfl⟩
 have HN := Lib.hid (And.intro n1 (hb3'.trans n2))
 rw [← hlb] at HN
 clear h3 hb3 hb3' n1 n2 HT HB2
 go_upto_region 4 with fail
 refine abs_world (Q := fun W => Code.wp _ _ _ _ W) (F := fun W => QcE B pb ⟨t.lp, t.bound, t.cross, t.rows, t.next + U⟩ (lpO lb row k (.slice none 0 0) purl :: pxJ (.slice ua U uc) (usedN t.next U) :: stB cb ⟨3, purl, sa, sb⟩ :: X) W ∧ Below B w W) _ HN.out ?_
 clear HN x0 x1 x2 x3
 rw [← hlb]
 clear hlb
 rintro W4 ⟨h4, hb4⟩
 have HSt : Hid (stepC row k ⟨3, purl, sa, sb⟩ t = ⟨t.lp ++ addL row k purl [usedN t.next U], t.bound, t.cross, t.rows, t.next + U⟩) := by
  show _ = _
  unfold stepC newsL boundL crossL
  rw [HUe.out, Int.toNat_natCast]
  simp [addL]
 have hP4 := h4.perm (List.Perm.swap _ _ _)
 have hB4 : B ≤ W4.heap.size := Nat.le_trans hB hb4.size
 obtain ⟨n1, n2⟩ := hP4.one hB4
 obtain ⟨x0, x1, x2, x3⟩ := stB_at (h4.mem (List.mem_cons_of_mem _ (List.mem_cons_of_mem _ List.mem_cons_self)))
 obtain ⟨b1, -⟩ := bxT_at (h4.mem List.mem_cons_self)
 have y0 := b1 0 _ rfl
 have y1 := b1 1 _ rfl
 have y2 := b1 2 _ rfl
 have y3 := b1 3 _ rfl
 have HA := Lib.hid (padd_any B pb ⟨t.lp, t.bound, t.cross, t.rows, t.next + U⟩ row k (.slice none 0 0) purl (some ⟨W4.heap.size, 0, none⟩) 1 1 [.slice ua U uc] [usedN t.next U] rfl rfl (by show t.lp.length + 1 ≤ 100000; omega) _ _ n1 (Nat.le_trans hB4 n2.size))
 have HB4 := Lib.hid (hb4.trans n2)
 clear h4 hP4 n1 n2 b1 hb4
 go_wp2_with (go_at_call 125; refine HA.out.mono ?_; rintro e w5 ⟨rfl, h5, hb5⟩)
 refine bodyPost_end (results_none rfl _ _ _) rfl ?_
 rw [HSt.out]
 exact ⟨rfl, h5.lift ((List.sublist_cons_self _ _).trans (List.sublist_cons_self _ _)), HB4.out.trans hb5⟩
set_option maxHeartbeats 4000000 in
theorem pwork4 (B pb : Nat) (t : Pw) (row k : Int) (s : Stc) (hs : s.ok = true) (hk : s.kind = 4) (X : List Own) (hat : t.next + (usesS s).toNat ≤ t.lp.length) (hl : t.lp.length ≤ 50000) (w : World) (h : QcE B pb t X w) (hB : B ≤ w.heap.size) :
 Calls Tryz.prog 89 #[.pointer (some ⟨pb, 0, none⟩), .int .i64 row, .int .i64 k, s.val] w fun e w' => WoPost B pb (stepC row k s t) X w e w' := by
 have hK := stc_k hs
 obtain ⟨kind, purl, sa, sb⟩ := s
 obtain rfl : kind = 4 := hk
 have hal := al_t w (.cells #[.int .u8 4, .bool purl, .int .i64 sa, .int .i64 sb] 96)
 have HX : Hid (QcE B pb t (stB w.heap.size ⟨4, purl, sa, sb⟩ :: X) (w.alloc (.cells #[.int .u8 4, .bool purl, .int .i64 sa, .int .i64 sb] 96)) ∧ Below B w (w.alloc (.cells #[.int .u8 4, .bool purl, .int .i64 sa, .int .i64 sb] 96))) :=
  ⟨h.add hal hB (bxT_new w _ _), hal.mono hB⟩
 obtain ⟨cb, hcb⟩ : ∃ cb, cb = w.heap.size := ⟨_, rfl⟩
 rw [← hcb] at HX
 obtain ⟨U, hU⟩ : ∃ U : Nat, usesS ⟨4, purl, sa, sb⟩ = (U : Int) := ⟨(usesS ⟨4, purl, sa, sb⟩).toNat, by have := hK.nat; omega⟩
 have hU200 : U ≤ 200 := by have := hK.nat; omega
 have HUe := Lib.hid hU
 rw [hU, Int.toNat_natCast] at hat
 clear h hal
 show Calls Tryz.prog 89 #[_, _, _, .agg #[.int .u8 4, .bool purl, .int .i64 sa, .int .i64 sb]] w _
 go_enter Tryz.func89, Tryz.ntmps89
 go_upto_region 1 with fail
 refine abs_world (Q := fun W => Code.wp _ _ _ _ W) (F := fun W => QcE B pb t (stB cb ⟨4, purl, sa, sb⟩ :: X) W ∧ Below B w W) _ HX.out ?_
 clear HX
 rw [← hcb]
 clear hcb
 rintro W1 ⟨h1, hb1⟩
 obtain ⟨x0, x1, x2, x3⟩ := stB_at (h1.mem List.mem_cons_self)
 have hB1 : B ≤ W1.heap.size := Nat.le_trans hB hb1.size
 have hal1 := al_t W1 (.cells #[.int .u8 4, .bool purl, .int .i64 sa, .int .i64 sb] 96)
 obtain ⟨q1, q2⟩ := usesE_one hs
 have HC := uses_any (some ⟨W1.heap.size, 0, none⟩) 1 [⟨4, purl, sa, sb⟩] (fun x hx => by rw [List.mem_singleton.1 hx]; exact stc_wf hs) _ (lit_stc W1 ⟨4, purl, sa, sb⟩)
 rw [q1, q2, hU] at HC
 have HC1 := Lib.hid HC
 have HQ1 := Lib.hid (And.intro (h1.to hal1) (hb1.trans (hal1.mono hB1)))
 clear HC h1 hb1 hal1 q1 q2
 go_upto_region 2 with (go_at_call 39; refine HC1.out.mono ?_; rintro e w2 ⟨rfl, hb2⟩)
 refine abs_world (Q := fun W => Code.wp _ _ _ _ W) (F := fun W => QcE B pb t (stB cb ⟨4, purl, sa, sb⟩ :: X) W ∧ Below B w W) _ ⟨HQ1.out.1.to hb2, HQ1.out.2.trans (hb2.mono (Nat.le_trans hB HQ1.out.2.size))⟩ ?_
 clear HQ1 HC1 hb2 x0 x1 x2 x3 hB1
 rintro W2 ⟨h2, hb2⟩
 have HT := Lib.hid (ptake_any B pb t U (by omega) (by omega) _ W2 h2 (Nat.le_trans hB hb2.size))
 have HB2 := Lib.hid hb2
 clear h2 hb2
 go_upto_region 3 with (go_at_call 124; refine HT.out.mono ?_; rintro e w3 ⟨uv, rfl, h3, hb3⟩)
 have hb3' := HB2.out.trans hb3
 obtain ⟨ua, uc, rfl⟩ := pxJ_is (h3.mem List.mem_cons_self) (usedN_len _ _)
 obtain ⟨x0, x1, x2, x3⟩ := stB_at (h3.mem (List.mem_cons_of_mem _ List.mem_cons_self))
 obtain ⟨n1, n2⟩ := h3.box (Nat.le_trans hB hb3'.size) row k purl
 obtain ⟨lb, hlb⟩ : ∃ lb, lb = w3.heap.size := ⟨_, rfl⟩
 have HN := Lib.hid (And.intro n1 (hb3'.trans n2))
 rw [← hlb] at HN
 clear h3 hb3 hb3' n1 n2 HT HB2
 go_upto_region 4 with fail
 refine abs_world (Q := fun W => Code.wp _ _ _ _ W) (F := fun W => QcE B pb ⟨t.lp, t.bound, t.cross, t.rows, t.next + U⟩ (lpO lb row k (.slice none 0 0) purl :: pxJ (.slice ua U uc) (usedN t.next U) :: stB cb ⟨4, purl, sa, sb⟩ :: X) W ∧ Below B w W) _ HN.out ?_
 clear HN x0 x1 x2 x3
 rw [← hlb]
 clear hlb
 rintro W4 ⟨h4, hb4⟩
 have HSt : Hid (stepC row k ⟨4, purl, sa, sb⟩ t = ⟨t.lp ++ addL row k purl [(usedN t.next U).reverse], t.bound, t.cross, t.rows, t.next + U⟩) := by
  show _ = _
  unfold stepC newsL boundL crossL
  rw [HUe.out, Int.toNat_natCast]
  simp [addL]
 have HR := Lib.hid ((h4.perm (List.Perm.swap _ _ _)).rev (usedN_len _ _) (by omega) (Nat.le_trans hB hb4.size))
 obtain ⟨x0, x1, x2, x3⟩ := stB_at (h4.mem (List.mem_cons_of_mem _ (List.mem_cons_of_mem _ List.mem_cons_self)))
 have HB4 := Lib.hid hb4
 clear h4 hb4
 go_upto_region 16 with (go_at_call 126; refine HR.out.mono ?_; rintro e w5 ⟨rfl, h5, hb5⟩)
 refine abs_world (Q := fun W => Code.wp _ _ _ _ W) (F := fun W => QcE B pb ⟨t.lp, t.bound, t.cross, t.rows, t.next + U⟩ (lpO lb row k (.slice none 0 0) purl :: pxJ (.slice ua U uc) (usedN t.next U).reverse :: stB cb ⟨4, purl, sa, sb⟩ :: X) W ∧ Below B w W) _ ⟨h5.perm (List.Perm.swap _ _ _), HB4.out.trans hb5⟩ ?_
 clear h5 hb5 HB4 HR x0 x1 x2 x3
 clear W4
 rintro W4 ⟨h4, hb4⟩
 have hP4 := h4.perm (List.Perm.swap _ _ _)
 have hB4 : B ≤ W4.heap.size := Nat.le_trans hB hb4.size
 obtain ⟨n1, n2⟩ := hP4.one hB4
 obtain ⟨x0, x1, x2, x3⟩ := stB_at (h4.mem (List.mem_cons_of_mem _ (List.mem_cons_of_mem _ List.mem_cons_self)))
 obtain ⟨b1, -⟩ := bxT_at (h4.mem List.mem_cons_self)
 have y0 := b1 0 _ rfl
 have y1 := b1 1 _ rfl
 have y2 := b1 2 _ rfl
 have y3 := b1 3 _ rfl
 have HA := Lib.hid (padd_any B pb ⟨t.lp, t.bound, t.cross, t.rows, t.next + U⟩ row k (.slice none 0 0) purl (some ⟨W4.heap.size, 0, none⟩) 1 1 [.slice ua U uc] [(usedN t.next U).reverse] rfl rfl (by show t.lp.length + 1 ≤ 100000; omega) _ _ n1 (Nat.le_trans hB4 n2.size))
 have HB4 := Lib.hid (hb4.trans n2)
 clear h4 hP4 n1 n2 b1 hb4
 go_wp2_with (go_at_call 125; refine HA.out.mono ?_; rintro e w5 ⟨rfl, h5, hb5⟩)
 refine bodyPost_end (results_none rfl _ _ _) rfl ?_
 rw [HSt.out]
 exact ⟨rfl, h5.lift ((List.sublist_cons_self _ _).trans (List.sublist_cons_self _ _)), HB4.out.trans hb5⟩
set_option maxHeartbeats 4000000 in
theorem pwork8 (B pb : Nat) (t : Pw) (row k : Int) (s : Stc) (hs : s.ok = true) (hk : s.kind = 8) (X : List Own) (hat : t.next + (usesS s).toNat ≤ t.lp.length) (hl : t.lp.length ≤ 50000) (w : World) (h : QcE B pb t X w) (hB : B ≤ w.heap.size) :
 Calls Tryz.prog 89 #[.pointer (some ⟨pb, 0, none⟩), .int .i64 row, .int .i64 k, s.val] w fun e w' => WoPost B pb (stepC row k s t) X w e w' := by
 have hK := stc_k hs
 obtain ⟨kind, purl, sa, sb⟩ := s
 obtain rfl : kind = 8 := hk
 have hal := al_t w (.cells #[.int .u8 8, .bool purl, .int .i64 sa, .int .i64 sb] 96)
 have HX : Hid (QcE B pb t (stB w.heap.size ⟨8, purl, sa, sb⟩ :: X) (w.alloc (.cells #[.int .u8 8, .bool purl, .int .i64 sa, .int .i64 sb] 96)) ∧ Below B w (w.alloc (.cells #[.int .u8 8, .bool purl, .int .i64 sa, .int .i64 sb] 96))) :=
  ⟨h.add hal hB (bxT_new w _ _), hal.mono hB⟩
 obtain ⟨cb, hcb⟩ : ∃ cb, cb = w.heap.size := ⟨_, rfl⟩
 rw [← hcb] at HX
 obtain ⟨U, hU⟩ : ∃ U : Nat, usesS ⟨8, purl, sa, sb⟩ = (U : Int) := ⟨(usesS ⟨8, purl, sa, sb⟩).toNat, by have := hK.nat; omega⟩
 have hU200 : U ≤ 200 := by have := hK.nat; omega
 have HUe := Lib.hid hU
 rw [hU, Int.toNat_natCast] at hat
 clear h hal
 show Calls Tryz.prog 89 #[_, _, _, .agg #[.int .u8 8, .bool purl, .int .i64 sa, .int .i64 sb]] w _
 go_enter Tryz.func89, Tryz.ntmps89
 go_upto_region 1 with fail
 refine abs_world (Q := fun W => Code.wp _ _ _ _ W) (F := fun W => QcE B pb t (stB cb ⟨8, purl, sa, sb⟩ :: X) W ∧ Below B w W) _ HX.out ?_
 clear HX
 rw [← hcb]
 clear hcb
 rintro W1 ⟨h1, hb1⟩
 obtain ⟨x0, x1, x2, x3⟩ := stB_at (h1.mem List.mem_cons_self)
 have hB1 : B ≤ W1.heap.size := Nat.le_trans hB hb1.size
 have hal1 := al_t W1 (.cells #[.int .u8 8, .bool purl, .int .i64 sa, .int .i64 sb] 96)
 obtain ⟨q1, q2⟩ := usesE_one hs
 have HC := uses_any (some ⟨W1.heap.size, 0, none⟩) 1 [⟨8, purl, sa, sb⟩] (fun x hx => by rw [List.mem_singleton.1 hx]; exact stc_wf hs) _ (lit_stc W1 ⟨8, purl, sa, sb⟩)
 rw [q1, q2, hU] at HC
 have HC1 := Lib.hid HC
 have HQ1 := Lib.hid (And.intro (h1.to hal1) (hb1.trans (hal1.mono hB1)))
 clear HC h1 hb1 hal1 q1 q2
 go_upto_region 2 with (go_at_call 39; refine HC1.out.mono ?_; rintro e w2 ⟨rfl, hb2⟩)
 refine abs_world (Q := fun W => Code.wp _ _ _ _ W) (F := fun W => QcE B pb t (stB cb ⟨8, purl, sa, sb⟩ :: X) W ∧ Below B w W) _ ⟨HQ1.out.1.to hb2, HQ1.out.2.trans (hb2.mono (Nat.le_trans hB HQ1.out.2.size))⟩ ?_
 clear HQ1 HC1 hb2 x0 x1 x2 x3 hB1
 rintro W2 ⟨h2, hb2⟩
 have HT := Lib.hid (ptake_any B pb t U (by omega) (by omega) _ W2 h2 (Nat.le_trans hB hb2.size))
 have HB2 := Lib.hid hb2
 clear h2 hb2
 go_upto_region 3 with (go_at_call 124; refine HT.out.mono ?_; rintro e w3 ⟨uv, rfl, h3, hb3⟩)
 have hb3' := HB2.out.trans hb3
 obtain ⟨ua, uc, rfl⟩ := pxJ_is (h3.mem List.mem_cons_self) (usedN_len _ _)
 obtain ⟨x0, x1, x2, x3⟩ := stB_at (h3.mem (List.mem_cons_of_mem _ List.mem_cons_self))
 obtain ⟨n1, n2⟩ := h3.box (Nat.le_trans hB hb3'.size) row k purl
 obtain ⟨lb, hlb⟩ : ∃ lb, lb = w3.heap.size := ⟨_, rfl⟩
 have HN := Lib.hid (And.intro n1 (hb3'.trans n2))
 rw [← hlb] at HN
 clear h3 hb3 hb3' n1 n2 HT HB2
 go_upto_region 4 with fail
 refine abs_world (Q := fun W => Code.wp _ _ _ _ W) (F := fun W => QcE B pb ⟨t.lp, t.bound, t.cross, t.rows, t.next + U⟩ (lpO lb row k (.slice none 0 0) purl :: pxJ (.slice ua U uc) (usedN t.next U) :: stB cb ⟨8, purl, sa, sb⟩ :: X) W ∧ Below B w W) _ HN.out ?_
 clear HN x0 x1 x2 x3
 rw [← hlb]
 clear hlb
 rintro W4 ⟨h4, hb4⟩
 have hU1 : U = 1 := by have h1 := HUe.out; rw [hK.uses] at h1; simp at h1; omega
 subst hU1
 obtain ⟨l, hl8⟩ : ∃ l, t.lp[t.next]? = some l := ⟨_, List.getElem?_eq_getElem (show t.next < t.lp.length by omega)⟩
 have HSt : Hid (stepC row k ⟨8, purl, sa, sb⟩ t = ⟨t.lp ++ addL row k l.purl [usedN t.next 1], t.bound, t.cross, t.rows, t.next + 1⟩) := by
  show _ = _
  have e : t.lp[t.next]?.getD lp0 = l := by rw [hl8]; rfl
  unfold stepC newsL boundL crossL
  rw [HUe.out, Int.toNat_natCast]
  simp only [usedN]
  simp [addL, e]
 obtain ⟨lg, lc, q0, q1⟩ := h4.loop_at (j := t.next) hl8 rfl
 obtain ⟨ug, uc', eu, u0⟩ := pxJ_at (h4.mem (List.mem_cons_of_mem _ List.mem_cons_self)) (usedN_at (a := t.next) (n := 1) (i := 0) (by omega)) (usedN_len _ _)
 cases eu
 simp only [Nat.add_zero] at u0
 obtain ⟨x0, x1, x2, x3⟩ := stB_at (h4.mem (List.mem_cons_of_mem _ (List.mem_cons_of_mem _ List.mem_cons_self)))
 obtain ⟨b1, b2, -⟩ := bxT_at (h4.mem List.mem_cons_self)
 have y3 := b1 3 _ rfl
 have f3 := b2 3
 have hB4 : B ≤ W4.heap.size := Nat.le_trans hB hb4.size
 have hbd : Below W4.heap.size W4 W4.drew := Below.drew (Below.refl _ _)
 obtain ⟨n1, n2⟩ := (h4.to hbd).set (Nat.le_trans hB4 hbd.size) 3 (.bool l.purl)
 have HS := Lib.hid (And.intro n1 (hb4.trans ((hbd.mono hB4).trans n2)))
 have hlt8 : t.next < t.lp.length := by omega
 obtain ⟨N, hN⟩ : ∃ N, N = t.lp.length := ⟨_, rfl⟩
 rw [← hN] at q0 hlt8
 clear h4 hb4 n1 n2 hbd b1 b2 hl8
 go_upto_region 12 with fail
 go_region
 all_goals
  go_upto_region 13 with fail
  refine abs_world (Q := fun W => Code.wp _ _ _ _ W) (F := fun W => QcE B pb ⟨t.lp, t.bound, t.cross, t.rows, t.next + 1⟩ (lpO lb row k (.slice none 0 0) l.purl :: pxJ (.slice (some ⟨ug, 0, none⟩) 1 uc) (usedN t.next 1) :: stB cb ⟨8, purl, sa, sb⟩ :: X) W ∧ Below B w W) _ HS.out ?_
  clear HS x0 x1 x2 x3 y3 f3 q0 q1 u0 hB4
  clear W4
  rintro W4 ⟨h4, hb4⟩
  have hP4 := h4.perm (List.Perm.swap _ _ _)
  have hB4 : B ≤ W4.heap.size := Nat.le_trans hB hb4.size
  obtain ⟨n1, n2⟩ := hP4.one hB4
  obtain ⟨x0, x1, x2, x3⟩ := stB_at (h4.mem (List.mem_cons_of_mem _ (List.mem_cons_of_mem _ List.mem_cons_self)))
  obtain ⟨b1, -⟩ := bxT_at (h4.mem List.mem_cons_self)
  have y0 := b1 0 _ rfl
  have y1 := b1 1 _ rfl
  have y2 := b1 2 _ rfl
  have y3 := b1 3 _ rfl
  have HA := Lib.hid (padd_any B pb ⟨t.lp, t.bound, t.cross, t.rows, t.next + 1⟩ row k (.slice none 0 0) l.purl (some ⟨W4.heap.size, 0, none⟩) 1 1 [.slice (some ⟨ug, 0, none⟩) 1 uc] [usedN t.next 1] rfl rfl (by show t.lp.length + 1 ≤ 100000; omega) _ _ n1 (Nat.le_trans hB4 n2.size))
  have HB4 := Lib.hid (hb4.trans n2)
  clear h4 hP4 n1 n2 b1 hb4
  go_wp2_with (go_at_call 125; refine HA.out.mono ?_; rintro e w5 ⟨rfl, h5, hb5⟩)
  refine bodyPost_end (results_none rfl _ _ _) rfl ?_
  rw [HSt.out]
  exact ⟨rfl, h5.lift ((List.sublist_cons_self _ _).trans (List.sublist_cons_self _ _)), HB4.out.trans hb5⟩
end Go.Proofs.YtflpikickbellaaGreat
