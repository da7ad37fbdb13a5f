/- Layer 27, the program. -/
import Derived.Test.YtflpikickbellaaGreatZ39
import Derived.Laws.AppendOwnNone
namespace Go.Proofs.YtflpikickbellaaGreat
open Go.RowKit Go.Shelf Go.Sort
set_option maxRecDepth 100000
set_option maxHeartbeats 4000000 in
theorem pwork6 (B pb : Nat) (t : Pw) (row k : Int) (s : Stc) (hs : s.ok = true) (hk : s.kind = 6) (X : List Own) (hat : t.next + (usesS s).toNat ≤ t.lp.length) (hl : t.lp.length ≤ 50000) (hcl : t.cross.length ≤ 50000) (w : World) (h : QcE B pb t X w) (hB : B ≤ w.heap.size) :
 Calls Tryz.prog 89 #[.pointer (some ⟨pb, 0, none⟩), .int .i64 row, .int .i64 k, s.val] w fun e w' => WoPost B pb (stepC row k s t) X w e w' := by
 have hK := stc_k hs
 obtain ⟨kind, purl, sa, sb⟩ := s
 obtain rfl : kind = 6 := hk
 have hal := al_t w (.cells #[.int .u8 6, .bool purl, .int .i64 sa, .int .i64 sb] 96)
 have HX : Hid (QcE B pb t (stB w.heap.size ⟨6, purl, sa, sb⟩ :: X) (w.alloc (.cells #[.int .u8 6, .bool purl, .int .i64 sa, .int .i64 sb] 96)) ∧ Below B w (w.alloc (.cells #[.int .u8 6, .bool purl, .int .i64 sa, .int .i64 sb] 96))) :=
  ⟨h.add hal hB (bxT_new w _ _), hal.mono hB⟩
 obtain ⟨cb, hcb⟩ : ∃ cb, cb = w.heap.size := ⟨_, rfl⟩
 rw [← hcb] at HX
 obtain ⟨U, hU⟩ : ∃ U : Nat, usesS ⟨6, purl, sa, sb⟩ = (U : Int) := ⟨(usesS ⟨6, purl, sa, sb⟩).toNat, by have := hK.nat; omega⟩
 have hU200 : U ≤ 200 := by have := hK.nat; omega
 have HUe := Lib.hid hU
 rw [hU, Int.toNat_natCast] at hat
 clear h hal
 show Calls Tryz.prog 89 #[_, _, _, .agg #[.int .u8 6, .bool purl, .int .i64 sa, .int .i64 sb]] w _
 go_enter Tryz.func89, Tryz.ntmps89
 go_upto_region 1 with fail
 refine abs_world (Q := fun W => Code.wp _ _ _ _ W) (F := fun W => QcE B pb t (stB cb ⟨6, purl, sa, sb⟩ :: X) W ∧ Below B w W) _ HX.out ?_
 clear HX
 rw [← hcb]
 clear hcb
 rintro W1 ⟨h1, hb1⟩
 obtain ⟨x0, x1, x2, x3⟩ := stB_at (h1.mem List.mem_cons_self)
 have hB1 : B ≤ W1.heap.size := Nat.le_trans hB hb1.size
 have hal1 := al_t W1 (.cells #[.int .u8 6, .bool purl, .int .i64 sa, .int .i64 sb] 96)
 obtain ⟨q1, q2⟩ := usesE_one hs
 have HC := uses_any (some ⟨W1.heap.size, 0, none⟩) 1 [⟨6, purl, sa, sb⟩] (fun x hx => by rw [List.mem_singleton.1 hx]; exact stc_wf hs) _ (lit_stc W1 ⟨6, purl, sa, sb⟩)
 rw [q1, q2, hU] at HC
 have HC1 := Lib.hid HC
 have HQ1 := Lib.hid (And.intro (h1.to hal1) (hb1.trans (hal1.mono hB1)))
 clear HC h1 hb1 hal1 q1 q2
 go_upto_region 2 with (go_at_call 39; refine HC1.out.mono ?_; rintro e w2 ⟨rfl, hb2⟩)
 refine abs_world (Q := fun W => Code.wp _ _ _ _ W) (F := fun W => QcE B pb t (stB cb ⟨6, purl, sa, sb⟩ :: X) W ∧ Below B w W) _ ⟨HQ1.out.1.to hb2, HQ1.out.2.trans (hb2.mono (Nat.le_trans hB HQ1.out.2.size))⟩ ?_
 clear HQ1 HC1 hb2 x0 x1 x2 x3 hB1
 rintro W2 ⟨h2, hb2⟩
 have HT := Lib.hid (ptake_any B pb t U (by omega) (by omega) _ W2 h2 (Nat.le_trans hB hb2.size))
 have HB2 := Lib.hid hb2
 clear h2 hb2
 go_upto_region 3 with (go_at_call 124; refine HT.out.mono ?_; rintro e w3 ⟨uv, rfl, h3, hb3⟩)
 have hb3' := HB2.out.trans hb3
 obtain ⟨ua, uc, rfl⟩ := pxJ_is (h3.mem List.mem_cons_self) (usedN_len _ _)
 obtain ⟨x0, x1, x2, x3⟩ := stB_at (h3.mem (List.mem_cons_of_mem _ List.mem_cons_self))
 obtain ⟨n1, n2⟩ := h3.box (Nat.le_trans hB hb3'.size) row k purl
 obtain ⟨lb, hlb⟩ : ∃ lb, lb = w3.heap.size := ⟨_, rfl⟩
 have HN := Lib.hid (And.intro n1 (hb3'.trans n2))
 rw [← hlb] at HN
 clear h3 hb3 hb3' n1 n2 HT HB2
 go_upto_region 4 with fail
 refine abs_world (Q := fun W => Code.wp _ _ _ _ W) (F := fun W => QcE B pb ⟨t.lp, t.bound, t.cross, t.rows, t.next + U⟩ (lpO lb row k (.slice none 0 0) purl :: pxJ (.slice ua U uc) (usedN t.next U) :: stB cb ⟨6, purl, sa, sb⟩ :: X) W ∧ Below B w W) _ HN.out ?_
 clear HN x0 x1 x2 x3
 rw [← hlb]
 clear hlb
 rintro W4 ⟨h4, hb4⟩
 obtain ⟨a1, a2, b1, b2⟩ := hK.cable (by simp)
 simp only at a1 a2 b1 b2
 obtain ⟨a, rfl⟩ : ∃ n : Nat, sa = (n : Int) := ⟨sa.toNat, by omega⟩
 obtain ⟨b, rfl⟩ : ∃ n : Nat, sb = (n : Int) := ⟨sb.toNat, by omega⟩
 have hU2 : U = a + b := by have h1 := HUe.out; rw [hK.uses] at h1; simp at h1; omega
 have HSt : Hid (stepC row k ⟨6, purl, (a : Int), (b : Int)⟩ t = ⟨t.lp ++ addL row k purl (cabP (usedN t.next U) a), t.bound, t.cross ++ crossN ⟨6, purl, (a : Int), (b : Int)⟩ t.lp.length a, t.rows, t.next + U⟩) := by
  show _ = _
  unfold stepC newsL boundL crossL
  rw [HUe.out, Int.toNat_natCast]
  simp [addL, cabP]
  rfl
 have hB4 : B ≤ W4.heap.size := Nat.le_trans hB hb4.size
 obtain ⟨x0, x1, x2, x3⟩ := stB_at (h4.mem (List.mem_cons_of_mem _ (List.mem_cons_of_mem _ List.mem_cons_self)))
 obtain ⟨b1', -⟩ := bxT_at (h4.mem List.mem_cons_self)
 have y0 := b1' 0 _ rfl
 have y1 := b1' 1 _ rfl
 have y2 := b1' 2 _ rfl
 have y3 := b1' 3 _ rfl
 have HA := Lib.hid (pcable6 B pb ⟨t.lp, t.bound, t.cross, t.rows, t.next + U⟩ row k a b U (by omega) (by omega) hU2 purl ua uc (usedN t.next U) (usedN_len _ _) _ hl hcl _ (h4.perm (List.Perm.swap _ _ _)) hB4)
 have HB4 := Lib.hid hb4
 clear h4 b1' hb4 hU2 hB4
 go_wp2_with (go_at_call 127; refine HA.out.mono ?_; rintro e w5 ⟨rfl, h5, hb5⟩)
 refine bodyPost_end (results_none rfl _ _ _) rfl ?_
 rw [HSt.out]
 exact ⟨rfl, h5.lift ((List.sublist_cons_self _ _).trans ((List.sublist_cons_self _ _).trans (List.sublist_cons_self _ _))), HB4.out.trans hb5⟩
set_option maxHeartbeats 4000000 in
theorem pwork7 (B pb : Nat) (t : Pw) (row k : Int) (s : Stc) (hs : s.ok = true) (hk : s.kind = 7) (X : List Own) (hat : t.next + (usesS s).toNat ≤ t.lp.length) (hl : t.lp.length ≤ 50000) (hcl : t.cross.length ≤ 50000) (w : World) (h : QcE B pb t X w) (hB : B ≤ w.heap.size) :
 Calls Tryz.prog 89 #[.pointer (some ⟨pb, 0, none⟩), .int .i64 row, .int .i64 k, s.val] w fun e w' => WoPost B pb (stepC row k s t) X w e w' := by
 have hK := stc_k hs
 obtain ⟨kind, purl, sa, sb⟩ := s
 obtain rfl : kind = 7 := hk
 have hal := al_t w (.cells #[.int .u8 7, .bool purl, .int .i64 sa, .int .i64 sb] 96)
 have HX : Hid (QcE B pb t (stB w.heap.size ⟨7, purl, sa, sb⟩ :: X) (w.alloc (.cells #[.int .u8 7, .bool purl, .int .i64 sa, .int .i64 sb] 96)) ∧ Below B w (w.alloc (.cells #[.int .u8 7, .bool purl, .int .i64 sa, .int .i64 sb] 96))) :=
  ⟨h.add hal hB (bxT_new w _ _), hal.mono hB⟩
 obtain ⟨cb, hcb⟩ : ∃ cb, cb = w.heap.size := ⟨_, rfl⟩
 rw [← hcb] at HX
 obtain ⟨U, hU⟩ : ∃ U : Nat, usesS ⟨7, purl, sa, sb⟩ = (U : Int) := ⟨(usesS ⟨7, purl, sa, sb⟩).toNat, by have := hK.nat; omega⟩
 have hU200 : U ≤ 200 := by have := hK.nat; omega
 have HUe := Lib.hid hU
 rw [hU, Int.toNat_natCast] at hat
 clear h hal
 show Calls Tryz.prog 89 #[_, _, _, .agg #[.int .u8 7, .bool purl, .int .i64 sa, .int .i64 sb]] w _
 go_enter Tryz.func89, Tryz.ntmps89
 go_upto_region 1 with fail
 refine abs_world (Q := fun W => Code.wp _ _ _ _ W) (F := fun W => QcE B pb t (stB cb ⟨7, purl, sa, sb⟩ :: X) W ∧ Below B w W) _ HX.out ?_
 clear HX
 rw [← hcb]
 clear hcb
 rintro W1 ⟨h1, hb1⟩
 obtain ⟨x0, x1, x2, x3⟩ := stB_at (h1.mem List.mem_cons_self)
 have hB1 : B ≤ W1.heap.size := Nat.le_trans hB hb1.size
 have hal1 := al_t W1 (.cells #[.int .u8 7, .bool purl, .int .i64 sa, .int .i64 sb] 96)
 obtain ⟨q1, q2⟩ := usesE_one hs
 have HC := uses_any (some ⟨W1.heap.size, 0, none⟩) 1 [⟨7, purl, sa, sb⟩] (fun x hx => by rw [List.mem_singleton.1 hx]; exact stc_wf hs) _ (lit_stc W1 ⟨7, purl, sa, sb⟩)
 rw [q1, q2, hU] at HC
 have HC1 := Lib.hid HC
 have HQ1 := Lib.hid (And.intro (h1.to hal1) (hb1.trans (hal1.mono hB1)))
 clear HC h1 hb1 hal1 q1 q2
 go_upto_region 2 with (go_at_call 39; refine HC1.out.mono ?_; rintro e w2 ⟨rfl, hb2⟩)
 refine abs_world (Q := fun W => Code.wp _ _ _ _ W) (F := fun W => QcE B pb t (stB cb ⟨7, purl, sa, sb⟩ :: X) W ∧ Below B w W) _ ⟨HQ1.out.1.to hb2, HQ1.out.2.trans (hb2.mono (Nat.le_trans hB HQ1.out.2.size))⟩ ?_
 clear HQ1 HC1 hb2 x0 x1 x2 x3 hB1
 rintro W2 ⟨h2, hb2⟩
 have HT := Lib.hid (ptake_any B pb t U (by omega) (by omega) _ W2 h2 (Nat.le_trans hB hb2.size))
 have HB2 := Lib.hid hb2
 clear h2 hb2
 go_upto_region 3 with (go_at_call 124; refine HT.out.mono ?_; rintro e w3 ⟨uv, rfl, h3, hb3⟩)
 have hb3' := HB2.out.trans hb3
 obtain ⟨ua, uc, rfl⟩ := pxJ_is (h3.mem List.mem_cons_self) (usedN_len _ _)
 obtain ⟨x0, x1, x2, x3⟩ := stB_at (h3.mem (List.mem_cons_of_mem _ List.mem_cons_self))
 obtain ⟨n1, n2⟩ := h3.box (Nat.le_trans hB hb3'.size) row k purl
 obtain ⟨lb, hlb⟩ : ∃ lb, lb = w3.heap.size := ⟨_, rfl⟩
 have HN := Lib.hid (And.intro n1 (hb3'.trans n2))
 rw [← hlb] at HN
 clear h3 hb3 hb3' n1 n2 HT HB2
 go_upto_region 4 with fail
 refine abs_world (Q := fun W => Code.wp _ _ _ _ W) (F := fun W => QcE B pb ⟨t.lp, t.bound, t.cross, t.rows, t.next + U⟩ (lpO lb row k (.slice none 0 0) purl :: pxJ (.slice ua U uc) (usedN t.next U) :: stB cb ⟨7, purl, sa, sb⟩ :: X) W ∧ Below B w W) _ HN.out ?_
 clear HN x0 x1 x2 x3
 rw [← hlb]
 clear hlb
 rintro W4 ⟨h4, hb4⟩
 obtain ⟨a1, a2, b1, b2⟩ := hK.cable (by simp)
 simp only at a1 a2 b1 b2
 obtain ⟨a, rfl⟩ : ∃ n : Nat, sa = (n : Int) := ⟨sa.toNat, by omega⟩
 obtain ⟨b, rfl⟩ : ∃ n : Nat, sb = (n : Int) := ⟨sb.toNat, by omega⟩
 have hU2 : U = a + b := by have h1 := HUe.out; rw [hK.uses] at h1; simp at h1; omega
 have HSt : Hid (stepC row k ⟨7, purl, (a : Int), (b : Int)⟩ t = ⟨t.lp ++ addL row k purl (cabP (usedN t.next U) a), t.bound, t.cross ++ crossN ⟨7, purl, (a : Int), (b : Int)⟩ t.lp.length a, t.rows, t.next + U⟩) := by
  show _ = _
  unfold stepC newsL boundL crossL
  rw [HUe.out, Int.toNat_natCast]
  simp [addL, cabP]
  rfl
 have hB4 : B ≤ W4.heap.size := Nat.le_trans hB hb4.size
 obtain ⟨x0, x1, x2, x3⟩ := stB_at (h4.mem (List.mem_cons_of_mem _ (List.mem_cons_of_mem _ List.mem_cons_self)))
 obtain ⟨b1', -⟩ := bxT_at (h4.mem List.mem_cons_self)
 have y0 := b1' 0 _ rfl
 have y1 := b1' 1 _ rfl
 have y2 := b1' 2 _ rfl
 have y3 := b1' 3 _ rfl
 have HA := Lib.hid (pcable7 B pb ⟨t.lp, t.bound, t.cross, t.rows, t.next + U⟩ row k a b U (by omega) (by omega) hU2 purl ua uc (usedN t.next U) (usedN_len _ _) _ hl hcl _ (h4.perm (List.Perm.swap _ _ _)) hB4)
 have HB4 := Lib.hid hb4
 clear h4 b1' hb4 hU2 hB4
 go_wp2_with (go_at_call 127; refine HA.out.mono ?_; rintro e w5 ⟨rfl, h5, hb5⟩)
 refine bodyPost_end (results_none rfl _ _ _) rfl ?_
 rw [HSt.out]
 exact ⟨rfl, h5.lift ((List.sublist_cons_self _ _).trans ((List.sublist_cons_self _ _).trans (List.sublist_cons_self _ _))), HB4.out.trans hb5⟩
theorem pwork_any (B pb : Nat) (t : Pw) (row k : Int) (s : Stc) (hs : s.ok = true) (hkb : kindB s = false) (X : List Own) (hat : t.next + (usesS s).toNat ≤ t.lp.length) (hl : t.lp.length ≤ 50000) (_ : t.bound.length ≤ 50000) (hcl : t.cross.length ≤ 50000) (w : World) (h : QcE B pb t X w) (hB : B ≤ w.heap.size) :
 Calls Tryz.prog 89 #[.pointer (some ⟨pb, 0, none⟩), .int .i64 row, .int .i64 k, s.val] w fun e w' => WoPost B pb (stepC row k s t) X w e w' := by
 have hK := stc_k hs
 have h1 := hK.lo
 have h2 := hK.hi
 unfold kindB at hkb
 rw [Bool.or_eq_false_iff, decide_eq_false_iff_not, decide_eq_false_iff_not] at hkb
 rcases (by omega : s.kind = 1 ∨ s.kind = 2 ∨ s.kind = 3 ∨ s.kind = 4 ∨ s.kind = 6 ∨ s.kind = 7 ∨ s.kind = 8) with hk | hk | hk | hk | hk | hk | hk
 · exact pwork1 B pb t row k s hs hk X hat hl w h hB
 · exact pwork2 B pb t row k s hs hk X hat hl w h hB
 · exact pwork3 B pb t row k s hs hk X hat hl w h hB
 · exact pwork4 B pb t row k s hs hk X hat hl w h hB
 · exact pwork6 B pb t row k s hs hk X hat hl hcl w h hB
 · exact pwork7 B pb t row k s hs hk X hat hl hcl w h hB
 · exact pwork8 B pb t row k s hs hk X hat hl w h hB
end Go.Proofs.YtflpikickbellaaGreat
namespace Go.Proofs.YtflpikickbellaaGreat
open Go.RowKit
set_option maxRecDepth 100000
def workP (n : Nat) (fs : List (List Stc)) : Nat → Pw
 | 0 => startP n
 | k + 1 => endR (rowRun ((k : Int) + 1) (fs.getD k []) (workP n fs k) (fs.getD k []).length)
theorem workP_next {n : Nat} {fs : List (List Stc)} {k : Nat} {l : List Stc} (h : fs[k]? = some l) : workP n fs (k + 1) = endR (rowRun ((k : Int) + 1) l (workP n fs k) l.length) := by
 show endR (rowRun _ (fs.getD k []) _ (fs.getD k []).length) = _
 rw [List.getD_eq_getElem?_getD, h]; rfl
structure WkOk (n : Nat) (fs : List (List Stc)) : Prop where
 start : n ≤ 200
 few : fs.length ≤ 12
 row : ∀ k l, fs[k]? = some l → (∀ s ∈ l, s.ok = true) ∧ l.length ≤ 200 ∧ sumU l ≤ 200 ∧ sumM l ≤ 200 ∧ ((workP n fs k).next : Int) + sumU l = (workP n fs k).lp.length
theorem cross_len {s : Stc} (h : StcK s) (f : Nat) : ((crossL s f).length : Int) ≤ 18 * usesS s := by
 unfold crossL
 by_cases e : s.kind = 6 ∨ s.kind = 7
 · rw [if_pos e, crossN_len, h.uses, if_neg (by omega), if_neg (by omega), if_pos e]
   obtain ⟨h1, h2, h3, h4⟩ := h.cable e
   have : s.a.toNat * s.b.toNat ≤ 6 * 6 := Nat.mul_le_mul (by omega) (by omega)
   omega
 · rw [if_neg e]
   have := h.nat
   simp only [List.length_nil]
   omega
theorem rowRun_bc {row : Int} {l : List Stc} (hl : ∀ s ∈ l, StcK s) (t : Pw) : ∀ k, k ≤ l.length →
 ((rowRun row l t k).bound.length : Int) ≤ t.bound.length + sumU (l.take k) ∧ ((rowRun row l t k).cross.length : Int) ≤ t.cross.length + 18 * sumU (l.take k)
 | 0, _ => by constructor <;> simp [rowRun, sumU]
 | k + 1, hk => by
   obtain ⟨h1, h2⟩ := rowRun_bc (row := row) hl t k (by omega)
   have hx : l[k]? = some l[k] := List.getElem?_eq_getElem (by omega)
   have hc := hl _ (List.getElem_mem (show k < l.length by omega))
   have hn := hc.nat
   rw [rowRun_next hx]
   unfold stepC sumU
   rw [sum_take hx]
   unfold sumU at h1 h2
   simp only [List.length_append]
   have h3 := cross_len hc (rowRun row l t k).lp.length
   have h4 : ((boundL l[k] (usedN (rowRun row l t k).next (usesS l[k]).toNat)).length : Int) ≤ usesS l[k] := by
    unfold boundL
    split
    · rw [usedN_len]; omega
    · simp only [List.length_nil]; omega
   omega
theorem sumM_nn : ∀ {l : List Stc}, (∀ s ∈ l, StcK s) → 0 ≤ sumM l
 | [], _ => by simp [sumM]
 | x :: m, hm => by
   have h1 := (hm x List.mem_cons_self).nat
   have h2 := sumM_nn (l := m) fun y hy => hm y (List.mem_cons_of_mem _ hy)
   unfold sumM at h2 ⊢
   rw [List.map_cons, List.sum_cons]
   omega
theorem sumM_nonneg {l : List Stc} (hl : ∀ s ∈ l, StcK s) (k : Nat) : 0 ≤ sumM (l.take k) := sumM_nn fun x hx => hl x (List.mem_of_mem_take hx)
theorem sumM_le {l : List Stc} (hl : ∀ s ∈ l, StcK s) (k : Nat) : sumM (l.take k) ≤ sumM l := by
 have e : sumM l = sumM (l.take k) + sumM (l.drop k) := by
  unfold sumM
  rw [← List.sum_append, ← List.map_append, List.take_append_drop]
 have := sumM_nn (l := l.drop k) fun x hx => hl x (List.mem_of_mem_drop hx)
 omega
structure WkI (t : Pw) (k : Nat) : Prop where
 rl : t.rows.length = k + 2
 r0 : t.rows[k]? = some (t.next : Int)
 r1 : t.rows[k + 1]? = some (t.lp.length : Int)
 ll : t.lp.length ≤ 200 * (k + 1)
 bl : t.bound.length ≤ 200 * k
 cl : t.cross.length ≤ 3600 * k
theorem WkOk.inv {n : Nat} {fs : List (List Stc)} (h : WkOk n fs) : ∀ k, k ≤ fs.length → WkI (workP n fs k) k
 | 0, _ => by
   have := h.start
   refine ⟨rfl, rfl, ?_, ?_, Nat.le_refl _, Nat.le_refl _⟩
   · show some (n : Int) = some _
     rw [show (workP n fs 0).lp.length = n from startP_len n]
   · rw [show (workP n fs 0).lp.length = n from startP_len n]; omega
 | k + 1, hk => by
   have ih := h.inv k (by omega)
   have hx : fs[k]? = some fs[k] := List.getElem?_eq_getElem (by omega)
   obtain ⟨o1, o2, o3, o4, o5⟩ := h.row k _ hx
   have hK : ∀ s ∈ fs[k], StcK s := fun s hs => stc_k (o1 s hs)
   obtain ⟨l1, l2, l3⟩ := rowRun_len (row := (k : Int) + 1) hK (workP n fs k) fs[k].length (Nat.le_refl _)
   obtain ⟨b1, b2⟩ := rowRun_bc (row := (k : Int) + 1) hK (workP n fs k) fs[k].length (Nat.le_refl _)
   rw [List.take_length] at l1 l2 b1 b2
   rw [workP_next hx]
   obtain ⟨rl, r0, r1, ll, bl, cl⟩ := ih
   unfold endR
   refine ⟨by simp only; rw [List.length_append, l3, rl]; rfl, ?_, ?_, by simp only; omega, by simp only; omega, by simp only; omega⟩
   · simp only
     rw [List.getElem?_append_left (by rw [l3, rl]; omega), l3, r1]
     congr 1
     omega
   · simp only
     rw [List.getElem?_append_right (by rw [l3, rl]; omega), l3, rl, Nat.sub_self]
     rfl
end Go.Proofs.YtflpikickbellaaGreat
namespace Go.Proofs.YtflpikickbellaaGreat
open Go.RowKit Go.Shelf Go.Sort
set_option maxRecDepth 100000
theorem cells_fourW (l : List Stc) : ∀ cs ∈ l.map Stc.cells, cs.length = 4 := fun cs h => by
 obtain ⟨s, _, rfl⟩ := List.mem_map.1 h
 rfl
def pxS (v : Value) (l : List Stc) : Own := ⟨96, 4, l.length, v, (l.map Stc.cells).flatten⟩
theorem pxS_is {w : World} {B n : Nat} {v : Value} {l : List Stc} (h : (pxS v l).lies w B) (hn : l.length = n) : ∃ a c, v = .slice a n c := by
 subst hn
 obtain ⟨a, c, e, -⟩ := own_slice h
 exact ⟨a, c, e⟩
theorem pxS_at {w : World} {B n : Nat} {v : Value} {l : List Stc} (h : (pxS v l).lies w B) {k : Nat} {s : Stc} (hk : l[k]? = some s) (hn : l.length = n) : ∃ g c, v = .slice (some ⟨g, 0, none⟩) n c := by
 have h0 : w.ownsRow B 96 4 v l.length (l.map Stc.cells).flatten := h
 have h1 := (List.getElem?_eq_some_iff.1 hk).1
 subst hn
 rcases h0.2 with ⟨-, e⟩ | ⟨g, cap, cur, hv, -⟩
 · omega
 · exact ⟨g, cap, hv⟩
theorem pxS_cell {w : World} {B n g c : Nat} {l : List Stc} (h : (pxS (.slice (some ⟨g, 0, none⟩) n c) l).lies w B) {k : Nat} {s : Stc} (hk : l[k]? = some s) : StcAt w g (k * 4) s := by
 have h0 : w.ownsRow B 96 4 (.slice (some ⟨g, 0, none⟩) n c) l.length (l.map Stc.cells).flatten := h
 obtain ⟨a', c', e', -⟩ := own_slice h0
 cases e'
 have hz : (l.map Stc.cells)[k]? = some s.cells := by rw [List.getElem?_map, hk]; rfl
 have hx : ∀ i x, s.cells[i]? = some x → w.cell? ⟨g, k * 4 + i, none⟩ = some x := fun i x hi => by
  have h4 := flat_at (cells_fourW l) hz hi
  have h5 := (List.getElem?_eq_some_iff.1 h4).1
  rw [flat_len (cells_fourW l), List.length_map] at h5
  exact (h0.cellAt _ h5).trans h4
 exact ⟨hx 0 _ rfl, hx 1 _ rfl, hx 2 _ rfl, hx 3 _ rfl⟩
def SnPost (l : List Stc) (w : World) (e : Ending) (w' : World) : Prop := ∃ v, e = .returned v ∧ (pxS v l).lies w' w.heap.size ∧ Below w.heap.size w w'
end Go.Proofs.YtflpikickbellaaGreat
namespace Go.Proofs.YtflpikickbellaaGreat
open Go.RowKit Go.Shelf
set_option maxRecDepth 100000
theorem own_more {w : World} {B B' : Nat} {o : Own} (h : o.lies w B') (hB : B ≤ B') : o.lies w B := World.ownsRow.mono h hB
def SnPost2 (l : List Stc) (w : World) (e : Ending) (w' : World) : Prop := ∃ v, e = .returned (.tuple #[v, .int .i64 0]) ∧ (pxS v l).lies w' w.heap.size ∧ Below w.heap.size w w'
set_option maxHeartbeats 1000000 in
theorem clone_own (A : Option Addr) (c : Nat) (l : List Stc) (hn : l.length ≤ 1000000) (w : World) (hs : SlT w w.heap.size A l) :
 Calls Tryz.prog 99 #[.slice A l.length c] w fun e w' => SnPost l w e w' := by
 obtain ⟨i0, hi, hz0, hz1, hz2⟩ := info_parts info_stc
 cases A with
 | none =>
   have hl : l = [] := by
    cases l with
    | nil => rfl
    | cons a t =>
      obtain ⟨b, off, e, _⟩ := hs (by simp)
      cases e
   subst hl
   have HO : Hid (SnPost [] w (.returned (.slice none 0 0)) w) := ⟨_, rfl, World.ownsRow_nil _ _ _ _, Below.refl _ _⟩
   clear hs
   rw [List.length_nil]
   have hq := eql_none 0 c
   go_enter Tryz.func99, Tryz.ntmps99
   go_wp2
   go_ret
   exact HO.out
 | some ad =>
   have hnews : ∀ j u, (l.map Stc.cells).flatten[j]? = some u → (w.alloc (.cells #[] 96)).cell? (ad.add j) = some u := by
    intro j u hu
    have hne : l.map Stc.cells ≠ [] := fun e => by rw [e] at hu; simp at hu
    obtain ⟨b, off, e, hB, _⟩ := hs hne
    cases e
    have h1 := SlS.flat (cells4 l) hs j u hu
    exact (World.cell?_alloc_lt w _ _ (by have e : ((⟨b, off, none⟩ : Addr).add j).block = b := by unfold Addr.add; split <;> rfl
                                          rw [e]; exact hB)).trans h1
   have HN := Lib.hid hnews
   have hlen : (l.map Stc.cells).flatten.length = l.length * 4 := by rw [flat_len (cells4 l), List.length_map]
   have HL := Lib.hid hlen
   clear hs hnews hlen
   have hq := eql_some ad l.length c
   go_enter Tryz.func99, Tryz.ntmps99
   go_wp2_with (at_builtin; refine wpList_append_own _ rfl _ _ 50 rfl w.heap.size 96 i0 (.agg #[.int .u8 0, .bool false, .int .i64 0, .int .i64 0]) 4 24 Tryz.underlying50 hi hz0 hz1 hz2 rfl (by decide) _ 0 [] rfl (World.ownsRow_lit w #[] 0 (Nat.le_refl _) (by decide) rfl) ad l.length c (l.map Stc.cells).flatten rfl HL.out HN.out (one4 l) (by unfold maxLen; omega) (by omega) (by simp) ?_; intro v' w1 hown' hgrow _; have HOw := Lib.hid hown'; have HG := Lib.hid hgrow; clear hown' hgrow)
   have ho := HOw.out
   rw [Nat.zero_add, List.nil_append] at ho
   obtain ⟨a2, c2, rfl, _⟩ := own_slice ho
   have hB : Below w.heap.size w w1 := ((Below.refl _ w).alloc (Nat.le_refl _) _).grown HG.out (by simp) (fun k e => by cases e; exact Nat.le_refl _)
   have HO := Lib.hid (show SnPost l w (.returned (.slice a2 l.length c2)) w1 from ⟨_, rfl, ho, hB⟩)
   clear ho hB HOw HG
   go_ret
   exact HO.out
set_option maxHeartbeats 2000000 in
theorem face_own (start : Int) (A : Option Addr) (c : Nat) (p : List RowC) (hw : RowsWf p) (he : chartE start p = 0) (k : Nat) (r : RowC) (hr : p[k]? = some r) (hnb : ∀ r ∈ p, r.1 = false) (w : World) (hs : SlC w w.heap.size A p) :
 Calls Tryz.prog 63 #[.agg #[.int .i64 start, .slice A p.length c], .int .i64 k] w fun e w' => SnPost2 (faceL r) w e w' := by
 have hz := chart_zero he
 have hkl : k < p.length := (List.getElem?_eq_some_iff.1 hr).1
 have hmem := List.mem_of_getElem? hr
 have hq := hnb r hmem
 clear hnb
 have har := err_rows hz.2.2 r hmem
 have hwr := hw r hmem
 have hpl := hz.1
 have hbw0 : Below w.heap.size w (w.alloc (.cells #[.int .i64 start, .slice A p.length c] 61)) := (Below.refl _ w).alloc (Nat.le_refl _) _
 have HCk := Lib.hid (ccheck_any start A c p hw _ ((hs.below hbw0).more hbw0.size))
 rw [he] at HCk
 obtain ⟨b, off, A', C', rfl, hB, hcr0, hcr1, hC, hsi⟩ := rows_at hs hr
 have hx0 := cell_new (w1 := w.alloc (.cells #[.int .i64 start, .slice (some ⟨b, off, none⟩) p.length c] 61)) (b := w.heap.size) (o := 0) rfl rfl rfl
 have hx1 := cell_new (w1 := w.alloc (.cells #[.int .i64 start, .slice (some ⟨b, off, none⟩) p.length c] 61)) (b := w.heap.size) (o := 1) rfl rfl rfl
 have HX := Lib.hid (fun (w1 : World) (hb : Below (w.heap.size + 1) (w.alloc (.cells #[.int .i64 start, .slice (some ⟨b, off, none⟩) p.length c] 61)) w1) => (show w1.cell? ⟨w.heap.size, 0, none⟩ = some (.int .i64 start) ∧ w1.cell? ⟨w.heap.size, 1, none⟩ = some (.slice (some ⟨b, off, none⟩) p.length c) ∧ w1.cell? ⟨b, off + k * 2, none⟩ = some (.bool r.1) ∧ w1.cell? ⟨b, off + k * 2 + 1, none⟩ = some (.slice A' r.2.length C') from
  ⟨(bcell hb (by omega) _).trans hx0, (bcell hb (by omega) _).trans hx1, (bcell (hbw0.trans (hb.mono (by omega))) hB _).trans hcr0, (bcell (hbw0.trans (hb.mono (by omega))) hB _).trans hcr1⟩))
 have HB0 := Lib.hid hbw0
 have HSi := Lib.hid hsi
 have HA := Lib.hid har
 have HWr := Lib.hid hwr
 clear hx0 hx1 hcr0 hcr1 hsi hs hw hz hbw0 he hr har hwr hmem
 have HF : Hid (faceL r = r.2) := by unfold Hid faceL; rw [hq]; rfl
 have HCl := Lib.hid (fun (w1 : World) (hb : Below w.heap.size w w1) => clone_own A' C' r.2 (by have := (all_zero HA.out).1; omega) w1 ((HSi.out.below hb).more hb.size))
 rw [hq] at HX
 clear hq
 go_enter Tryz.func63, Tryz.ntmps63
 go_wp2_with (first
  | (go_at_call 61; refine HCk.out.mono ?_; rintro e w1 ⟨rfl, hb1⟩
     obtain ⟨c0, c1, c2, c3⟩ := HX.out w1 (hb1.mono (by simp))
     have hbw1 := HB0.out.trans (hb1.mono (by simp)))
  | (go_at_call 99; refine (HCl.out _ hbw1).mono ?_; rintro e w2 ⟨v2, rfl, hT2, hb2⟩))
 go_ret2
 exact ⟨v2, rfl, by rw [HF.out]; exact own_more hT2 hbw1.size, hbw1.trans (hb2.mono hbw1.size)⟩
end Go.Proofs.YtflpikickbellaaGreat
namespace Go.Proofs.YtflpikickbellaaGreat
open Go.RowKit
set_option maxRecDepth 100000
theorem other_fact {s : Stc} (h : s.ok = true) : usesS (otherS s) = usesS s ∧ makesS (otherS s) = makesS s ∧ (otherS s).ok = true := by
 unfold Stc.ok at h
 simp only [Bool.and_eq_true, decide_eq_true_eq] at h
 obtain ⟨⟨k1, k2⟩, ⟨a1, a2⟩, ⟨b1, b2⟩, hp⟩ := h
 obtain ⟨kind, purl, a, b⟩ := s
 simp only at k1 k2 a1 a2 b1 b2 hp
 rcases (by omega : kind = 1 ∨ kind = 2 ∨ kind = 3 ∨ kind = 4 ∨ kind = 5 ∨ kind = 6 ∨ kind = 7 ∨ kind = 8 ∨ kind = 9 ∨ kind = 10) with rfl | rfl | rfl | rfl | rfl | rfl | rfl | rfl | rfl | rfl
 all_goals
  simp [formI, formT] at a1 a2 b1 b2
  simp [otherS, usesS, makesS, loopsI, Stc.ok, formI, formT]
  try omega
theorem turned_fact : ∀ {l : List Stc}, (∀ s ∈ l, s.ok = true) → (∀ s ∈ turnedL l, s.ok = true) ∧ (turnedL l).length = l.length ∧ sumU (turnedL l) = sumU l ∧ sumM (turnedL l) = sumM l
 | [], _ => by simp [turnedL]
 | x :: l, h => by
   obtain ⟨h1, h2, h3, h4⟩ := turned_fact fun s hs => h s (List.mem_cons_of_mem x hs)
   obtain ⟨g1, g2, g3⟩ := other_fact (h x List.mem_cons_self)
   have e : turnedL (x :: l) = turnedL l ++ [otherS x] := by simp [turnedL]
   rw [e]
   refine ⟨fun s hs => ?_, by simp [h2], ?_, ?_⟩
   · rcases List.mem_append.1 hs with hs | hs
     · exact h1 s hs
     · rw [List.mem_singleton.1 hs]; exact g3
   · unfold sumU at h3 ⊢
     rw [List.map_append, List.sum_append, h3]
     simp only [List.map_cons, List.map_nil, List.sum_cons, List.sum_nil]
     omega
   · unfold sumM at h4 ⊢
     rw [List.map_append, List.sum_append, h4]
     simp only [List.map_cons, List.map_nil, List.sum_cons, List.sum_nil]
     omega
theorem face_fact (r : RowC) (h : ∀ s ∈ r.2, s.ok = true) : (∀ s ∈ faceL r, s.ok = true) ∧ (faceL r).length = r.2.length ∧ sumU (faceL r) = sumU r.2 ∧ sumM (faceL r) = sumM r.2 := by
 unfold faceL
 split
 · exact turned_fact h
 · exact ⟨h, rfl, rfl, rfl⟩
theorem rowE_fact {n : Int} {r : List Stc} (h : rowE n r = 0) : (r.length ≤ 200 ∧ (∀ s ∈ r, s.ok = true) ∧ sumU r ≤ 200 ∧ sumM r ≤ 200) ∧ sumU r = n ∧ rowA n r = sumM r := by
 have h0 := h
 unfold rowE at h
 by_cases h1 : allE r = 0
 · rw [if_neg (by simpa using h1)] at h
   have h2 : usesE r = n := by
    by_cases h2 : usesE r = n
    · exact h2
    · rw [if_pos h2] at h; cases h
   unfold usesE at h2
   rw [if_pos h1] at h2
   refine ⟨all_zero h1, h2, ?_⟩
   unfold rowA makesE
   rw [if_pos h0, if_pos h1]
 · rw [if_pos h1] at h; exact absurd h h1
theorem err_at : ∀ {n : Int} {p : List RowC}, errR n p = 0 → (∀ (k : Nat) (r : RowC), p[k]? = some r → r.2.length ≤ 200 ∧ (∀ s ∈ r.2, s.ok = true) ∧ sumU r.2 ≤ 200 ∧ sumM r.2 ≤ 200) ∧ (∀ r : RowC, p[0]? = some r → sumU r.2 = n) ∧ ∀ (k : Nat) (r r' : RowC), p[k]? = some r → p[k + 1]? = some r' → sumU r'.2 = sumM r.2
 | _, [], _ => ⟨fun k r h => by simp at h, fun r h => by simp at h, fun k r r' h => by simp at h⟩
 | n, x :: t, h => by
   simp only [errR] at h
   by_cases h1 : rowE n x.2 = 0
   · rw [if_pos h1] at h
     obtain ⟨f1, f2, f3⟩ := rowE_fact h1
     rw [f3] at h
     obtain ⟨g1, g2, g3⟩ := err_at h
     refine ⟨fun k r hr => ?_, fun r hr => ?_, fun k r r' hr hr' => ?_⟩
     · cases k with
       | zero => simp at hr; subst hr; exact f1
       | succ k => rw [List.getElem?_cons_succ] at hr; exact g1 k r hr
     · simp at hr; subst hr; exact f2
     · cases k with
       | zero =>
         simp at hr; subst hr
         rw [List.getElem?_cons_succ] at hr'
         exact g2 r' hr'
       | succ k =>
         rw [List.getElem?_cons_succ] at hr hr'
         exact g3 k r r' hr hr'
   · rw [if_neg h1] at h; exact absurd h h1
theorem wk_chart {start : Int} {p : List RowC} (he : chartE start p = 0) (h12 : p.length ≤ 12) : WkOk start.toNat (p.map faceL) := by
 obtain ⟨-, hst, hr⟩ := chart_zero he
 obtain ⟨g1, g2, g3⟩ := err_at hr
 have hrow : ∀ (k : Nat) (l : List Stc), (p.map faceL)[k]? = some l → ∃ r, p[k]? = some r ∧ l = faceL r ∧ (∀ s ∈ l, s.ok = true) ∧ l.length ≤ 200 ∧ sumU l ≤ 200 ∧ sumM l ≤ 200 ∧ sumU l = sumU r.2 ∧ sumM l = sumM r.2 := fun k l hl => by
  rw [List.getElem?_map] at hl
  cases hp : p[k]? with
  | none => rw [hp] at hl; cases hl
  | some r =>
    rw [hp] at hl
    have e : faceL r = l := by simpa using hl
    subst e
    obtain ⟨q1, q2, q3, q4⟩ := g1 k r hp
    obtain ⟨f1, f2, f3, f4⟩ := face_fact r q2
    exact ⟨r, rfl, rfl, f1, by omega, by omega, by omega, f3, f4⟩
 have hinv : ∀ (k : Nat) (l : List Stc), (p.map faceL)[k]? = some l → ((workP start.toNat (p.map faceL) k).next : Int) + sumU l = (workP start.toNat (p.map faceL) k).lp.length := by
  intro k
  induction k with
  | zero =>
    intro l hl
    obtain ⟨r, hp, -, -, -, -, -, h1, -⟩ := hrow 0 l hl
    have := g2 r hp
    rw [show (workP start.toNat (p.map faceL) 0).lp.length = start.toNat from startP_len _, show (workP start.toNat (p.map faceL) 0).next = 0 from rfl]
    omega
  | succ k ih =>
    intro l hl
    have hk : k < (p.map faceL).length := by have := (List.getElem?_eq_some_iff.1 hl).1; omega
    have hx : (p.map faceL)[k]? = some ((p.map faceL)[k]) := List.getElem?_eq_getElem hk
    obtain ⟨r', hp', -, -, -, -, -, h1', -⟩ := hrow (k + 1) l hl
    obtain ⟨r, hp, -, o1, -, -, -, h1, h2⟩ := hrow k _ hx
    have h3 := g3 k r r' hp hp'
    have h4 := ih _ hx
    obtain ⟨l1, l2, -⟩ := rowRun_len (row := (k : Int) + 1) (fun s hs => stc_k (o1 s hs)) (workP start.toNat (p.map faceL) k) _ (Nat.le_refl _)
    rw [List.take_length] at l1 l2
    rw [workP_next hx]
    unfold endR
    simp only
    omega
 exact ⟨by omega, by rw [List.length_map]; exact h12, fun k l hl => by
  obtain ⟨r, -, -, o1, o2, o3, o4, -, -⟩ := hrow k l hl
  exact ⟨o1, o2, o3, o4, hinv k l hl⟩⟩
end Go.Proofs.YtflpikickbellaaGreat
namespace Go.Proofs.YtflpikickbellaaGreat
open Go.RowKit Go.Shelf Go.Sort
set_option maxRecDepth 100000
abbrev nilV : Value := .slice none 0 0
def chB (cb : Nat) (n : Nat) (A : Option Addr) (len c : Nat) : Own := bxT 61 cb [.int .i64 (n : Int), .slice A len c]
end Go.Proofs.YtflpikickbellaaGreat
