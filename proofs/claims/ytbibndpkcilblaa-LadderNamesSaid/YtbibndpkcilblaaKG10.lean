/- Layer 27, the program: work, of all kinds. Layer 26: charts in memory; the counts. -/
import Derived.Test.YtbibndpkcilblaaKG9
import Derived.Test.YtbibndpkcilblaaKG4
import Derived.Test.YtbibndpkcilblaaKG1
namespace Go.Proofs.Ytbibndpkcilblaa
open Go.RowKit Go.Shelf Go.Sort
set_option maxRecDepth 100000

set_option maxHeartbeats 4000000 in
theorem pwork6 (B pb : Nat) (t : Pw) (row k : Int) (s : Stc) (hs : s.ok = true) (hk : s.kind = 6) (X : List Own) (hat : t.next + (usesS s).toNat ≤ t.lp.length) (hl : t.lp.length ≤ 50000) (hcl : t.cross.length ≤ 50000) (w : World) (h : QcE B pb t X w) (hB : B ≤ w.heap.size) :
    Calls Try.prog 67 #[.pointer (some ⟨pb, 0, none⟩), .int .i64 row, .int .i64 k, s.val] w fun e w' => WoPost B pb (stepC row k s t) X w e w' := by
  have hK := stc_k hs
  obtain ⟨kind, purl, sa, sb⟩ := s
  obtain rfl : kind = 6 := hk
  have hal := al_t w (.cells #[.int .u8 6, .bool purl, .int .i64 sa, .int .i64 sb] 56)
  have HX : Hid (QcE B pb t (stB w.heap.size ⟨6, purl, sa, sb⟩ :: X) (w.alloc (.cells #[.int .u8 6, .bool purl, .int .i64 sa, .int .i64 sb] 56)) ∧ Below B w (w.alloc (.cells #[.int .u8 6, .bool purl, .int .i64 sa, .int .i64 sb] 56))) :=
    ⟨h.add hal hB (bxT_new w _ _), hal.mono hB⟩
  obtain ⟨cb, hcb⟩ : ∃ cb, cb = w.heap.size := ⟨_, rfl⟩
  rw [← hcb] at HX
  obtain ⟨U, hU⟩ : ∃ U : Nat, usesS ⟨6, purl, sa, sb⟩ = (U : Int) := ⟨(usesS ⟨6, purl, sa, sb⟩).toNat, by have := hK.nat; omega⟩
  have hU200 : U ≤ 200 := by have := hK.nat; omega
  have HUe := Lib.hid hU
  rw [hU, Int.toNat_natCast] at hat
  clear h hal
  show Calls Try.prog 67 #[_, _, _, .agg #[.int .u8 6, .bool purl, .int .i64 sa, .int .i64 sb]] w _
  go_enter Try.func67, Try.ntmps67
  go_upto_region 1 with fail
  refine abs_world (Q := fun W => Code.wp _ _ _ _ W) (F := fun W => QcE B pb t (stB cb ⟨6, purl, sa, sb⟩ :: X) W ∧ Below B w W) _ HX.out ?_
  clear HX
  rw [← hcb]
  clear hcb
  rintro W1 ⟨h1, hb1⟩
  obtain ⟨x0, x1, x2, x3⟩ := stB_at (h1.mem List.mem_cons_self)
  have hB1 : B ≤ W1.heap.size := Nat.le_trans hB hb1.size
  have hal1 := al_t W1 (.cells #[.int .u8 6, .bool purl, .int .i64 sa, .int .i64 sb] 56)
  obtain ⟨q1, q2⟩ := usesE_one hs
  have HC := uses_any (some ⟨W1.heap.size, 0, none⟩) 1 [⟨6, purl, sa, sb⟩] (fun x hx => by rw [List.mem_singleton.1 hx]; exact stc_wf hs) _ (lit_stc W1 ⟨6, purl, sa, sb⟩)
  rw [q1, q2, hU] at HC
  have HC1 := Lib.hid HC
  have HQ1 := Lib.hid (And.intro (h1.to hal1) (hb1.trans (hal1.mono hB1)))
  clear HC h1 hb1 hal1 q1 q2
  go_upto_region 2 with (go_at_call 78; refine HC1.out.mono ?_; rintro e w2 ⟨rfl, hb2⟩)
  refine abs_world (Q := fun W => Code.wp _ _ _ _ W) (F := fun W => QcE B pb t (stB cb ⟨6, purl, sa, sb⟩ :: X) W ∧ Below B w W) _ ⟨HQ1.out.1.to hb2, HQ1.out.2.trans (hb2.mono (Nat.le_trans hB HQ1.out.2.size))⟩ ?_
  clear HQ1 HC1 hb2 x0 x1 x2 x3 hB1
  rintro W2 ⟨h2, hb2⟩
  have HT := Lib.hid (ptake_any B pb t U (by omega) (by omega) _ W2 h2 (Nat.le_trans hB hb2.size))
  have HB2 := Lib.hid hb2
  clear h2 hb2
  go_upto_region 3 with (go_at_call 79; refine HT.out.mono ?_; rintro e w3 ⟨uv, rfl, h3, hb3⟩)
  have hb3' := HB2.out.trans hb3
  obtain ⟨ua, uc, rfl⟩ := pxJ_is (h3.mem List.mem_cons_self) (usedN_len _ _)
  obtain ⟨x0, x1, x2, x3⟩ := stB_at (h3.mem (List.mem_cons_of_mem _ List.mem_cons_self))
  obtain ⟨n1, n2⟩ := h3.box (Nat.le_trans hB hb3'.size) row k purl
  obtain ⟨lb, hlb⟩ : ∃ lb, lb = w3.heap.size := ⟨_, rfl⟩
  have HN := Lib.hid (And.intro n1 (hb3'.trans n2))
  rw [← hlb] at HN
  clear h3 hb3 hb3' n1 n2 HT HB2
  go_upto_region 4 with fail
  refine abs_world (Q := fun W => Code.wp _ _ _ _ W) (F := fun W => QcE B pb ⟨t.lp, t.bound, t.cross, t.rows, t.next + U⟩ (lpO lb row k (.slice none 0 0) purl :: pxJ (.slice ua U uc) (usedN t.next U) :: stB cb ⟨6, purl, sa, sb⟩ :: X) W ∧ Below B w W) _ HN.out ?_
  clear HN x0 x1 x2 x3
  rw [← hlb]
  clear hlb
  rintro W4 ⟨h4, hb4⟩
  obtain ⟨a1, a2, b1, b2⟩ := hK.cable (by simp)
  simp only at a1 a2 b1 b2
  obtain ⟨a, rfl⟩ : ∃ n : Nat, sa = (n : Int) := ⟨sa.toNat, by omega⟩
  obtain ⟨b, rfl⟩ : ∃ n : Nat, sb = (n : Int) := ⟨sb.toNat, by omega⟩
  have hU2 : U = a + b := by have h1 := HUe.out; rw [hK.uses] at h1; simp at h1; omega
  have HSt : Hid (stepC row k ⟨6, purl, (a : Int), (b : Int)⟩ t = ⟨t.lp ++ addL row k purl (cabP (usedN t.next U) a), t.bound, t.cross ++ crossN ⟨6, purl, (a : Int), (b : Int)⟩ t.lp.length a, t.rows, t.next + U⟩) := by
    show _ = _
    unfold stepC newsL boundL crossL
    rw [HUe.out, Int.toNat_natCast]
    simp [addL, cabP]
    rfl
  have hB4 : B ≤ W4.heap.size := Nat.le_trans hB hb4.size
  obtain ⟨x0, x1, x2, x3⟩ := stB_at (h4.mem (List.mem_cons_of_mem _ (List.mem_cons_of_mem _ List.mem_cons_self)))
  obtain ⟨b1', -⟩ := bxT_at (h4.mem List.mem_cons_self)
  have y0 := b1' 0 _ rfl
  have y1 := b1' 1 _ rfl
  have y2 := b1' 2 _ rfl
  have y3 := b1' 3 _ rfl
  have HA := Lib.hid (pcable6 B pb ⟨t.lp, t.bound, t.cross, t.rows, t.next + U⟩ row k a b U (by omega) (by omega) hU2 purl ua uc (usedN t.next U) (usedN_len _ _) _ hl hcl _ (h4.perm (List.Perm.swap _ _ _)) hB4)
  have HB4 := Lib.hid hb4
  clear h4 b1' hb4 hU2 hB4
  go_wp2_with (go_at_call 83; refine HA.out.mono ?_; rintro e w5 ⟨rfl, h5, hb5⟩)
  refine bodyPost_end (results_none rfl _ _ _) rfl ?_
  rw [HSt.out]
  exact ⟨rfl, h5.lift ((List.sublist_cons_self _ _).trans ((List.sublist_cons_self _ _).trans (List.sublist_cons_self _ _))), HB4.out.trans hb5⟩
set_option maxHeartbeats 4000000 in
theorem pwork7 (B pb : Nat) (t : Pw) (row k : Int) (s : Stc) (hs : s.ok = true) (hk : s.kind = 7) (X : List Own) (hat : t.next + (usesS s).toNat ≤ t.lp.length) (hl : t.lp.length ≤ 50000) (hcl : t.cross.length ≤ 50000) (w : World) (h : QcE B pb t X w) (hB : B ≤ w.heap.size) :
    Calls Try.prog 67 #[.pointer (some ⟨pb, 0, none⟩), .int .i64 row, .int .i64 k, s.val] w fun e w' => WoPost B pb (stepC row k s t) X w e w' := by
  have hK := stc_k hs
  obtain ⟨kind, purl, sa, sb⟩ := s
  obtain rfl : kind = 7 := hk
  have hal := al_t w (.cells #[.int .u8 7, .bool purl, .int .i64 sa, .int .i64 sb] 56)
  have HX : Hid (QcE B pb t (stB w.heap.size ⟨7, purl, sa, sb⟩ :: X) (w.alloc (.cells #[.int .u8 7, .bool purl, .int .i64 sa, .int .i64 sb] 56)) ∧ Below B w (w.alloc (.cells #[.int .u8 7, .bool purl, .int .i64 sa, .int .i64 sb] 56))) :=
    ⟨h.add hal hB (bxT_new w _ _), hal.mono hB⟩
  obtain ⟨cb, hcb⟩ : ∃ cb, cb = w.heap.size := ⟨_, rfl⟩
  rw [← hcb] at HX
  obtain ⟨U, hU⟩ : ∃ U : Nat, usesS ⟨7, purl, sa, sb⟩ = (U : Int) := ⟨(usesS ⟨7, purl, sa, sb⟩).toNat, by have := hK.nat; omega⟩
  have hU200 : U ≤ 200 := by have := hK.nat; omega
  have HUe := Lib.hid hU
  rw [hU, Int.toNat_natCast] at hat
  clear h hal
  show Calls Try.prog 67 #[_, _, _, .agg #[.int .u8 7, .bool purl, .int .i64 sa, .int .i64 sb]] w _
  go_enter Try.func67, Try.ntmps67
  go_upto_region 1 with fail
  refine abs_world (Q := fun W => Code.wp _ _ _ _ W) (F := fun W => QcE B pb t (stB cb ⟨7, purl, sa, sb⟩ :: X) W ∧ Below B w W) _ HX.out ?_
  clear HX
  rw [← hcb]
  clear hcb
  rintro W1 ⟨h1, hb1⟩
  obtain ⟨x0, x1, x2, x3⟩ := stB_at (h1.mem List.mem_cons_self)
  have hB1 : B ≤ W1.heap.size := Nat.le_trans hB hb1.size
  have hal1 := al_t W1 (.cells #[.int .u8 7, .bool purl, .int .i64 sa, .int .i64 sb] 56)
  obtain ⟨q1, q2⟩ := usesE_one hs
  have HC := uses_any (some ⟨W1.heap.size, 0, none⟩) 1 [⟨7, purl, sa, sb⟩] (fun x hx => by rw [List.mem_singleton.1 hx]; exact stc_wf hs) _ (lit_stc W1 ⟨7, purl, sa, sb⟩)
  rw [q1, q2, hU] at HC
  have HC1 := Lib.hid HC
  have HQ1 := Lib.hid (And.intro (h1.to hal1) (hb1.trans (hal1.mono hB1)))
  clear HC h1 hb1 hal1 q1 q2
  go_upto_region 2 with (go_at_call 78; refine HC1.out.mono ?_; rintro e w2 ⟨rfl, hb2⟩)
  refine abs_world (Q := fun W => Code.wp _ _ _ _ W) (F := fun W => QcE B pb t (stB cb ⟨7, purl, sa, sb⟩ :: X) W ∧ Below B w W) _ ⟨HQ1.out.1.to hb2, HQ1.out.2.trans (hb2.mono (Nat.le_trans hB HQ1.out.2.size))⟩ ?_
  clear HQ1 HC1 hb2 x0 x1 x2 x3 hB1
  rintro W2 ⟨h2, hb2⟩
  have HT := Lib.hid (ptake_any B pb t U (by omega) (by omega) _ W2 h2 (Nat.le_trans hB hb2.size))
  have HB2 := Lib.hid hb2
  clear h2 hb2
  go_upto_region 3 with (go_at_call 79; refine HT.out.mono ?_; rintro e w3 ⟨uv, rfl, h3, hb3⟩)
  have hb3' := HB2.out.trans hb3
  obtain ⟨ua, uc, rfl⟩ := pxJ_is (h3.mem List.mem_cons_self) (usedN_len _ _)
  obtain ⟨x0, x1, x2, x3⟩ := stB_at (h3.mem (List.mem_cons_of_mem _ List.mem_cons_self))
  obtain ⟨n1, n2⟩ := h3.box (Nat.le_trans hB hb3'.size) row k purl
  obtain ⟨lb, hlb⟩ : ∃ lb, lb = w3.heap.size := ⟨_, rfl⟩
  have HN := Lib.hid (And.intro n1 (hb3'.trans n2))
  rw [← hlb] at HN
  clear h3 hb3 hb3' n1 n2 HT HB2
  go_upto_region 4 with fail
  refine abs_world (Q := fun W => Code.wp _ _ _ _ W) (F := fun W => QcE B pb ⟨t.lp, t.bound, t.cross, t.rows, t.next + U⟩ (lpO lb row k (.slice none 0 0) purl :: pxJ (.slice ua U uc) (usedN t.next U) :: stB cb ⟨7, purl, sa, sb⟩ :: X) W ∧ Below B w W) _ HN.out ?_
  clear HN x0 x1 x2 x3
  rw [← hlb]
  clear hlb
  rintro W4 ⟨h4, hb4⟩
  obtain ⟨a1, a2, b1, b2⟩ := hK.cable (by simp)
  simp only at a1 a2 b1 b2
  obtain ⟨a, rfl⟩ : ∃ n : Nat, sa = (n : Int) := ⟨sa.toNat, by omega⟩
  obtain ⟨b, rfl⟩ : ∃ n : Nat, sb = (n : Int) := ⟨sb.toNat, by omega⟩
  have hU2 : U = a + b := by have h1 := HUe.out; rw [hK.uses] at h1; simp at h1; omega
  have HSt : Hid (stepC row k ⟨7, purl, (a : Int), (b : Int)⟩ t = ⟨t.lp ++ addL row k purl (cabP (usedN t.next U) a), t.bound, t.cross ++ crossN ⟨7, purl, (a : Int), (b : Int)⟩ t.lp.length a, t.rows, t.next + U⟩) := by
    show _ = _
    unfold stepC newsL boundL crossL
    rw [HUe.out, Int.toNat_natCast]
    simp [addL, cabP]
    rfl
  have hB4 : B ≤ W4.heap.size := Nat.le_trans hB hb4.size
  obtain ⟨x0, x1, x2, x3⟩ := stB_at (h4.mem (List.mem_cons_of_mem _ (List.mem_cons_of_mem _ List.mem_cons_self)))
  obtain ⟨b1', -⟩ := bxT_at (h4.mem List.mem_cons_self)
  have y0 := b1' 0 _ rfl
  have y1 := b1' 1 _ rfl
  have y2 := b1' 2 _ rfl
  have y3 := b1' 3 _ rfl
  have HA := Lib.hid (pcable7 B pb ⟨t.lp, t.bound, t.cross, t.rows, t.next + U⟩ row k a b U (by omega) (by omega) hU2 purl ua uc (usedN t.next U) (usedN_len _ _) _ hl hcl _ (h4.perm (List.Perm.swap _ _ _)) hB4)
  have HB4 := Lib.hid hb4
  clear h4 b1' hb4 hU2 hB4
  go_wp2_with (go_at_call 83; refine HA.out.mono ?_; rintro e w5 ⟨rfl, h5, hb5⟩)
  refine bodyPost_end (results_none rfl _ _ _) rfl ?_
  rw [HSt.out]
  exact ⟨rfl, h5.lift ((List.sublist_cons_self _ _).trans ((List.sublist_cons_self _ _).trans (List.sublist_cons_self _ _))), HB4.out.trans hb5⟩
theorem pwork_any (B pb : Nat) (t : Pw) (row k : Int) (s : Stc) (hs : s.ok = true) (X : List Own) (hat : t.next + (usesS s).toNat ≤ t.lp.length) (hl : t.lp.length ≤ 50000) (hbl : t.bound.length ≤ 50000) (hcl : t.cross.length ≤ 50000) (w : World) (h : QcE B pb t X w) (hB : B ≤ w.heap.size) :
    Calls Try.prog 67 #[.pointer (some ⟨pb, 0, none⟩), .int .i64 row, .int .i64 k, s.val] w fun e w' => WoPost B pb (stepC row k s t) X w e w' := by
  have hK := stc_k hs
  have h1 := hK.lo
  have h2 := hK.hi
  rcases (by omega : s.kind = 1 ∨ s.kind = 2 ∨ s.kind = 3 ∨ s.kind = 4 ∨ s.kind = 5 ∨ s.kind = 6 ∨ s.kind = 7 ∨ s.kind = 8 ∨ s.kind = 9 ∨ s.kind = 10) with hk | hk | hk | hk | hk | hk | hk | hk | hk | hk
  · exact pwork1 B pb t row k s hs hk X hat hl w h hB
  · exact pwork2 B pb t row k s hs hk X hat hl w h hB
  · exact pwork3 B pb t row k s hs hk X hat hl w h hB
  · exact pwork4 B pb t row k s hs hk X hat hl w h hB
  · exact pwork5 B pb t row k s hs hk X hat hl w h hB
  · exact pwork6 B pb t row k s hs hk X hat hl hcl w h hB
  · exact pwork7 B pb t row k s hs hk X hat hl hcl w h hB
  · exact pwork8 B pb t row k s hs hk X hat hl w h hB
  · exact pwork9 B pb t row k s hs hk X hat hl w h hB
  · exact pwork10 B pb t row k s hs hk X hat hl hbl w h hB
end Go.Proofs.Ytbibndpkcilblaa
namespace Go.Proofs.Ytbibndpkcilblaa
open Go.RowKit Go.Shelf
set_option maxRecDepth 100000

/-- A row: whether it is seen from the back, its cells. -/
abbrev RowC := Bool × List Stc
/-- The slice value '.slice A p.length c' holds rows, below block B. -/
def SlC (w : World) (B : Nat) (A : Option Addr) (p : List RowC) : Prop :=
  p ≠ [] → ∃ b off, A = some ⟨b, off, none⟩ ∧ b < B ∧ ∀ j r, p[j]? = some r → ∃ A' C', w.cell? ⟨b, off + j * 2, none⟩ = some (.bool r.1) ∧ w.cell? ⟨b, off + j * 2 + 1, none⟩ = some (.slice A' r.2.length C') ∧ r.2.length ≤ C' ∧ SlT w B A' r.2
theorem SlC.below {w w' : World} {B : Nat} {A : Option Addr} {p : List RowC} (h : SlC w B A p) (hb : Below B w w') : SlC w' B A p := fun hn => by
  obtain ⟨b, off, e, hB, hc⟩ := h hn
  refine ⟨b, off, e, hB, fun j r hr => ?_⟩
  obtain ⟨A', C', h0, h1, h2, h3⟩ := hc j r hr
  exact ⟨A', C', (bcell hb hB _).trans h0, (bcell hb hB _).trans h1, h2, h3.below hb⟩
theorem SlC.more {w : World} {B B' : Nat} {A : Option Addr} {p : List RowC} (h : SlC w B A p) (hB' : B ≤ B') : SlC w B' A p := fun hn => by
  obtain ⟨b, off, e, hB, hc⟩ := h hn
  refine ⟨b, off, e, by omega, fun j r hr => ?_⟩
  obtain ⟨A', C', h0, h1, h2, h3⟩ := hc j r hr
  exact ⟨A', C', h0, h1, h2, h3.more hB'⟩
theorem SlC.at_ {w : World} {B : Nat} {A : Option Addr} {p : List RowC} (h : SlC w B A p) {k : Nat} (hk : k < p.length) :
    ∃ b off r A' C', A = some ⟨b, off, none⟩ ∧ b < B ∧ p[k]? = some r ∧ w.cell? ⟨b, off + k * 2, none⟩ = some (.bool r.1) ∧ w.cell? ⟨b, off + k * 2 + 1, none⟩ = some (.slice A' r.2.length C') ∧ r.2.length ≤ C' ∧ SlT w B A' r.2 := by
  obtain ⟨b, off, e, hB, hc⟩ := h (fun e => by subst e; simp at hk)
  obtain ⟨A', C', h0, h1, h2, h3⟩ := hc k _ (List.getElem?_eq_getElem hk)
  exact ⟨b, off, p[k], A', C', e, hB, List.getElem?_eq_getElem hk, h0, h1, h2, h3⟩
theorem KC.slS {sz B0 : Nat} {A B : World} (h : KC B0 A B) {n : Nat} (hn : n ≤ B0) {a : Option Addr} {zs : List (List Value)} (hs : SlS sz A n a zs) : SlS sz B n a zs := fun hz => by
  obtain ⟨b, off, e, hB, hc⟩ := hs hz
  exact ⟨b, off, e, hB, fun j cs hj i v hv => h.cell (by omega) (hc j cs hj i v hv)⟩
theorem KC.slC {B0 : Nat} {A B : World} (h : KC B0 A B) {n : Nat} (hn : n ≤ B0) {a : Option Addr} {p : List RowC} (hs : SlC A n a p) : SlC B n a p := fun hz => by
  obtain ⟨b, off, e, hB, hc⟩ := hs hz
  refine ⟨b, off, e, hB, fun j r hj => ?_⟩
  obtain ⟨A', C', h0, h1, h2, h3⟩ := hc j r hj
  exact ⟨A', C', h.cell (by omega) h0, h.cell (by omega) h1, h2, KC.slS h hn h3⟩
def RowsWf (p : List RowC) : Prop := ∀ r ∈ p, ∀ s ∈ r.2, s.wf

/-! ### the counts -/
structure Cnt where
  i : Int
  before : Int
  after : Int
  e : Int
def rowE (n : Int) (r : List Stc) : Int := if allE r ≠ 0 then allE r else if usesE r ≠ n then 26 else 0
def rowA (n : Int) (r : List Stc) : Int := if rowE n r = 0 then makesE r else 0
def itemsF : Nat → Int → List RowC → List Cnt
  | _, _, [] => []
  | i, n, r :: t => ⟨i, n, rowA n r.2, rowE n r.2⟩ :: if rowE n r.2 = 0 then itemsF (i + 1) (rowA n r.2) t else []
def errR : Int → List RowC → Int
  | _, [] => 0
  | n, r :: t => if rowE n r.2 = 0 then errR (rowA n r.2) t else rowE n r.2
def chartE (start : Int) (p : List RowC) : Int := if 100 < p.length then 4 else if start < 0 ∨ 200 < start then 8 else errR start p
def encC (x : Cnt) : Array Value := #[.int .i64 x.i, .agg #[.int .i64 x.before, .int .i64 x.after, .int .i64 x.e]]

theorem counted_any (start : Int) (A : Option Addr) (n c : Nat) (w : World) :
    Calls Try.prog 75 #[.agg #[.int .i64 start, .slice A n c]] w fun e w' => e = .returned (.func (.func 95) #[] #[.pointer (some ⟨w.heap.size, 0, none⟩)]) ∧ w.alloc (.cells #[.int .i64 start, .slice A n c] 24) = w' := by
  have hmf : ∀ (fn : Fn) (first cap : Array Value) (w : World), (Instr.makeFunc fn first cap).run Try.prog w = .ok (.func fn first cap) w := fun _ _ _ _ => rfl
  go_enter Try.func75, Try.ntmps75
  go_wp2
  go_ret
  exact ⟨rfl, rfl⟩
end Go.Proofs.Ytbibndpkcilblaa
