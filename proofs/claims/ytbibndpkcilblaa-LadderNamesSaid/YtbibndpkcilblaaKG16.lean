/- Layers 27, 28: the loops of a piece, read. Layer 27, the program: Of, Bound, Row. Layer 28, plain: the kids of all loops, loop by loop, parent by parent. -/
import Derived.Test.YtbibndpkcilblaaKG6
import Derived.Test.YtbibndpkcilblaaKG15
import Derived.Test.YtbibndpkcilblaaKG8
import Derived.Deep.QuietTactic
import Derived.BigQuiet
namespace Go.Proofs.Ytbibndpkcilblaa
open Go.RowKit Go.Shelf
set_option maxRecDepth 100000

/-- A slice of loops: the cells of each, its parents. -/
def SlL (w : World) (B : Nat) (A : Option Addr) (L : List Lp) : Prop := L ≠ [] → ∃ b off, A = some ⟨b, off, none⟩ ∧ b < B ∧ ∀ (j : Nat) (l : Lp), L[j]? = some l → ∃ (A' : Option Addr) (C' : Nat), w.cell? ⟨b, off + j * 4, none⟩ = some (.int .i64 l.row) ∧ w.cell? ⟨b, off + j * 4 + 1, none⟩ = some (.int .i64 l.cell) ∧ w.cell? ⟨b, off + j * 4 + 2, none⟩ = some (.slice A' l.par.length C') ∧ w.cell? ⟨b, off + j * 4 + 3, none⟩ = some (.bool l.purl) ∧ SlI w B A' l.par
theorem SlL.below {w w' : World} {B : Nat} {A : Option Addr} {L : List Lp} (h : SlL w B A L) (hb : Below B w w') : SlL w' B A L := fun hn => by
  obtain ⟨b, off, e, hB, hc⟩ := h hn
  refine ⟨b, off, e, hB, fun j l hl => ?_⟩
  obtain ⟨A', C', h0, h1, h2, h3, h4⟩ := hc j l hl
  exact ⟨A', C', (bcell hb hB _).trans h0, (bcell hb hB _).trans h1, (bcell hb hB _).trans h2, (bcell hb hB _).trans h3, h4.below hb⟩
theorem SlL.more {w : World} {B B' : Nat} {A : Option Addr} {L : List Lp} (h : SlL w B A L) (hB' : B ≤ B') : SlL w B' A L := fun hn => by
  obtain ⟨b, off, e, hB, hc⟩ := h hn
  refine ⟨b, off, e, Nat.lt_of_lt_of_le hB hB', fun j l hl => ?_⟩
  obtain ⟨A', C', h0, h1, h2, h3, h4⟩ := hc j l hl
  exact ⟨A', C', h0, h1, h2, h3, h4.more hB'⟩
theorem SlL.nil {w : World} {B : Nat} {A : Option Addr} : SlL w B A [] := fun h => absurd rfl h
theorem SlL.at_ {w : World} {B : Nat} {A : Option Addr} {L : List Lp} (h : SlL w B A L) {j : Nat} (hj : j < L.length) :
    ∃ b off l A' C', A = some ⟨b, off, none⟩ ∧ b < B ∧ L[j]? = some l ∧ w.cell? ⟨b, off + j * 4, none⟩ = some (.int .i64 l.row) ∧ w.cell? ⟨b, off + j * 4 + 1, none⟩ = some (.int .i64 l.cell) ∧ w.cell? ⟨b, off + j * 4 + 2, none⟩ = some (.slice A' l.par.length C') ∧ w.cell? ⟨b, off + j * 4 + 3, none⟩ = some (.bool l.purl) ∧ SlI w B A' l.par := by
  obtain ⟨b, off, e, hB, hc⟩ := h (fun e => by subst e; simp at hj)
  have hl : L[j]? = some L[j] := List.getElem?_eq_getElem hj
  obtain ⟨A', C', h0, h1, h2, h3, h4⟩ := hc j _ hl
  exact ⟨b, off, _, A', C', e, hB, hl, h0, h1, h2, h3, h4⟩
/-- Loops that a call owns, and their parents: read. -/
theorem slL_of {w : World} {B n c : Nat} {a : Option Addr} {L : List Lp} {vs : List Value} {R : List Own} (h : Owns w B (pxL (.slice a n c) L vs :: R)) (hn : n = L.length) (hv : vs.length = L.length) (hp : ∀ o ∈ parO L vs, o.lies w B) : SlL w w.heap.size a L := fun hne => by
  subst hn
  cases L with
  | nil => exact absurd rfl hne
  | cons l0 L0 =>
    obtain ⟨g, c', u, e, -, -⟩ := pxL_at h hv (j := 0) rfl
    cases e
    refine ⟨g, 0, rfl, ?_, fun j l hl => ?_⟩
    · obtain ⟨g2, c2, u2, e2, -, k0, -⟩ := pxL_at h hv (j := 0) rfl
      cases e2
      exact lt_of_cell k0
    · obtain ⟨g2, c2, u2, e2, hu, k0, k1, k2, k3⟩ := pxL_at h hv hl
      cases e2
      have hx := hp _ (parO_at hl hu)
      obtain ⟨A', C', rfl⟩ := pxJ_is hx rfl
      simp only [Nat.zero_add]
      exact ⟨A', C', k0, k1, k2, k3, pxJ_lies hx⟩
end Go.Proofs.Ytbibndpkcilblaa
namespace Go.Proofs.Ytbibndpkcilblaa
open Go.RowKit Go.Shelf Go.Sort
set_option maxRecDepth 100000

/-- What a chart is worked to; a chart with an error, to nothing. -/
def workX (start : Int) (p : List RowC) : Pw := if chartE start p = 0 then workP start.toNat (p.map faceL) p.length else ⟨[], [], [], [], 0⟩
theorem workX_ok {start : Int} {p : List RowC} (h : chartE start p = 0) : workX start p = workP start.toNat (p.map faceL) p.length := by unfold workX; rw [if_pos h]
theorem workX_err {start : Int} {p : List RowC} (h : chartE start p ≠ 0) : workX start p = ⟨[], [], [], [], 0⟩ := by unfold workX; rw [if_neg h]
def OfX (x : Int) (t : Pw) (w : World) (e : Ending) (w' : World) : Prop := ∃ vL vB vC vR vs, e = .returned (.tuple #[.agg #[vL, vR, vB, vC, .int .i64 (t.next : Int)], .int .i64 x]) ∧ vs.length = t.lp.length ∧ Owns w' w.heap.size (pxL vL t.lp vs :: pxJ vB t.bound :: pxP vC t.cross :: pxJ vR t.rows :: parO t.lp vs) ∧ Below w.heap.size w w'
theorem pof_x (start : Int) (A : Option Addr) (c : Nat) (p : List RowC) (hw : RowsWf p) (h12 : chartE start p = 0 → p.length ≤ 12) (w : World) (hs : SlC w w.heap.size A p) :
    Calls Try.prog 47 #[.agg #[.int .i64 start, .slice A p.length c]] w fun e w' => OfX (chartE start p) (workX start p) w e w' := by
  by_cases he : chartE start p = 0
  · have h := pof_ok start A c p hw he (h12 he) w hs
    refine h.mono ?_
    rintro e w' h
    rw [workX_ok he, he]
    exact h
  · refine (pof_err start A c p hw he w hs).mono ?_
    rintro e w' ⟨rfl, hb⟩
    rw [workX_err he]
    exact ⟨nilV, nilV, nilV, nilV, [], rfl, rfl, (((Owns.nil.none 3 1).none 101 2).none 3 1).none 47 4, hb⟩
theorem Owns.more {w : World} {B B' : Nat} {L : List Own} (h : Owns w B' L) (hB : B ≤ B') : Owns w B L := ⟨fun o ho => own_more (h.all o ho) hB, h.apart⟩
/-- The front of a function that works a chart: its box, the call. -/
structure OfF (start : Int) (A : Option Addr) (c : Nat) (p : List RowC) (cb : Nat) (w W : World) : Prop where
  cb0 : W.cell? ⟨cb, 0, none⟩ = some (.int .i64 start)
  cb1 : W.cell? ⟨cb, 1, none⟩ = some (.slice A p.length c)
  call : Calls Try.prog 47 #[.agg #[.int .i64 start, .slice A p.length c]] W fun e w' => OfX (chartE start p) (workX start p) W e w'
  bel : Below w.heap.size w W
theorem of_front (start : Int) (A : Option Addr) (c : Nat) (p : List RowC) (hw : RowsWf p) (h12 : chartE start p = 0 → p.length ≤ 12) (w : World) (hs : SlC w w.heap.size A p) : OfF start A c p w.heap.size w (w.alloc (.cells #[.int .i64 start, .slice A p.length c] 24)) := by
  have hb := al_t w (.cells #[.int .i64 start, .slice A p.length c] 24)
  obtain ⟨g1, -⟩ := bxT_at (bxT_new w 24 [.int .i64 start, .slice A p.length c])
  exact ⟨g1 0 _ rfl, g1 1 _ rfl, pof_x start A c p hw h12 _ ((hs.below hb).more hb.size), hb⟩
/-- Behind the call: the piece lies in a box. -/
structure OfB (t : Pw) (qb : Nat) (vL vB vC vR : Value) (vs : List Value) (w W : World) : Prop where
  vl : vs.length = t.lp.length
  own : Owns W w.heap.size (pxL vL t.lp vs :: pxJ vB t.bound :: pxP vC t.cross :: pxJ vR t.rows :: parO t.lp vs)
  cells : W.cell? ⟨qb, 0, none⟩ = some vL ∧ W.cell? ⟨qb, 1, none⟩ = some vR ∧ W.cell? ⟨qb, 2, none⟩ = some vB ∧ W.cell? ⟨qb, 3, none⟩ = some vC
  bel : Below w.heap.size w W
theorem OfF.behind {start : Int} {A : Option Addr} {c cb : Nat} {p : List RowC} {w W W' : World} {t : Pw} {vL vB vC vR : Value} {vs : List Value} (h : OfF start A c p cb w W) (hv : vs.length = t.lp.length) (ho : Owns W' W.heap.size (pxL vL t.lp vs :: pxJ vB t.bound :: pxP vC t.cross :: pxJ vR t.rows :: parO t.lp vs)) (hb : Below W.heap.size W W') :
    OfB t W'.heap.size vL vB vC vR vs w (W'.alloc (.cells #[vL, vR, vB, vC, .int .i64 (t.next : Int)] 87)) := by
  have hal := al_t W' (.cells #[vL, vR, vB, vC, .int .i64 (t.next : Int)] 87)
  obtain ⟨g1, -⟩ := bxT_at (bxT_new W' 87 [vL, vR, vB, vC, .int .i64 (t.next : Int)])
  exact ⟨hv, (ho.to hal).more h.bel.size, ⟨g1 0 _ rfl, g1 1 _ rfl, g1 2 _ rfl, g1 3 _ rfl⟩, h.bel.trans ((hb.trans (hal.mono hb.size)).mono h.bel.size)⟩
theorem OfF.chart {start : Int} {A : Option Addr} {c cb : Nat} {p : List RowC} {w W W' : World} (h : OfF start A c p cb w W) (hb : Below W.heap.size W W') (o : Obj) : (W'.alloc o).cell? ⟨cb, 1, none⟩ = some (.slice A p.length c) := cell_al ((bcell hb (lt_of_cell h.cb1) _).trans h.cb1) o
/-- What Of hands back. -/
def LoPost (x : Int) (L : List Lp) (w : World) (e : Ending) (w' : World) : Prop := ∃ vL vs, e = .returned (.tuple #[vL, .int .i64 x]) ∧ vs.length = L.length ∧ Owns w' w.heap.size (pxL vL L vs :: parO L vs) ∧ Below w.heap.size w w'
def BoPost (x : Int) (l : List Int) (w : World) (e : Ending) (w' : World) : Prop := ∃ v, e = .returned (.tuple #[v, .int .i64 x]) ∧ (pxJ v l).lies w' w.heap.size ∧ Below w.heap.size w w'
set_option maxHeartbeats 2000000 in
theorem Of_any (start : Int) (A : Option Addr) (c : Nat) (p : List RowC) (hw : RowsWf p) (h12 : chartE start p = 0 → p.length ≤ 12) (w : World) (hs : SlC w w.heap.size A p) :
    Calls Try.prog 21 #[.agg #[.int .i64 start, .slice A p.length c]] w fun e w' => LoPost (chartE start p) (workX start p).lp w e w' := by
  have hF := of_front start A c p hw h12 w hs
  obtain ⟨t, ht⟩ : ∃ t, t = workX start p := ⟨_, rfl⟩
  obtain ⟨x, hx⟩ : ∃ x, x = chartE start p := ⟨_, rfl⟩
  have c0 := hF.cb0
  have c1 := hF.cb1
  have HC := Lib.hid hF.call
  rw [← ht, ← hx] at HC
  rw [← ht, ← hx]
  have HF := Lib.hid hF
  clear hF hs hw ht hx
  go_enter Try.func21, Try.ntmps21
  go_upto_region 2 with (go_at_call 47; refine HC.out.mono ?_; rintro e w2 ⟨vL, vB, vC, vR, vs, rfl, hv, ho, hb⟩; obtain ⟨va, wa, rfl⟩ := pxL_form ho; obtain ⟨vb, wb, rfl⟩ := pxJ_form ho.tail; obtain ⟨vc, wc, rfl⟩ := pxP_form ho.tail.tail; obtain ⟨vd, wd, rfl⟩ := pxJ_form ho.tail.tail.tail; have HB := Lib.hid (HF.out.behind hv ho hb); clear hv ho hb)
  obtain ⟨d0, d1, d2, d3⟩ := HB.out.cells
  go_wp2
  go_ret2
  exact ⟨_, vs, rfl, HB.out.vl, HB.out.own.sub (List.Sublist.cons_cons _ ((List.sublist_cons_self _ _).trans ((List.sublist_cons_self _ _).trans (List.sublist_cons_self _ _)))), HB.out.bel⟩
set_option maxHeartbeats 2000000 in
theorem Bound_any (start : Int) (A : Option Addr) (c : Nat) (p : List RowC) (hw : RowsWf p) (h12 : chartE start p = 0 → p.length ≤ 12) (w : World) (hs : SlC w w.heap.size A p) :
    Calls Try.prog 53 #[.agg #[.int .i64 start, .slice A p.length c]] w fun e w' => BoPost (chartE start p) (workX start p).bound w e w' := by
  have hF := of_front start A c p hw h12 w hs
  obtain ⟨t, ht⟩ : ∃ t, t = workX start p := ⟨_, rfl⟩
  obtain ⟨x, hx⟩ : ∃ x, x = chartE start p := ⟨_, rfl⟩
  have c0 := hF.cb0
  have c1 := hF.cb1
  have HC := Lib.hid hF.call
  rw [← ht, ← hx] at HC
  rw [← ht, ← hx]
  have HF := Lib.hid hF
  clear hF hs hw ht hx
  go_enter Try.func53, Try.ntmps53
  go_upto_region 2 with (go_at_call 47; refine HC.out.mono ?_; rintro e w2 ⟨vL, vB, vC, vR, vs, rfl, hv, ho, hb⟩; obtain ⟨va, wa, rfl⟩ := pxL_form ho; obtain ⟨vb, wb, rfl⟩ := pxJ_form ho.tail; obtain ⟨vc, wc, rfl⟩ := pxP_form ho.tail.tail; obtain ⟨vd, wd, rfl⟩ := pxJ_form ho.tail.tail.tail; have HB := Lib.hid (HF.out.behind hv ho hb); clear hv ho hb)
  obtain ⟨d0, d1, d2, d3⟩ := HB.out.cells
  go_wp2
  go_ret2
  exact ⟨_, rfl, HB.out.own.tail.head, HB.out.bel⟩
/-- The loops of a row of a chart without error. -/
def RwPost (a b : Int) (w : World) (e : Ending) (w' : World) : Prop := e = .returned (.tuple #[.int .i64 a, .int .i64 b, .int .i64 0]) ∧ Below w.heap.size w w'
set_option maxHeartbeats 4000000 in
theorem Row_any (start : Int) (A : Option Addr) (c : Nat) (p : List RowC) (hw : RowsWf p) (he : chartE start p = 0) (h12 : p.length ≤ 12) (i : Nat) (hi : i ≤ p.length) (a b : Int) (ha : (workX start p).rows[i]? = some a) (hb' : (workX start p).rows[i + 1]? = some b) (w : World) (hs : SlC w w.heap.size A p) :
    Calls Try.prog 23 #[.agg #[.int .i64 start, .slice A p.length c], .int .i64 (i : Int)] w fun e w' => RwPost a b w e w' := by
  have hF := of_front start A c p hw (fun _ => h12) w hs
  obtain ⟨t, ht⟩ : ∃ t, t = workX start p := ⟨_, rfl⟩
  have c0 := hF.cb0
  have c1 := hF.cb1
  have hC := hF.call
  rw [← ht, he] at hC
  have HC := Lib.hid hC
  rw [← ht] at ha hb'
  have HF := Lib.hid hF
  have HA := Lib.hid ha
  have HB' := Lib.hid hb'
  have z0 : (0 : Int) ≤ (i : Int) := by omega
  have z1 : decide ((i : Int) < 0) = false := decide_eq_false (by omega)
  have z2 : decide ((i : Int) > (p.length : Int)) = false := decide_eq_false (by omega)
  have z2' : decide ((p.length : Int) < (i : Int)) = false := decide_eq_false (by omega)
  have z2'' : decide (p.length < i) = false := decide_eq_false (by omega)
  clear hF hs hw hC he ht ha hb'
  go_enter Try.func23, Try.ntmps23
  go_upto_region 2 with (go_at_call 47; refine HC.out.mono ?_; rintro e w2 ⟨vL, vB, vC, vR, vs, rfl, hv, ho, hb⟩; obtain ⟨va, wa, rfl⟩ := pxL_form ho; obtain ⟨vb, wb, rfl⟩ := pxJ_form ho.tail; obtain ⟨vc, wc, rfl⟩ := pxP_form ho.tail.tail; obtain ⟨vd, wd, rfl⟩ := pxJ_form ho.tail.tail.tail; have HB := Lib.hid (HF.out.behind hv ho hb); have HK2 := Lib.hid (HF.out.chart hb (.cells #[.slice va t.lp.length wa, .slice vd t.rows.length wd, .slice vb t.bound.length wb, .slice vc t.cross.length wc, .int .i64 (t.next : Int)] 87)); clear hv ho hb)
  have c2 := HK2.out
  obtain ⟨d0, d1, d2, d3⟩ := HB.out.cells
  obtain ⟨R, hR⟩ : ∃ R, R = t.rows.length := ⟨_, rfl⟩
  obtain ⟨g, gc, hg, q0⟩ := pxJ_at (HB.out.own.tail.tail.tail.head) HA.out hR.symm
  obtain ⟨g', gc', hg', q1⟩ := pxJ_at (HB.out.own.tail.tail.tail.head) HB'.out hR.symm
  rw [← hR] at hg hg' d1 c2 q0 q1 ⊢
  cases hg
  cases hg'
  have hbl := HB.out.bel
  rw [← hR] at hbl
  have hiR : i + 1 < R := by have := (List.getElem?_eq_some_iff.1 HB'.out).1; omega
  have HBl := Lib.hid hbl
  have z3 : (i : Int) < (R : Int) := by omega
  have z4 : (i : Int) + 1 < (R : Int) := by omega
  have z5 : (0 : Int) ≤ (i : Int) + 1 := by omega
  have z6 : ((i : Int) + 1).toNat = i + 1 := by omega
  have hw1 : IntKind.i64.wrap ((i : Int) + 1) = (i : Int) + 1 := IntWalk.i64_in _ (by omega)
  clear hR hbl HK2 HC
  go_wp2
  go_quiet (fail)
  go_wp2
  go_ret3
  exact ⟨rfl, below_drewT HBl.out _⟩
end Go.Proofs.Ytbibndpkcilblaa
namespace Go.Proofs.Ytbibndpkcilblaa
open Go.RowKit
set_option maxRecDepth 100000

/-- The kids of i among the first m loops. -/
def kidsM (lp : List Lp) (m i : Nat) : List Int := ((List.range m).filter fun k => decide ((i : Int) ∈ parN lp k)).map fun k : Nat => (k : Int)
def kidsR (lp : List Lp) (m : Nat) : List (List Int) := (List.range lp.length).map (kidsM lp m)
/-- Loop m's first q parents have it, too. -/
def kidsQ (lp : List Lp) (m q : Nat) : List (List Int) := (List.range lp.length).map fun i => kidsM lp m i ++ if (i : Int) ∈ (parN lp m).take q then [(m : Int)] else []
theorem kidsR_len (lp : List Lp) (m : Nat) : (kidsR lp m).length = lp.length := by unfold kidsR; rw [List.length_map, List.length_range]
theorem kidsQ_len (lp : List Lp) (m q : Nat) : (kidsQ lp m q).length = lp.length := by unfold kidsQ; rw [List.length_map, List.length_range]
theorem kidsM_len (lp : List Lp) (m i : Nat) : (kidsM lp m i).length ≤ m := by
  unfold kidsM
  rw [List.length_map]
  exact Nat.le_trans (List.length_filter_le _ _) (by rw [List.length_range]; exact Nat.le_refl _)
theorem kidsR_zero (lp : List Lp) : kidsR lp 0 = List.replicate lp.length [] := by
  unfold kidsR
  apply List.ext_getElem (by simp)
  intro i h1 h2
  simp [kidsM]
theorem kidsQ_zero (lp : List Lp) (m : Nat) : kidsQ lp m 0 = kidsR lp m := by
  unfold kidsQ kidsR
  simp
theorem kidsQ_end (lp : List Lp) (m : Nat) : kidsQ lp m (parN lp m).length = kidsR lp (m + 1) := by
  unfold kidsQ kidsR
  refine List.map_congr_left fun i _ => ?_
  rw [List.take_length]
  unfold kidsM
  rw [List.range_succ, List.filter_append, List.map_append]
  by_cases h : (i : Int) ∈ parN lp m <;> simp [h]
theorem kidsQ_at {lp : List Lp} {m q k : Nat} (hk : k < lp.length) : (kidsQ lp m q)[k]? = some (kidsM lp m k ++ if (k : Int) ∈ (parN lp m).take q then [(m : Int)] else []) := by
  unfold kidsQ
  rw [List.getElem?_map, List.getElem?_range hk]; rfl
theorem kidsQ_next {lp : List Lp} {m q k : Nat} (hn : (parN lp m).Nodup) (hx : (parN lp m)[q]? = some (k : Int)) (hk : k < lp.length) :
    (kidsQ lp m q)[k]? = some (kidsM lp m k) ∧ kidsQ lp m (q + 1) = (kidsQ lp m q).set k (kidsM lp m k ++ [(m : Int)]) := by
  obtain ⟨hq, e⟩ := List.getElem?_eq_some_iff.1 hx
  have hnot : (k : Int) ∉ (parN lp m).take q := fun h => by
    obtain ⟨j, hj, ej⟩ := List.mem_iff_getElem.1 h
    rw [List.length_take] at hj
    rw [List.getElem_take] at ej
    have h1 := (List.getElem_inj (h₀ := by omega) (h₁ := hq) hn).1 (ej.trans e.symm)
    omega
  refine ⟨?_, ?_⟩
  · rw [kidsQ_at hk, if_neg hnot, List.append_nil]
  · apply List.ext_getElem?
    intro i
    by_cases hi : i < lp.length
    · by_cases hik : k = i
      · subst hik
        rw [List.getElem?_set_self (by rw [kidsQ_len]; exact hk), kidsQ_at hk, if_pos]
        rw [List.take_succ_eq_append_getElem hq, e]
        exact List.mem_append_right _ List.mem_cons_self
      · rw [List.getElem?_set_ne hik, kidsQ_at hi, kidsQ_at hi]
        congr 2
        rw [List.take_succ_eq_append_getElem hq, e]
        have : ((i : Int) ∈ (parN lp m).take q ++ [(k : Int)]) ↔ (i : Int) ∈ (parN lp m).take q := by
          rw [List.mem_append, List.mem_singleton]
          constructor
          · rintro (h | h)
            · exact h
            · omega
          · exact Or.inl
        by_cases h : (i : Int) ∈ (parN lp m).take q
        · rw [if_pos h, if_pos (this.2 h)]
        · rw [if_neg h, if_neg (fun h' => h (this.1 h'))]
    · rw [List.getElem?_eq_none (by rw [kidsQ_len]; omega), List.getElem?_eq_none (by rw [List.length_set, kidsQ_len]; omega)]
/-- All kids. -/
def kidsA (lp : List Lp) : List (List Int) := kidsR lp lp.length
theorem kidsA_at {lp : List Lp} {i : Nat} (hi : i < lp.length) : (kidsA lp)[i]? = some ((kidsN lp i).map fun k : Nat => (k : Int)) := by
  unfold kidsA kidsR
  rw [List.getElem?_map, List.getElem?_range hi]; rfl
theorem kidsA_len (lp : List Lp) : (kidsA lp).length = lp.length := kidsR_len lp _
end Go.Proofs.Ytbibndpkcilblaa
