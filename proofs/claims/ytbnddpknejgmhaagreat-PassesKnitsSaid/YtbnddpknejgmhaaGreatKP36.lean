/- Layer 27, the program: Of, Bound, Row. Layer 30: pass. Layer 30: yarn, where a carrier passes a needle or lays a loop into it. -/
import Derived.Test.YtbnddpknejgmhaaGreatKP35
import Derived.Test.YtbnddpknejgmhaaGreatKP14
import Derived.Test.YtbnddpknejgmhaaGreatKP15
import Derived.Deep.QuietTactic
import Derived.BigQuiet
namespace Go.Proofs.YtbnddpknejgmhaaGreat
open Go.RowKit Go.Shelf Go.Sort
set_option maxRecDepth 100000

/-- What a chart is worked to; a chart with an error, to nothing. -/
def workX (start : Int) (p : List RowC) : Pw := if chartE start p = 0 then workP start.toNat (p.map faceL) p.length else ⟨[], [], [], [], 0⟩
theorem workX_ok {start : Int} {p : List RowC} (h : chartE start p = 0) : workX start p = workP start.toNat (p.map faceL) p.length := by unfold workX; rw [if_pos h]
theorem workX_err {start : Int} {p : List RowC} (h : chartE start p ≠ 0) : workX start p = ⟨[], [], [], [], 0⟩ := by unfold workX; rw [if_neg h]
def OfX (x : Int) (t : Pw) (w : World) (e : Ending) (w' : World) : Prop := ∃ vL vB vC vR vs, e = .returned (.tuple #[.agg #[vL, vR, vB, vC, .int .i64 (t.next : Int)], .int .i64 x]) ∧ vs.length = t.lp.length ∧ Owns w' w.heap.size (pxL vL t.lp vs :: pxJ vB t.bound :: pxP vC t.cross :: pxJ vR t.rows :: parO t.lp vs) ∧ Below w.heap.size w w'
theorem pof_x (start : Int) (A : Option Addr) (c : Nat) (p : List RowC) (hkb : ∀ r ∈ p, ∀ s ∈ r.2, s.kind = 1 ∨ s.kind = 8) (he : chartE start p = 0) (hw : RowsWf p) (h12 : p.length ≤ 12) (w : World) (hs : SlC w w.heap.size A p) :
    Calls Tryz.prog 27 #[.agg #[.int .i64 start, .slice A p.length c]] w fun e w' => OfX (chartE start p) (workX start p) w e w' := by
  refine (pof_ok start A c p hkb hw he h12 w hs).mono ?_
  rintro e w' h
  rw [workX_ok he, he]
  exact h
theorem Owns.more {w : World} {B B' : Nat} {L : List Own} (h : Owns w B' L) (hB : B ≤ B') : Owns w B L := ⟨fun o ho => own_more (h.all o ho) hB, h.apart⟩
/-- The front of a function that works a chart: its box, the call. -/
structure OfF (start : Int) (A : Option Addr) (c : Nat) (p : List RowC) (cb : Nat) (w W : World) : Prop where
  cb0 : W.cell? ⟨cb, 0, none⟩ = some (.int .i64 start)
  cb1 : W.cell? ⟨cb, 1, none⟩ = some (.slice A p.length c)
  call : Calls Tryz.prog 27 #[.agg #[.int .i64 start, .slice A p.length c]] W fun e w' => OfX (chartE start p) (workX start p) W e w'
  bel : Below w.heap.size w W
theorem of_front (start : Int) (A : Option Addr) (c : Nat) (p : List RowC) (hkb : ∀ r ∈ p, ∀ s ∈ r.2, s.kind = 1 ∨ s.kind = 8) (he : chartE start p = 0) (hw : RowsWf p) (h12 : p.length ≤ 12) (w : World) (hs : SlC w w.heap.size A p) : OfF start A c p w.heap.size w (w.alloc (.cells #[.int .i64 start, .slice A p.length c] 24)) := by
  have hb := al_t w (.cells #[.int .i64 start, .slice A p.length c] 24)
  obtain ⟨g1, -⟩ := bxT_at (bxT_new w 24 [.int .i64 start, .slice A p.length c])
  exact ⟨g1 0 _ rfl, g1 1 _ rfl, pof_x start A c p hkb he hw h12 _ ((hs.below hb).more hb.size), hb⟩
/-- Behind the call: the piece lies in a box. -/
structure OfB (t : Pw) (qb : Nat) (vL vB vC vR : Value) (vs : List Value) (w W : World) : Prop where
  vl : vs.length = t.lp.length
  own : Owns W w.heap.size (pxL vL t.lp vs :: pxJ vB t.bound :: pxP vC t.cross :: pxJ vR t.rows :: parO t.lp vs)
  cells : W.cell? ⟨qb, 0, none⟩ = some vL ∧ W.cell? ⟨qb, 1, none⟩ = some vR ∧ W.cell? ⟨qb, 2, none⟩ = some vB ∧ W.cell? ⟨qb, 3, none⟩ = some vC
  bel : Below w.heap.size w W
theorem OfF.behind {start : Int} {A : Option Addr} {c cb : Nat} {p : List RowC} {w W W' : World} {t : Pw} {vL vB vC vR : Value} {vs : List Value} (h : OfF start A c p cb w W) (hv : vs.length = t.lp.length) (ho : Owns W' W.heap.size (pxL vL t.lp vs :: pxJ vB t.bound :: pxP vC t.cross :: pxJ vR t.rows :: parO t.lp vs)) (hb : Below W.heap.size W W') :
    OfB t W'.heap.size vL vB vC vR vs w (W'.alloc (.cells #[vL, vR, vB, vC, .int .i64 (t.next : Int)] 76)) := by
  have hal := al_t W' (.cells #[vL, vR, vB, vC, .int .i64 (t.next : Int)] 76)
  obtain ⟨g1, -⟩ := bxT_at (bxT_new W' 76 [vL, vR, vB, vC, .int .i64 (t.next : Int)])
  exact ⟨hv, (ho.to hal).more h.bel.size, ⟨g1 0 _ rfl, g1 1 _ rfl, g1 2 _ rfl, g1 3 _ rfl⟩, h.bel.trans ((hb.trans (hal.mono hb.size)).mono h.bel.size)⟩
theorem OfF.chart {start : Int} {A : Option Addr} {c cb : Nat} {p : List RowC} {w W W' : World} (h : OfF start A c p cb w W) (hb : Below W.heap.size W W') (o : Obj) : (W'.alloc o).cell? ⟨cb, 1, none⟩ = some (.slice A p.length c) := cell_al ((bcell hb (lt_of_cell h.cb1) _).trans h.cb1) o
/-- What Of hands back. -/
def LoPost (x : Int) (L : List Lp) (w : World) (e : Ending) (w' : World) : Prop := ∃ vL vs, e = .returned (.tuple #[vL, .int .i64 x]) ∧ vs.length = L.length ∧ Owns w' w.heap.size (pxL vL L vs :: parO L vs) ∧ Below w.heap.size w w'
def BoPost (x : Int) (l : List Int) (w : World) (e : Ending) (w' : World) : Prop := ∃ v, e = .returned (.tuple #[v, .int .i64 x]) ∧ (pxJ v l).lies w' w.heap.size ∧ Below w.heap.size w w'
set_option maxHeartbeats 2000000 in
theorem Of_any (start : Int) (A : Option Addr) (c : Nat) (p : List RowC) (hkb : ∀ r ∈ p, ∀ s ∈ r.2, s.kind = 1 ∨ s.kind = 8) (he : chartE start p = 0) (hw : RowsWf p) (h12 : p.length ≤ 12) (w : World) (hs : SlC w w.heap.size A p) :
    Calls Tryz.prog 9 #[.agg #[.int .i64 start, .slice A p.length c]] w fun e w' => LoPost (chartE start p) (workX start p).lp w e w' := by
  have hF := of_front start A c p hkb he hw h12 w hs
  obtain ⟨t, ht⟩ : ∃ t, t = workX start p := ⟨_, rfl⟩
  obtain ⟨x, hx⟩ : ∃ x, x = chartE start p := ⟨_, rfl⟩
  have c0 := hF.cb0
  have c1 := hF.cb1
  have HC := Lib.hid hF.call
  rw [← ht, ← hx] at HC
  rw [← ht, ← hx]
  have HF := Lib.hid hF
  clear hF hs hw ht hx
  go_enter Tryz.func9, Tryz.ntmps9
  go_upto_region 2 with (go_at_call 27; refine HC.out.mono ?_; rintro e w2 ⟨vL, vB, vC, vR, vs, rfl, hv, ho, hb⟩; obtain ⟨va, wa, rfl⟩ := pxL_form ho; obtain ⟨vb, wb, rfl⟩ := pxJ_form ho.tail; obtain ⟨vc, wc, rfl⟩ := pxP_form ho.tail.tail; obtain ⟨vd, wd, rfl⟩ := pxJ_form ho.tail.tail.tail; have HB := Lib.hid (HF.out.behind hv ho hb); clear hv ho hb)
  obtain ⟨d0, d1, d2, d3⟩ := HB.out.cells
  go_wp2
  go_ret2
  exact ⟨_, vs, rfl, HB.out.vl, HB.out.own.sub (List.Sublist.cons_cons _ ((List.sublist_cons_self _ _).trans ((List.sublist_cons_self _ _).trans (List.sublist_cons_self _ _)))), HB.out.bel⟩
/-- The loops of a row of a chart without error. -/
def RwPost (a b : Int) (w : World) (e : Ending) (w' : World) : Prop := e = .returned (.tuple #[.int .i64 a, .int .i64 b, .int .i64 0]) ∧ Below w.heap.size w w'
end Go.Proofs.YtbnddpknejgmhaaGreat
namespace Go.Proofs.YtbnddpknejgmhaaGreat
open Go.RowKit Go.Shelf Go.Sort
set_option maxRecDepth 100000

theorem feed_set (l : List Fd) (k : Nat) (f : Fd) (hk : l[k]? = some f) (b : Bool) (x : Int) : ((l.map Fd.cells).flatten.set (k * 3 + 1) (.bool b)).set (k * 3 + 2) (.int .i64 x) = ((l.take k ++ ⟨f.car, b, x⟩ :: l.drop (k + 1)).map Fd.cells).flatten := by
  have hl := (List.getElem?_eq_some_iff.1 hk).1
  have h0 : (l.map Fd.cells)[k]? = some f.cells := by rw [List.getElem?_map, hk]; rfl
  rw [set_flat (sz := 3) (cells3f l) k (.bool b) f.cells h0 (by omega)]
  have h1 : ((l.map Fd.cells).set k (f.cells.set 1 (.bool b)))[k]? = some (f.cells.set 1 (.bool b)) := by rw [List.getElem?_set_self (by simpa using hl)]
  have hlen : ∀ cs ∈ (l.map Fd.cells).set k (f.cells.set 1 (.bool b)), cs.length = 3 := fun cs hcs => by
    rcases List.mem_or_eq_of_mem_set hcs with h | h
    · exact cells3f l cs h
    · rw [h]; rfl
  rw [set_flat (sz := 3) hlen k (.int .i64 x) _ h1 (by omega), List.set_set]
  congr 1
  rw [List.set_eq_take_append_cons_drop, if_pos (by simpa using hl)]
  simp [Fd.cells]
theorem feed_place {f : Fd} (h : feedOk f = true) : -217 ≤ f.place ∧ f.place ≤ 217 := by
  unfold feedOk at h
  rw [Bool.and_eq_true] at h
  have h2 := h.2
  split at h2
  · have := of_decide_eq_true h2; omega
  · have := of_decide_eq_true h2; omega
set_option maxHeartbeats 4000000 in
theorem pass_any (B pb : Nat) (s : BedS) (i : Ins) (X : List Own) (hk : StOk s) (hf : FdOk s) (hbd : 0 ≤ i.bed ∧ i.bed ≤ 1) (ha : needleP i.at_) (hc : carP i.car) (w : World) (hBw : B ≤ w.heap.size) (hw : WorkX 84 w B pb s X) :
    Calls Tryz.prog 90 #[.pointer (some ⟨pb, 0, none⟩), i.val] w fun e w' => stepOut B pb (passS s i) X w e w' := by
  obtain ⟨hv, mv, vh, vf, vm, hw⟩ := hw
  obtain ⟨A, c, rfl, hlc, -⟩ := hw.slf
  have hal := (Below.refl w.heap.size w).alloc (Nat.le_refl _) (insBox i)
  have hw1 := hw.to hal
  have HAl := Lib.hid hal
  have HX := Lib.hid (fun W hb => ins_box w i (W := W) hb)
  have HCa : Hid (Calls Tryz.prog 94 #[.pointer (some ⟨pb, 0, none⟩), .int .i64 i.car] (w.alloc (insBox i)) fun e w' => ∃ (k : Nat) (q : Bool), e = .returned (.tuple #[.int .i64 (k : Int), .bool q]) ∧ Found (cmpF s.feeds i.car) s.feeds.length k q ∧ Below (w.alloc (insBox i)).heap.size (w.alloc (insBox i)) w') := by
    obtain ⟨A0, c0, e0, -, hsl⟩ := hw1.slf
    cases e0
    exact carrier_any pb A c s.feeds (by have := hf.len; omega) hf.car i.car hc hf.ris _ hw1.cells.2.2.1 hsl
  have HF := Lib.hid hf
  have HW1 := Lib.hid hw1
  have hlen : s.feeds.length ≤ 9000 := hf.len
  have HCo : Hid (∀ W, W.cell? ⟨pb, 0, none⟩ = some (.int .i64 s.rack) → Calls Tryz.prog 113 #[.pointer (some ⟨pb, 0, none⟩), .int .u8 i.bed, .int .i64 i.at_] W fun e w' => e = .returned (.int .i64 (colI s.rack i.bed i.at_)) ∧ W = w') := fun W h => column_any pb s.rack i.bed i.at_ hk.rack hbd ha W h
  have hcol : -108 ≤ colI s.rack i.bed i.at_ ∧ colI s.rack i.bed i.at_ ≤ 108 := by
    unfold colI
    have h1 := hk.rack
    unfold needleP at ha
    have hb2 : i.bed = 0 ∨ i.bed = 1 := by omega
    rcases hb2 with h | h <;> rw [h] <;> omega
  unfold Ins.val
  clear hw hw1 hal hf hk
  go_enter Tryz.func90, Tryz.ntmps90
  go_upto_region 1 with fail
  obtain ⟨x0, x1, x2, x3, x4, x5, x6⟩ := HX.out _ (Below.refl _ _)
  go_wp2_with fail
  refine HCa.out.mono ?_
  rintro e w1 ⟨k, q, rfl, hfo, hb1⟩
  have HFo := Lib.hid (found_car HF.out.ris hfo)
  have hkl := hfo.le
  have HW2 := Lib.hid (HW1.out.to hb1)
  have HB1 := Lib.hid ((HAl.out.mono hBw).trans (hb1.mono (by simp; omega)))
  obtain ⟨y0, y1, y2, y3, y4, y5, y6⟩ := HX.out w1 (hb1.mono (by simp))
  simp only [Nat.zero_add] at y0 y1 y2 y3 y4 y5 y6
  clear hfo hb1 HCa x0 x1 x2 x3 x4 x5 x6
  have hcs := HW2.out.cells
  obtain ⟨c0, -, c2, -, -⟩ := hcs
  have hpl := HW2.out.base
  have hrf : w1.ownsRow B 90 3 (.slice A s.feeds.length c) s.feeds.length (s.feeds.map Fd.cells).flatten := HW2.out.rf
  have HRf := Lib.hid hrf
  clear hrf
  cases q with
  | false =>
    have HE : Hid (passS s i = none) := by
      unfold Hid passS
      have := HFo.out.2.1
      cases hfa : feedAt s.feeds i.car with
      | none => rfl
      | some f => rw [hfa] at this; cases this
    have HR := Lib.hid (stepOut.stop (pb := pb) (X := X) HE.out (WorkX.owns ⟨hv, mv, vh, _, vm, HW2.out⟩) HB1.out)
    unfold stopE stopV at HR
    clear HE
    go_wp2
    exact ⟨rfl, HR.out⟩
  | true =>
    obtain ⟨f, hfk, hfa, hfc⟩ := (HFo.out.2.2.1 rfl).1
    have hfp := feed_place (HF.out.ok f (List.mem_of_getElem? hfk))
    have hkl2 : k < s.feeds.length := (List.getElem?_eq_some_iff.1 hfk).1
    obtain ⟨g, rfl⟩ : ∃ g, A = some ⟨g, 0, none⟩ := by
      obtain ⟨g, cap, e, _⟩ := World.ownsRow.form HRf.out (by omega)
      exact ⟨g, (Value.slice.inj e).1⟩
    have hk9 : k < 9000 := by omega
    have f1 : w1.cell? ⟨g, k * 3 + 1, none⟩ = some (.bool f.fresh) := by
      rw [HRf.out.cellAt (k * 3 + 1) (by omega)]
      exact flat_at (cells3f _) (by rw [List.getElem?_map, hfk]; rfl) (show f.cells[1]? = some _ from rfl)
    have f2 : w1.cell? ⟨g, k * 3 + 2, none⟩ = some (.int .i64 f.place) := by
      rw [HRf.out.cellAt (k * 3 + 2) (by omega)]
      exact flat_at (cells3f _) (by rw [List.getElem?_map, hfk]; rfl) (show f.cells[2]? = some _ from rfl)
    have z1 : w1.frozen? ⟨g, k * 3 + 1, none⟩ = false := HRf.out.frozenAt _
    have z2 : w1.frozen? ⟨g, k * 3 + 2, none⟩ = false := HRf.out.frozenAt _
    have hk0 : (0 : Int) ≤ (k : Int) := by omega
    have hkn : (k : Int) < (s.feeds.length : Int) := by omega
    have HP : Hid (passS s i = if f.fresh = false ∧ wayI i * (2 * colI s.rack i.bed i.at_ - f.place) ≤ 0 then none else some { s with feeds := s.feeds.take k ++ ⟨f.car, false, 2 * colI s.rack i.bed i.at_ + wayI i⟩ :: s.feeds.drop (k + 1) }) := by
      unfold Hid passS
      rw [hfa]
      simp only []
      rw [(HFo.out.2.2.1 rfl).2, hfc]
      rfl
    have HG : Hid (∀ x, WorkX 84 ((w1.setCell ⟨g, k * 3 + 1, none⟩ (.bool false)).setCell ⟨g, k * 3 + 2, none⟩ (.int .i64 x)) B pb { s with feeds := s.feeds.take k ++ ⟨f.car, false, x⟩ :: s.feeds.drop (k + 1) } X ∧ Below B w ((w1.setCell ⟨g, k * 3 + 1, none⟩ (.bool false)).setCell ⟨g, k * 3 + 2, none⟩ (.int .i64 x))) := fun x => by
      obtain ⟨s1, s2⟩ := World.ownsRow.stored HRf.out (k * 3 + 1) (.bool false)
      obtain ⟨s3, s4⟩ := World.ownsRow.stored s1 (k * 3 + 2) (.int .i64 x)
      have hBg := (World.ownsRow.lt HRf.out g rfl).1
      refine ⟨⟨hv, mv, vh, _, vm, HW2.out.turnFeeds (grown_trans s2 s4) ?_⟩, (HB1.out.setCell (p := ⟨g, k * 3 + 1, none⟩) hBg _).setCell (p := ⟨g, k * 3 + 2, none⟩) hBg _⟩
      have e1 : (s.feeds.take k ++ (⟨f.car, false, x⟩ : Fd) :: s.feeds.drop (k + 1)).length = s.feeds.length := by simp; omega
      unfold rowF Own.lies
      rw [e1, ← feed_set s.feeds k f hfk]
      exact s3
    clear HFo hfk hfa hfc HRf HF HX HAl
    generalize colI s.rack i.bed i.at_ = col at HCo hcol HP
    generalize hfr : f.fresh = fr at f1 HP
    generalize hfpl : f.place = fp at f2 HP hfp
    clear hfr hfpl
    unfold wayI at HP
    cases hr : i.right with
    | true =>
      rw [hr] at y1 HP
      cases fr with
      | true =>
        have HE : Hid (passS s i = some { s with feeds := s.feeds.take k ++ ⟨f.car, false, 2 * col + 1⟩ :: s.feeds.drop (k + 1) }) := by
          rw [Hid, HP.out, if_neg (by simp)]; rfl
        clear HP hr
        have HO := Lib.hid (stepOut.go HE.out (HG.out (2 * col + 1)).1 (HG.out (2 * col + 1)).2)
        clear HG HE
        go_wp2_with (go_at_call 113; refine (HCo.out _ (by assumption)).mono ?_; rintro e w2 ⟨rfl, rfl⟩)
        refine bodyPost_end (results_none rfl _ _ _) rfl ?_
        exact HO.out
      | false =>
        by_cases hbad : 2 * col ≤ fp
        · have HE : Hid (passS s i = none) := by
            rw [Hid, HP.out, if_pos ⟨rfl, by show 1 * (2 * col - fp) ≤ 0; omega⟩]
          have HR := Lib.hid (stepOut.stop (pb := pb) (X := X) HE.out (WorkX.owns ⟨hv, mv, vh, _, vm, HW2.out⟩) HB1.out)
          unfold stopE stopV at HR
          have g1 : decide (2 * col ≤ fp) = true := decide_eq_true hbad
          have g2 : decide (2 * col - fp ≤ 0) = true := decide_eq_true (by omega)
          clear HP HG HE hr
          go_wp2_with (go_at_call 113; refine (HCo.out _ (by assumption)).mono ?_; rintro e w2 ⟨rfl, rfl⟩)
          exact ⟨rfl, HR.out⟩
        · have HE : Hid (passS s i = some { s with feeds := s.feeds.take k ++ ⟨f.car, false, 2 * col + 1⟩ :: s.feeds.drop (k + 1) }) := by
            rw [Hid, HP.out, if_neg (fun h => by have h2 : 1 * (2 * col - fp) ≤ 0 := h.2; omega)]; rfl
          have g1 : decide (2 * col ≤ fp) = false := decide_eq_false hbad
          have g2 : decide (2 * col - fp ≤ 0) = false := decide_eq_false (by omega)
          clear HP hr
          have HO := Lib.hid (stepOut.go HE.out (HG.out (2 * col + 1)).1 (HG.out (2 * col + 1)).2)
          clear HG HE
          go_wp2_with (go_at_call 113; refine (HCo.out _ (by assumption)).mono ?_; rintro e w2 ⟨rfl, rfl⟩)
          refine bodyPost_end (results_none rfl _ _ _) rfl ?_
          exact HO.out
    | false =>
      rw [hr] at y1 HP
      cases fr with
      | true =>
        have HE : Hid (passS s i = some { s with feeds := s.feeds.take k ++ ⟨f.car, false, 2 * col + -1⟩ :: s.feeds.drop (k + 1) }) := by
          rw [Hid, HP.out, if_neg (by simp)]; rfl
        clear HP hr
        have HO := Lib.hid (stepOut.go HE.out (HG.out (2 * col + -1)).1 (HG.out (2 * col + -1)).2)
        clear HG HE
        go_wp2_with (go_at_call 113; refine (HCo.out _ (by assumption)).mono ?_; rintro e w2 ⟨rfl, rfl⟩)
        refine bodyPost_end (results_none rfl _ _ _) rfl ?_
        exact HO.out
      | false =>
        by_cases hbad : fp ≤ 2 * col
        · have HE : Hid (passS s i = none) := by
            rw [Hid, HP.out, if_pos ⟨rfl, by show -1 * (2 * col - fp) ≤ 0; omega⟩]
          have HR := Lib.hid (stepOut.stop (pb := pb) (X := X) HE.out (WorkX.owns ⟨hv, mv, vh, _, vm, HW2.out⟩) HB1.out)
          unfold stopE stopV at HR
          have g1 : decide (fp ≤ 2 * col) = true := decide_eq_true hbad
          have g2 : decide (0 ≤ 2 * col - fp) = true := decide_eq_true (by omega)
          clear HP HG HE hr
          go_wp2_with (go_at_call 113; refine (HCo.out _ (by assumption)).mono ?_; rintro e w2 ⟨rfl, rfl⟩)
          exact ⟨rfl, HR.out⟩
        · have HE : Hid (passS s i = some { s with feeds := s.feeds.take k ++ ⟨f.car, false, 2 * col + -1⟩ :: s.feeds.drop (k + 1) }) := by
            rw [Hid, HP.out, if_neg (fun h => by have h2 : -1 * (2 * col - fp) ≤ 0 := h.2; omega)]; rfl
          have g1 : decide (fp ≤ 2 * col) = false := decide_eq_false hbad
          have g2 : decide (0 ≤ 2 * col - fp) = false := decide_eq_false (by omega)
          clear HP hr
          have HO := Lib.hid (stepOut.go HE.out (HG.out (2 * col + -1)).1 (HG.out (2 * col + -1)).2)
          clear HG HE
          go_wp2_with (go_at_call 113; refine (HCo.out _ (by assumption)).mono ?_; rintro e w2 ⟨rfl, rfl⟩)
          refine bodyPost_end (results_none rfl _ _ _) rfl ?_
          exact HO.out
end Go.Proofs.YtbnddpknejgmhaaGreat
namespace Go.Proofs.YtbnddpknejgmhaaGreat
open Go.RowKit Go.Shelf Go.Sort
set_option maxRecDepth 100000

/-- A step, as what an instruction ends in where it cannot be done. -/
theorem step_cases {B pb : Nat} {r : Option BedS} {X : List Own} {w w' : World} {e : Ending} (h : stepOut B pb r X w e w') : (r = none ∧ e = stopE 36 ∧ Owns w' B X ∧ Below B w w') ∨ ∃ t, r = some t ∧ e = .returned (.tuple #[]) ∧ WorkX 84 w' B pb t X ∧ Below B w w' := by
  unfold stepOut at h
  cases r with
  | none => exact Or.inl ⟨rfl, h⟩
  | some t => exact Or.inr ⟨t, rfl, h⟩
theorem loop_cases {B pb : Nat} {s : BedS} {i : Ins} {ps : List Int} {X : List Own} {w w' : World} {e : Ending} (h : loopOut B pb s i ps X w e w') : (s.made.length = 4000 ∧ e = stopE 4 ∧ Owns w' B X ∧ Below B w w') ∨ (s.made.length ≠ 4000 ∧ e = .returned (.int .i64 (s.made.length : Int)) ∧ WorkX 84 w' B pb (loopS s i ps) X ∧ Below B w w') := by
  unfold loopOut at h
  split at h
  · rename_i h1; exact Or.inl ⟨h1, h⟩
  · rename_i h1; exact Or.inr ⟨h1, h⟩
theorem lay_made {s t : BedS} {b n : Int} {l : List Int} (h : layS s b n l = some t) : t.made = s.made := by rw [lay_same h]
set_option maxHeartbeats 4000000 in
theorem yarn1_any (B pb : Nat) (s : BedS) (i : Ins) (X : List Own) (hk : StOk s) (hf : FdOk s) (hop : i.op = 4 ∨ i.op = 5) (hbd : 0 ≤ i.bed ∧ i.bed ≤ 1) (ha : needleP i.at_) (hc : carP i.car) (w : World) (hBw : B ≤ w.heap.size) (hw : WorkX 84 w B pb s X) :
    Calls Tryz.prog 62 #[.pointer (some ⟨pb, 0, none⟩), i.val] w fun e w' => endOut B pb (yarnS s i) X w e w' := by
  have hw1 : WorkX 84 (w.alloc (insBox i)) B pb s (rowX w.heap.size i :: X) := hw.add ((Below.refl _ w).alloc (Nat.le_refl _) (insBox i)) (rowX_new w i)
  have hal := (Below.refl B w).alloc hBw (insBox i)
  have HPa := Lib.hid (pass_any B pb s i (rowX w.heap.size i :: X) hk hf hbd ha hc (w.alloc (insBox i)) (by simp; omega) hw1)
  have HK := Lib.hid hk
  have HAl := Lib.hid hal
  have HN := Lib.hid (show _ ∧ _ from ⟨hbd, ha⟩)
  obtain ⟨x0, x1, x2, x3, x4, x5, x6⟩ := rowX_at (B := B) (hw1.row List.mem_cons_self)
  unfold Ins.val at HPa ⊢
  clear hw hw1 hk hf ha hc hal hbd
  go_enter Tryz.func62, Tryz.ntmps62
  go_wp2_with fail
  refine HPa.out.mono ?_
  intro e w1 h1
  rcases step_cases h1 with ⟨hp, rfl, ho1, hb1⟩ | ⟨t, hp, rfl, hwt, hb1⟩
  · have HE : Hid (yarnS s i = (bed0, 36)) := by unfold Hid yarnS; rw [hp]
    have HR := Lib.hid (endOut.stop (pb := pb) (X := X) HE.out (by decide) ho1.tail (HAl.out.trans hb1))
    unfold stopE stopV at HR ⊢
    clear h1 hp ho1 hb1 HE
    go_wp2
    exact ⟨rfl, HR.out⟩
  · have HB1 := Lib.hid (HAl.out.trans hb1)
    have HW1 := Lib.hid hwt
    have HP := Lib.hid hp
    have HKt := Lib.hid (HK.out.pass hp)
    have hbz := hb1.size
    obtain ⟨y0, y1, y2, y3, y4, y5, y6⟩ := rowX_at (B := B) (hwt.row List.mem_cons_self)
    clear h1 hp hb1 hwt HPa HK x0 x1 x2 x3 x4 x5 x6
    rcases hop with hop | hop
    · have b4 : (i.op == 4) = true := by simp [hop]
      have HY : Hid (yarnS s i = match layS t i.bed i.at_ [(t.made.length : Int)] with | none => (bed0, 36) | some u => if t.made.length = 4000 then (bed0, 4) else (loopS u i [], 0)) := by
        unfold Hid yarnS
        rw [HP.out]
        simp only []
        rw [if_neg (by omega), if_pos hop]
        cases layS t i.bed i.at_ [(t.made.length : Int)] <;> rfl
      have hcs : w1.cell? ⟨pb, 3, none⟩ = w1.cell? ⟨pb, 3, none⟩ := rfl
      obtain ⟨A, c, c3, hpl⟩ : ∃ A c, w1.cell? ⟨pb, 3, none⟩ = some (.slice A t.made.length c) ∧ pb < w1.heap.size := by
        obtain ⟨hv, mv, vh, vf, vm, hwa⟩ := HW1.out
        obtain ⟨A, c, rfl, -, -⟩ := hwa.slm
        exact ⟨A, c, hwa.cells.2.2.2.1, hwa.base.2⟩
      have hbx : w.heap.size < w1.heap.size := lt_of_cell y0
      have hml : t.made.length ≤ 9000 := HKt.out.made
      have HLy : Hid (Calls Tryz.prog 91 #[.pointer (some ⟨pb, 0, none⟩), .int .u8 i.bed, .int .i64 i.at_, .slice (some ⟨w1.heap.size, 0, none⟩) 1 1] (w1.drew.alloc (.cells #[.int .i64 (t.made.length : Int)] 3)) fun e w' => stepOut B pb (layS t i.bed i.at_ [(t.made.length : Int)]) (rowI (.slice (some ⟨w1.heap.size, 0, none⟩) 1 1) [(t.made.length : Int)] :: rowX w.heap.size i :: X) (w1.drew.alloc (.cells #[.int .i64 (t.made.length : Int)] 3)) e w') := by
        refine lay_any B pb t (rowX w.heap.size i :: X) _ _ HKt.out.seek HKt.out.loops (by simp) i.bed i.at_ HN.out.1 HN.out.2 _ (by have := HB1.out.size; show B ≤ (w1.alloc _).heap.size; simp; omega) ?_
        exact HW1.out.add (o := rowI (.slice (some ⟨w1.heap.size, 0, none⟩) 1 1) [(t.made.length : Int)]) ((Below.drew (Below.refl _ w1)).alloc (Nat.le_refl _) _) (World.ownsRow_lit w1.drew #[.int .i64 (t.made.length : Int)] 1 (Nat.le_refl _) (by decide) rfl)
      have hBal : Below B w (w1.drew.alloc (.cells #[.int .i64 (t.made.length : Int)] 3)) := (HB1.out.drew).alloc (by show B ≤ w1.heap.size; have := HB1.out.size; omega) _
      have HD : Hid (∀ e w', stepOut B pb (layS t i.bed i.at_ [(t.made.length : Int)]) (rowI (.slice (some ⟨w1.heap.size, 0, none⟩) 1 1) [(t.made.length : Int)] :: rowX w.heap.size i :: X) (w1.drew.alloc (.cells #[.int .i64 (t.made.length : Int)] 3)) e w' →
          (e = stopE 36 ∧ endOut B pb (yarnS s i) X w e w') ∨ (e = .returned (.tuple #[]) ∧ Hid (∃ u, layS t i.bed i.at_ [(t.made.length : Int)] = some u ∧ WorkX 84 w' B pb u (rowX w.heap.size i :: X)) ∧ Hid (Below B w w'))) := fun e w' h => by
        rcases step_cases h with ⟨hl, rfl, ho, hb⟩ | ⟨u, hl, rfl, hwu, hb⟩
        · refine Or.inl ⟨rfl, endOut.stop ?_ (by decide) ho.tail.tail (hBal.trans hb)⟩
          rw [HY.out, hl]
        · exact Or.inr ⟨rfl, ⟨u, hl, hwu.less⟩, hBal.trans hb⟩
      clear hop hcs HP
      go_upto_region 4 with fail
      go_cut [24] (fun s24 wr => ∃ v24, v24 = s24 ∧ Hid (∃ u, layS t i.bed i.at_ [(t.made.length : Int)] = some u ∧ WorkX 84 wr B pb u (rowX w.heap.size i :: X)) ∧ Hid (Below B w wr))
      case first =>
        have y2d : w1.drew.cell? ⟨w.heap.size, 2, none⟩ = some (.int .u8 i.bed) := y2
        have y3d : w1.drew.cell? ⟨w.heap.size, 3, none⟩ = some (.int .i64 i.at_) := y3
        have c3d : w1.drew.cell? ⟨pb, 3, none⟩ = some (.slice A t.made.length c) := c3
        have y2a := cell_al y2 (.cells #[.int .i64 (t.made.length : Int)] 3)
        have y3a := cell_al y3 (.cells #[.int .i64 (t.made.length : Int)] 3)
        go_region_with (first | (go_at_call 91; refine HLy.out.mono ?_; intro e w2 h2; rcases HD.out e w2 h2 with ⟨rfl, ho⟩ | ⟨rfl, hu, hbu⟩; exact ⟨rfl, ho⟩))
        all_goals
          go_wp2_with fail
          go_meet
          exact ⟨_, rfl, hu, hbu⟩
      case rest =>
        obtain ⟨v24, rfl, HU, HBu⟩ := hcut
        obtain ⟨u, hl, hwu⟩ := HU.out
        obtain ⟨z0, z1, z2, z3, z4, z5, z6⟩ := rowX_at (B := B) (hwu.row List.mem_cons_self)
        have hum := lay_made hl
        have HLo := Lib.hid (loop_any B pb u i (.slice none 0 0) [] (rowX w.heap.size i :: X) (by rw [hum]; exact hml) wc (by have := HBu.out.size; omega) hwu.addNil)
        have HY2 : Hid (yarnS s i = if t.made.length = 4000 then (bed0, 4) else (loopS u i [], 0)) := by rw [Hid, HY.out, hl]
        unfold Ins.val at HLo
        have HM := Lib.hid hum
        clear HU hl hwu HY hum HLy HD y0 y1 y2 y3 y4 y5 y6 c3 hBal
        go_wp2_with fail
        refine HLo.out.mono ?_
        intro e w2 h2
        rcases loop_cases h2 with ⟨hm, rfl, ho2, hb⟩ | ⟨hm, rfl, hw2, hb⟩
        · have HR := Lib.hid (endOut.stop (pb := pb) (X := X) (w := w) (HY2.out.trans (by rw [← HM.out, if_pos hm])) (by decide) ho2.tail (HBu.out.trans hb))
          unfold stopE stopV at HR ⊢
          clear h2 hm ho2 hb
          go_wp2
          exact ⟨rfl, HR.out⟩
        · have HR := Lib.hid (endOut.go (w := w) (HY2.out.trans (by rw [← HM.out, if_neg hm])) hw2.less (HBu.out.trans hb))
          clear h2 hm hb hw2
          go_wp2
          refine bodyPost_end (results_none rfl _ _ _) rfl ?_
          exact HR.out
    · have b4 : (i.op == 4) = false := beq_eq_false_iff_ne.2 (by omega)
      have b3 : (i.op == 3) = false := beq_eq_false_iff_ne.2 (by omega)
      have b6 : (i.op == 6) = false := beq_eq_false_iff_ne.2 (by omega)
      have HY : Hid (yarnS s i = (t, 0)) := by
        unfold Hid yarnS
        rw [HP.out]
        simp only []
        rw [if_pos hop]
      have HR := Lib.hid (endOut.go HY.out HW1.out.less HB1.out)
      clear hop
      go_wp2
      refine bodyPost_end (results_none rfl _ _ _) rfl ?_
      exact HR.out
end Go.Proofs.YtbnddpknejgmhaaGreat
