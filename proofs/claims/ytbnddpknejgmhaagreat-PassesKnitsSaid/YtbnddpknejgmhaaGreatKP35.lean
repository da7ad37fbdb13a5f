/- Layer 27, the program: of. Layer 27, the program: of, a chart without error. Layers 27, 28: the loops of a piece, read. -/
import Derived.Test.YtbnddpknejgmhaaGreatKP28
import Derived.Test.YtbnddpknejgmhaaGreatKP33
import Derived.Test.YtbnddpknejgmhaaGreatKP18
import Derived.Test.YtbnddpknejgmhaaGreatKP34
import Derived.Test.YtbnddpknejgmhaaGreatKP24
namespace Go.Proofs.YtbnddpknejgmhaaGreat
open Go.RowKit Go.Shelf Go.Sort
set_option maxRecDepth 100000

theorem QcA.new {B : Nat} {X : List Own} {W : World} (h : Owns W B X) (hB : B ≤ W.heap.size) : QcA B W.heap.size ⟨[], [], [], [], 0⟩ nilV nilV nilV nilV [] X (W.alloc (.cells #[nilV, nilV, nilV, nilV, .int .i64 0] 76)) := by
  have h4 := (((h.none 3 1).none 123 2).none 3 1).none 49 4
  exact ⟨h4.add (o := qcO W.heap.size nilV nilV nilV nilV 0) (al_t W _) hB (bxT_new W _ _), rfl⟩
/-- The chart's box and the piece's. -/
theorem of_start (w : World) (start : Int) (A : Option Addr) (n c : Nat) : QcA w.heap.size (w.heap.size + 1) ⟨[], [], [], [], 0⟩ nilV nilV nilV nilV [] [bxT 24 w.heap.size [.int .i64 start, .slice A n c]] ((w.alloc (.cells #[.int .i64 start, .slice A n c] 24)).alloc (.cells #[nilV, nilV, nilV, nilV, .int .i64 0] 76)) ∧
    Below w.heap.size w ((w.alloc (.cells #[.int .i64 start, .slice A n c] 24)).alloc (.cells #[nilV, nilV, nilV, nilV, .int .i64 0] 76)) := by
  have h1 := Owns.add (o := bxT 24 w.heap.size [.int .i64 start, .slice A n c]) Owns.nil (al_t w (.cells #[.int .i64 start, .slice A n c] 24)) (Nat.le_refl _) (bxT_new w _ _)
  have hb := al_t w (.cells #[.int .i64 start, .slice A n c] 24)
  have h2 := QcA.new h1 hb.size
  rw [World.size_alloc] at h2
  exact ⟨h2, hb.trans ((al_t _ _).mono hb.size)⟩
/-- What of hands back. -/
def OfOk (t : Pw) (w : World) (e : Ending) (w' : World) : Prop := ∃ vL vB vC vR vs, e = .returned (.tuple #[.agg #[vL, vR, vB, vC, .int .i64 (t.next : Int)], .int .i64 0]) ∧ vs.length = t.lp.length ∧ Owns w' w.heap.size (pxL vL t.lp vs :: pxJ vB t.bound :: pxP vC t.cross :: pxJ vR t.rows :: parO t.lp vs) ∧ Below w.heap.size w w'
def OfErr (x : Int) (w : World) (e : Ending) (w' : World) : Prop := e = .returned (.tuple #[.agg #[nilV, nilV, nilV, nilV, .int .i64 0], .int .i64 x]) ∧ Below w.heap.size w w'
theorem lof_close {W : World} {tmps : Array Value} {a b c d f x : Value} {g : Nat} {R : Ending → World → Prop} (c0 : W.cell? ⟨g, 0, none⟩ = some a) (c1 : W.cell? ⟨g, 1, none⟩ = some b) (c2 : W.cell? ⟨g, 2, none⟩ = some c) (c3 : W.cell? ⟨g, 3, none⟩ = some d) (c4 : W.cell? ⟨g, 4, none⟩ = some f) (h2 : tmps[2]?.getD undef = .pointer (some ⟨g, 0, none⟩)) (h3 : tmps[3]?.getD undef = x) (hR : R (.returned (.tuple #[.agg #[a, b, c, d, f], x])) W) :
    bodyPost Tryz.prog Tryz.f27 R .ret { tmps := tmps, defers := [] } W := by
  refine bodyPost_ret (v := .tuple #[.agg #[a, b, c, d, f], x]) ?_ rfl hR
  simp [results, Tryz.results27, go_sem, h2, h3, c0, c1, c2, c3, c4]
/-- The piece's box is written with what it holds. -/
theorem QcA.relay {B pb : Nat} {t : Pw} {vL vB vC vR : Value} {vs : List Value} {X : List Own} {W w : World} (h : QcA B pb t vL vB vC vR vs X W) (hB : B = w.heap.size) (hb : Below B w W) :
    ((((((W.setCell ⟨pb, 0, none⟩ vL).setCell ⟨pb, 1, none⟩ vR).setCell ⟨pb, 2, none⟩ vB).setCell ⟨pb, 3, none⟩ vC).setCell ⟨pb, 4, none⟩ (.int .i64 (t.next : Int))).cell? ⟨pb, 0, none⟩ = some vL ∧ (((((W.setCell ⟨pb, 0, none⟩ vL).setCell ⟨pb, 1, none⟩ vR).setCell ⟨pb, 2, none⟩ vB).setCell ⟨pb, 3, none⟩ vC).setCell ⟨pb, 4, none⟩ (.int .i64 (t.next : Int))).cell? ⟨pb, 1, none⟩ = some vR ∧
    (((((W.setCell ⟨pb, 0, none⟩ vL).setCell ⟨pb, 1, none⟩ vR).setCell ⟨pb, 2, none⟩ vB).setCell ⟨pb, 3, none⟩ vC).setCell ⟨pb, 4, none⟩ (.int .i64 (t.next : Int))).cell? ⟨pb, 2, none⟩ = some vB ∧ (((((W.setCell ⟨pb, 0, none⟩ vL).setCell ⟨pb, 1, none⟩ vR).setCell ⟨pb, 2, none⟩ vB).setCell ⟨pb, 3, none⟩ vC).setCell ⟨pb, 4, none⟩ (.int .i64 (t.next : Int))).cell? ⟨pb, 3, none⟩ = some vC ∧
    (((((W.setCell ⟨pb, 0, none⟩ vL).setCell ⟨pb, 1, none⟩ vR).setCell ⟨pb, 2, none⟩ vB).setCell ⟨pb, 3, none⟩ vC).setCell ⟨pb, 4, none⟩ (.int .i64 (t.next : Int))).cell? ⟨pb, 4, none⟩ = some (.int .i64 (t.next : Int))) ∧
    OfOk t w (.returned (.tuple #[.agg #[vL, vR, vB, vC, .int .i64 (t.next : Int)], .int .i64 0])) (((((W.setCell ⟨pb, 0, none⟩ vL).setCell ⟨pb, 1, none⟩ vR).setCell ⟨pb, 2, none⟩ vB).setCell ⟨pb, 3, none⟩ vC).setCell ⟨pb, 4, none⟩ (.int .i64 (t.next : Int))) := by
  subst hB
  have h0 := h.own
  have h1 := bxT_set h0 0 vL
  have h2 := bxT_set h1 1 vR
  have h3 := bxT_set h2 2 vB
  have h4 := bxT_set h3 3 vC
  have h5 := bxT_set h4 4 (.int .i64 (t.next : Int))
  obtain ⟨g1, -⟩ := bxT_at h5.head
  refine ⟨⟨g1 0 _ rfl, g1 1 _ rfl, g1 2 _ rfl, g1 3 _ rfl, g1 4 _ rfl⟩, vL, vB, vC, vR, vs, rfl, h.vl, ?_, ?_⟩
  · exact h5.tail.sub (List.Sublist.cons_cons _ (List.Sublist.cons_cons _ (List.Sublist.cons_cons _ (List.Sublist.cons_cons _ (List.sublist_append_left _ _)))))
  · have b1 := bxT_below h0 hb.size 0 vL
    have b2 := bxT_below h1 (Nat.le_trans hb.size b1.size) 1 vR
    have b3 := bxT_below h2 (Nat.le_trans hb.size (b1.trans b2).size) 2 vB
    have b4 := bxT_below h3 (Nat.le_trans hb.size ((b1.trans b2).trans b3).size) 3 vC
    have b5 := bxT_below h4 (Nat.le_trans hb.size (((b1.trans b2).trans b3).trans b4).size) 4 (.int .i64 (t.next : Int))
    exact hb.trans ((((b1.trans b2).trans b3).trans b4).trans b5)
/-- p.rows = a row beside the piece. -/
theorem QcA.layR {B pb : Nat} {t : Pw} {vL vB vC vR v : Value} {l : List Int} {vs : List Value} {X : List Own} {W : World} (h : QcA B pb t vL vB vC vR vs (pxJ v l :: X) W) (hB : B ≤ W.heap.size) :
    QcA B pb ⟨t.lp, t.bound, t.cross, l, t.next⟩ vL vB vC v vs X (W.setCell ⟨pb, 1, none⟩ v) ∧ Below B W (W.setCell ⟨pb, 1, none⟩ v) := by
  refine ⟨⟨?_, h.vl⟩, bxT_below h.own hB 1 v⟩
  have h1 := bxT_set h.own 1 v
  have h2 : Owns (W.setCell ⟨pb, 1, none⟩ v) B (qcO pb vL vB vC v t.next :: pxL vL t.lp vs :: pxJ vB t.bound :: pxP vC t.cross :: pxJ vR t.rows :: pxJ v l :: (parO t.lp vs ++ X)) :=
    h1.perm (List.Perm.cons _ (List.Perm.cons _ (List.Perm.cons _ (List.Perm.cons _ (List.Perm.cons _ List.perm_middle)))))
  exact h2.sub (List.Sublist.cons_cons _ (List.Sublist.cons_cons _ (List.Sublist.cons_cons _ (List.Sublist.cons_cons _ (List.sublist_cons_self _ _)))))
theorem QcE.chart {B pb cb n N c : Nat} {t : Pw} {A : Option Addr} {X : List Own} {W : World} (h : QcE B pb t X W) (hm : chB cb n A N c ∈ X) : W.cell? ⟨cb, 0, none⟩ = some (.int .i64 (n : Int)) ∧ W.cell? ⟨cb, 1, none⟩ = some (.slice A N c) := by
  obtain ⟨g1, -⟩ := bxT_at (h.mem hm)
  exact ⟨g1 0 _ rfl, g1 1 _ rfl⟩
end Go.Proofs.YtbnddpknejgmhaaGreat
namespace Go.Proofs.YtbnddpknejgmhaaGreat
open Go.RowKit Go.Shelf Go.Sort
set_option maxRecDepth 100000

abbrev srtP (i : Nat) (R : List Int) : Pw := ⟨(List.range i).map fun j : Nat => ⟨0, (j : Int), [], false⟩, [], [], R, 0⟩
theorem face_at {p : List RowC} {i : Nat} {r : RowC} (h : p[i]? = some r) : (p.map faceL)[i]? = some (faceL r) := by rw [List.getElem?_map, h]; rfl
theorem face_kindQ {r : RowC} (h : ∀ s ∈ r.2, s.kind = 1 ∨ s.kind = 8) : ∀ s ∈ faceL r, s.kind = 1 ∨ s.kind = 8 := by
  intro s hs
  unfold faceL at hs
  split at hs
  · unfold turnedL at hs
    rw [List.mem_reverse, List.mem_map] at hs
    obtain ⟨x, hx, rfl⟩ := hs
    exact h x hx
  · exact h s hs
set_option maxHeartbeats 8000000 in
theorem pof_ok (start : Int) (A : Option Addr) (c : Nat) (p : List RowC) (hkb : ∀ r ∈ p, ∀ s ∈ r.2, s.kind = 1 ∨ s.kind = 8) (hw : RowsWf p) (he : chartE start p = 0) (h12 : p.length ≤ 12) (w : World) (hs : SlC w w.heap.size A p) :
    Calls Tryz.prog 27 #[.agg #[.int .i64 start, .slice A p.length c]] w fun e w' => OfOk (workP start.toNat (p.map faceL) p.length) w e w' := by
  obtain ⟨h0, hb0⟩ := of_start w start A p.length c
  have HSl : Hid (∀ W, Below w.heap.size w W → SlC W W.heap.size A p) := fun W hb => (hs.below hb).more hb.size
  have HX := Lib.hid (And.intro h0 hb0)
  have HKb := Lib.hid hkb
  clear hkb
  have HW := Lib.hid hw
  have HE := Lib.hid he
  have HCk : Hid (∀ W, Below w.heap.size w W → Calls Tryz.prog 23 #[.agg #[.int .i64 start, .slice A p.length c]] W fun e w' => e = .returned (.int .i64 0) ∧ Below W.heap.size W w') := fun W hb => by
    have h := ccheck_any start A c p HW.out W (HSl.out W hb)
    rw [HE.out] at h
    exact h
  have HFa : Hid (∀ (i : Nat) (r : RowC), p[i]? = some r → ∀ W, Below w.heap.size w W → Calls Tryz.prog 25 #[.agg #[.int .i64 start, .slice A p.length c], .int .i64 (i : Int)] W fun e w' => SnPost2 (faceL r) W e w') := fun i r hr W hb => face_own start A c p HW.out HE.out i r hr W (HSl.out W hb)
  have hwk := wk_chart he h12
  have hz := (chart_zero he).2.1
  obtain ⟨n, rfl⟩ : ∃ n : Nat, start = (n : Int) := ⟨start.toNat, by omega⟩
  rw [Int.toNat_natCast] at hwk ⊢
  have HWk := Lib.hid hwk
  have hn200 : n ≤ 200 := hwk.start
  obtain ⟨fs, hfs⟩ : ∃ fs, fs = p.map faceL := ⟨_, rfl⟩
  have HFs := Lib.hid hfs
  rw [← hfs] at HWk ⊢
  obtain ⟨N, hN⟩ : ∃ N, N = p.length := ⟨_, rfl⟩
  have HNe := Lib.hid hN
  rw [← hN] at HX HCk HFa h12 ⊢
  clear h0 hb0 hs hw he hwk hz hfs hN HSl
  go_enter Tryz.func27, Tryz.ntmps27
  go_upto_region 1 with fail
  obtain ⟨pb, hpb⟩ : ∃ pb, pb = w.heap.size + 1 := ⟨_, rfl⟩
  obtain ⟨cb, hcb⟩ : ∃ cb, cb = w.heap.size := ⟨_, rfl⟩
  rw [← hpb, ← hcb] at HX
  refine abs_world (Q := fun W => Code.wp _ _ _ _ W) (F := fun W => QcE w.heap.size pb ⟨[], [], [], [], 0⟩ [chB cb n A N c] W ∧ Below w.heap.size w W) _ (by rw [← hcb]; exact ⟨⟨_, _, _, _, _, HX.out.1⟩, HX.out.2⟩) ?_
  rw [← hpb, show (Value.pointer (some ⟨w.heap.size, 0, none⟩)) = Value.pointer (some ⟨cb, 0, none⟩) by rw [hcb]]
  clear HX hpb hcb
  rintro W1 ⟨h1, hb1⟩
  obtain ⟨z0, z1⟩ := h1.chart List.mem_cons_self
  have HC := Lib.hid (HCk.out W1 hb1)
  have HX1 := Lib.hid (And.intro h1 hb1)
  clear h1 hb1 HCk
  go_upto_region 2 with (go_at_call 23; refine HC.out.mono ?_; rintro e w1 ⟨rfl, hb2⟩)
  refine abs_world (Q := fun W => Code.wp _ _ _ _ W) (F := fun W => QcE w.heap.size pb (srtP 0 []) [chB cb n A N c] W ∧ Below w.heap.size w W) _ ⟨HX1.out.1.to hb2, HX1.out.2.trans (hb2.mono HX1.out.2.size)⟩ ?_
  clear hb2 HX1 HC z0 z1
  clear w1
  rintro W2 ⟨h2, hb2⟩
  obtain ⟨z0, z1⟩ := h2.chart List.mem_cons_self
  have HX2 := Lib.hid (And.intro h2 hb2)
  clear h2 hb2
  go_wp2
  go_loopw [5, 19] (fun s5 s19 wr => ∃ (i : Nat) (v5 : Value), i ≤ n ∧ s19 = .int .i64 (i : Int) ∧ v5 = s5 ∧ Hid (QcE w.heap.size pb (srtP i []) [chB cb n A N c] wr ∧ Below w.heap.size w wr)) (fun _ s19 _ => n - (intOf s19).toNat)
  case atStart => exact ⟨0, _, Nat.zero_le _, rfl, rfl, HX2.out⟩
  case round =>
    obtain ⟨i, v5, hi, rfl, rfl, HX⟩ := hrel
    clear HX2 z0 z1
    obtain ⟨W3, hW3⟩ : ∃ x : World, x = wr := ⟨_, rfl⟩
    rw [← hW3] at HX ⊢
    clear hW3
    have hBs : w.heap.size ≤ W3.heap.size := HX.out.2.size
    obtain ⟨z0, z1⟩ := HX.out.1.chart List.mem_cons_self
    by_cases hlt : i < n
    case pos =>
      have d1 : decide ((i : Int) < (n : Int)) = true := decide_eq_true (by omega)
      have d1' : decide (i < n) = true := decide_eq_true hlt
      obtain ⟨vL, vB, vC, vR, vs, hP⟩ := HX.out.1.nil
      obtain ⟨a0, c0, rfl⟩ := hP.forms.1
      have y0 := hP.cells.1
      simp only [List.length_map, List.length_range] at y0 hP
      obtain ⟨A', c', w', hr9, hf, y0', hQ, hb2⟩ := QcA.push (l := ⟨0, (i : Int), [], false⟩) (t := srtP i []) (a := a0) (c := c0) (by simpa using hP) hBs (by simp; omega)
      simp only [List.length_map, List.length_range] at hr9 y0' hQ hb2
      have hr : (Builtin.append_ #[32, 32] 32 #[.slice a0 i c0, .slice (some ⟨W3.heap.size, 0, none⟩) 1 1]).run Tryz.prog (W3.alloc (.cells #[.int .i64 0, .int .i64 (i : Int), .slice none 0 0, .bool false] 49)) = .ok (.slice A' (i + 1) c') w' := hr9
      have HQ : Hid (QcE w.heap.size pb (srtP (i + 1) []) [chB cb n A N c] (w'.setCell ⟨pb, 0, none⟩ (.slice A' (i + 1) c')) ∧ Below w.heap.size w (w'.setCell ⟨pb, 0, none⟩ (.slice A' (i + 1) c'))) := by
        have e : ((List.range i).map fun j : Nat => (⟨0, (j : Int), [], false⟩ : Lp)) ++ [⟨0, (i : Int), [], false⟩] = (List.range (i + 1)).map fun j : Nat => ⟨0, (j : Int), [], false⟩ := by rw [List.range_succ, List.map_append]; rfl
        unfold srtP
        rw [← e]
        exact ⟨⟨_, _, _, _, _, hQ⟩, HX.out.2.trans hb2⟩
      have hf0 := hf 0
      clear hP hQ hb2 hf hr9 HX hBs
      go_wp2_with (at_builtin; refine wpList_append_run _ rfl _ _ _ _ rfl _ _ (by rfl) (by rfl) hr ?_)
      go_roundw
      case rel => exact ⟨i + 1, _, by omega, by go_num, rfl, HQ.out⟩
      case measure => simp [intOf]; omega
    case neg =>
      have d1 : decide ((i : Int) < (n : Int)) = false := decide_eq_false (by omega)
      have d1' : decide (i < n) = false := decide_eq_false hlt
      have hin : i = n := by omega
      have hX := HX.out.1
      rw [hin] at hX
      have hal := al_t W3 (.cells #[.int .i64 0, .int .i64 (n : Int)] 3)
      obtain ⟨vL, vB, vC, vR, vs, hP⟩ := hX.add hal hBs (lit_own W3 [0, (n : Int)] (by simp))
      obtain ⟨hQ, hb2⟩ := hP.layR (Nat.le_trans hBs hal.size)
      obtain ⟨-, y1, -, -, -, yf, -⟩ := hP.cells
      have HQ : Hid (QcE w.heap.size pb (workP n fs 0) [chB cb n A N c] ((W3.alloc (.cells #[.int .i64 0, .int .i64 (n : Int)] 3)).setCell ⟨pb, 1, none⟩ (.slice (some ⟨W3.heap.size, 0, none⟩) 2 2)) ∧ Below w.heap.size w ((W3.alloc (.cells #[.int .i64 0, .int .i64 (n : Int)] 3)).setCell ⟨pb, 1, none⟩ (.slice (some ⟨W3.heap.size, 0, none⟩) 2 2))) := ⟨⟨_, _, _, _, _, hQ⟩, HX.out.2.trans ((hal.mono hBs).trans hb2)⟩
      have yf1 := yf 1
      clear hP hQ hb2 hal hX HX hin yf
      go_upto_region 10 with fail
      refine abs_world (Q := fun W => Code.wp _ _ _ _ W) (F := fun W => QcE w.heap.size pb (workP n fs 0) [chB cb n A N c] W ∧ Below w.heap.size w W) _ HQ.out ?_
      clear HQ yf1 y1 d1 d1' hi hlt z0 z1
      rintro W4 ⟨h4, hb4⟩
      obtain ⟨z0, z1⟩ := h4.chart List.mem_cons_self
      have HX4 := Lib.hid (And.intro h4 hb4)
      clear h4 hb4
      go_wp2
      go_loopw [6, 7, 8, 9, 10, 37] (fun s6 s7 s8 s9 s10 s37 wr => ∃ (i : Nat) (v6 v7 v8 v9 v10 : Value), i ≤ N ∧ s37 = .int .i64 (i : Int) ∧ v6 = s6 ∧ v7 = s7 ∧ v8 = s8 ∧ v9 = s9 ∧ v10 = s10 ∧ Hid (QcE w.heap.size pb (workP n fs i) [chB cb n A N c] wr ∧ Below w.heap.size w wr)) (fun _ _ _ _ _ s37 _ => N - (intOf s37).toNat)
      case atStart => exact ⟨0, _, _, _, _, _, Nat.zero_le _, rfl, rfl, rfl, rfl, rfl, rfl, HX4.out⟩
      case round =>
        obtain ⟨i, v6, v7, v8, v9, v10, hi, rfl, rfl, rfl, rfl, rfl, rfl, HX5⟩ := hrel
        clear HX4 z0 z1
        obtain ⟨W5, hW5⟩ : ∃ x : World, x = wr := ⟨_, rfl⟩
        rw [← hW5] at HX5 ⊢
        clear hW5
        obtain ⟨z0, z1⟩ := HX5.out.1.chart List.mem_cons_self
        by_cases hlt : i < N
        case neg =>
          have d1 : decide ((i : Int) < (N : Int)) = false := decide_eq_false (by omega)
          have d1' : decide (i < N) = false := decide_eq_false hlt
          have hin : i = N := by omega
          have hX6 := HX5.out
          rw [hin] at hX6
          obtain ⟨⟨vL, vB, vC, vR, vs, hP⟩, hb⟩ := hX6
          obtain ⟨y0, y1, y2, y3, y4, yf, -, -⟩ := hP.cells
          obtain ⟨⟨va, wa, rfl⟩, ⟨vb, wb, rfl⟩, ⟨vc, wc, rfl⟩, vd, wd, rfl⟩ := hP.forms
          obtain ⟨⟨t0, t1, t2, t3, t4⟩, hO⟩ := hP.relay rfl hb
          have HT := Lib.hid (And.intro t0 (And.intro t1 (And.intro t2 (And.intro t3 t4))))
          have HO := Lib.hid hO
          clear hP hb hO t0 t1 t2 t3 t4 HX5 hin
          go_wp2
          (try simp only [Exit.inBlock, Exit.then])
          refine lof_close HT.out.1 HT.out.2.1 HT.out.2.2.1 HT.out.2.2.2.1 HT.out.2.2.2.2 ?_ ?_ HO.out <;> rfl
        case pos =>
          have d1 : decide ((i : Int) < (N : Int)) = true := decide_eq_true (by omega)
          have d1' : decide (i < N) = true := decide_eq_true hlt
          have hip : i < p.length := by have := HNe.out; omega
          obtain ⟨r, hr⟩ : ∃ r, p[i]? = some r := ⟨_, List.getElem?_eq_getElem hip⟩
          have hf := face_at hr
          rw [← HFs.out] at hf
          have HSi := Lib.hid (HFa.out i r hr W5 HX5.out.2)
          have hi12 : i ≤ 12 := by omega
          obtain ⟨f, hfe⟩ : ∃ f, f = faceL r := ⟨_, rfl⟩
          have HFr : Hid (∀ s ∈ f, s.kind = 1 ∨ s.kind = 8) := by rw [hfe]; exact face_kindQ (HKb.out r (List.mem_of_getElem? hr))
          rw [← hfe] at hf HSi
          have HRow := Lib.hid (HWk.out.row i f hf)
          have HInv := Lib.hid (HWk.out.inv i (by have := (List.getElem?_eq_some_iff.1 hf).1; omega))
          have HNx := Lib.hid (workP_next (n := n) hf)
          obtain ⟨T, hT⟩ : ∃ T, T = workP n fs i := ⟨_, rfl⟩
          rw [← hT] at HX5 HRow HInv HNx
          have HF : Hid (∀ v w6, (pxS v f).lies w6 W5.heap.size → Below W5.heap.size W5 w6 → QcE w.heap.size pb T (pxS v f :: [chB cb n A N c]) w6 ∧ Below w.heap.size w w6) := fun v w6 h1 h2 => ⟨HX5.out.1.add h2 HX5.out.2.size h1, HX5.out.2.trans (h2.mono HX5.out.2.size)⟩
          obtain ⟨L, hL⟩ : ∃ L, L = f.length := ⟨_, rfl⟩
          have HLe := Lib.hid hL
          have hL200 : L ≤ 200 := by have := HRow.out.2.1; omega
          clear hT hf hr hfe HX5 hL hip
          go_upto_region 14 with (go_at_call 25; refine HSi.out.mono ?_; rintro e w6 ⟨v, rfl, hv, hb6⟩; obtain ⟨fa, fc, rfl⟩ := pxS_is hv HLe.out.symm)
          refine abs_world (Q := fun W => Code.wp _ _ _ _ W) (F := fun W => QcE w.heap.size pb T (pxS (.slice fa L fc) f :: [chB cb n A N c]) W ∧ Below w.heap.size w W) _ (HF.out _ _ hv hb6) ?_
          clear HF hv hb6 HSi d1 d1' z0 z1
          clear w6
          rintro W6 ⟨hX, hb⟩
          have HX6 : Hid (QcE w.heap.size pb (rowRun ((i : Int) + 1) f T 0) (pxS (.slice fa L fc) f :: [chB cb n A N c]) W6 ∧ Below w.heap.size w W6) := ⟨hX, hb⟩
          clear hX hb
          go_wp2
          go_loopw [9, 10, 48] (fun s9 s10 s48 wr => ∃ (k : Nat) (v9 v10 : Value), k ≤ L ∧ s48 = .int .i64 (k : Int) ∧ v9 = s9 ∧ v10 = s10 ∧ Hid (QcE w.heap.size pb (rowRun ((i : Int) + 1) f T k) (pxS (.slice fa L fc) f :: [chB cb n A N c]) wr ∧ Below w.heap.size w wr)) (fun _ _ s48 _ => L - (intOf s48).toNat)
          case atStart => exact ⟨0, _, _, Nat.zero_le _, rfl, rfl, rfl, HX6.out⟩
          case round =>
            obtain ⟨k, v9', v10', hk, rfl, rfl, rfl, HX7⟩ := hrel
            clear HX6
            obtain ⟨W7, hW7⟩ : ∃ x : World, x = wr := ⟨_, rfl⟩
            rw [← hW7] at HX7 ⊢
            clear hW7
            have hBs : w.heap.size ≤ W7.heap.size := HX7.out.2.size
            by_cases hkl : k < L
            case neg =>
              have d1 : decide ((k : Int) < (L : Int)) = false := decide_eq_false (by omega)
              have d1' : decide (k < L) = false := decide_eq_false hkl
              have hke : k = f.length := by have := HLe.out; omega
              have hX8 := HX7.out.1.lift (List.sublist_cons_self _ _)
              rw [hke] at hX8
              have hrl := (rowRun_len (row := (i : Int) + 1) (fun s hs => stc_k (HRow.out.1 s hs)) T f.length (Nat.le_refl _)).2.2
              have hll := (rowRun_len (row := (i : Int) + 1) (fun s hs => stc_k (HRow.out.1 s hs)) T f.length (Nat.le_refl _)).2.1
              have hinv := HInv.out.rl
              obtain ⟨t, ht⟩ : ∃ t, t = rowRun ((i : Int) + 1) f T f.length := ⟨_, rfl⟩
              rw [← ht] at hX8 hrl hll HNx
              obtain ⟨vL, vB, vC, vR, vs, hP⟩ := hX8
              obtain ⟨⟨a1, c1, rfl⟩, -, -, a0, c0, rfl⟩ := hP.forms
              obtain ⟨y0, y3, -⟩ := hP.cells
              obtain ⟨A', c', w', hr, hf, y3', hQ, hb2⟩ := hP.pushR hBs (by rw [hrl, hinv]; omega) (t.lp.length : Int)
              have HQ : Hid (QcE w.heap.size pb (workP n fs (i + 1)) [chB cb n A N c] (w'.setCell ⟨pb, 1, none⟩ (.slice A' (t.rows.length + 1) c')) ∧ Below w.heap.size w (w'.setCell ⟨pb, 1, none⟩ (.slice A' (t.rows.length + 1) c'))) := ⟨by rw [HNx.out]; exact ⟨_, _, _, _, _, hQ⟩, HX7.out.2.trans hb2⟩
              obtain ⟨R, hR⟩ : ∃ R, R = t.rows.length := ⟨_, rfl⟩
              obtain ⟨P, hPl⟩ : ∃ P, P = t.lp.length := ⟨_, rfl⟩
              rw [← hR] at hr y3 y3' HQ
              rw [← hPl] at hr y0
              have hf3 := hf 1
              clear hP hQ hb2 hf HX7 hke hrl hll hinv ht hR hPl hBs
              go_wp2_with (at_builtin; refine wpList_append_run _ rfl _ _ _ _ rfl _ _ (by rfl) (by rfl) hr ?_)
              go_roundw
              case rel => exact ⟨i + 1, _, _, _, _, _, by omega, by go_num, rfl, rfl, rfl, rfl, rfl, HQ.out⟩
              case measure => simp [intOf]; omega
            case pos =>
              have d1 : decide ((k : Int) < (L : Int)) = true := decide_eq_true (by omega)
              have d1' : decide (k < L) = true := decide_eq_true hkl
              have hfk : f[k]? = some (f[k]'(by have := HLe.out; omega)) := List.getElem?_eq_getElem _
              obtain ⟨s, hse⟩ : ∃ s, s = f[k]'(by have := HLe.out; omega) := ⟨_, rfl⟩
              rw [← hse] at hfk
              have HOk : Hid (s.ok = true) := HRow.out.1 s (List.mem_of_getElem? hfk)
              have HKs : Hid (s.kind = 1 ∨ s.kind = 8) := HFr.out s (List.mem_of_getElem? hfk)
              obtain ⟨g, gc, he⟩ := pxS_at (HX7.out.1.mem List.mem_cons_self) hfk HLe.out.symm
              cases he
              obtain ⟨q0, q1, q2, q3⟩ := pxS_cell (HX7.out.1.mem List.mem_cons_self) hfk
              have HNk := Lib.hid (rowRun_next (row := (i : Int) + 1) (t := T) hfk)
              have hKs := fun s hs => stc_k (HRow.out.1 s hs)
              obtain ⟨l1, l2, -⟩ := rowRun_len (row := (i : Int) + 1) hKs T k (by have := HLe.out; omega)
              obtain ⟨l3, l4⟩ := rowRun_bc (row := (i : Int) + 1) hKs T k (by have := HLe.out; omega)
              obtain ⟨u1, u2⟩ := sumU_le hKs hfk
              have o5 := HRow.out.2.2.2.2
              have o3 := HRow.out.2.2.1
              have hm0 := sumM_nonneg hKs k
              have hm1 := sumM_le hKs k
              have o4 := HRow.out.2.2.2.1
              have i1 := HInv.out.ll
              have i2 := HInv.out.bl
              have i3 := HInv.out.cl
              have hu0 := (stc_k HOk.out).nat
              obtain ⟨t, ht⟩ : ∃ t, t = rowRun ((i : Int) + 1) f T k := ⟨_, rfl⟩
              rw [← ht] at HX7 HNk l1 l2 l3 l4
              have HAt : Hid (t.next + (usesS s).toNat ≤ t.lp.length ∧ t.lp.length ≤ 50000 ∧ t.bound.length ≤ 50000 ∧ t.cross.length ≤ 50000) := by
                refine ⟨?_, ?_, ?_, ?_⟩ <;> omega
              have hw1 : IntKind.i64.wrap ((i : Int) + 1) = (i : Int) + 1 := IntWalk.i64_in _ (by omega)
              have hkL : (k : Int) < (L : Int) := by omega
              have hk0 : (0 : Int) ≤ (k : Int) := by omega
              have hal := al_t W7 (.cells #[.int .u8 s.kind, .bool s.purl, .int .i64 s.a, .int .i64 s.b] 51)
              obtain ⟨sb, hsb⟩ : ∃ sb, sb = W7.heap.size := ⟨_, rfl⟩
              have HN := Lib.hid (And.intro (HX7.out.1.add hal hBs (bxT_new W7 51 s.cells)) (HX7.out.2.trans (hal.mono hBs)))
              rw [← hsb] at HN
              clear HX7 hal hBs hse hfk ht l1 l2 l3 l4 u1 u2 o5 o3 o4 hm0 hm1 i1 i2 i3 hu0 hKs
              go_upto_region 17 with fail
              refine abs_world (Q := fun W => Code.wp _ _ _ _ W) (F := fun W => QcE w.heap.size pb t (stB sb s :: pxS (.slice (some ⟨g, 0, none⟩) L fc) f :: [chB cb n A N c]) W ∧ Below w.heap.size w W) _ HN.out ?_
              rw [← hsb]
              clear HN hsb q0 q1 q2 q3
              rintro W8 ⟨h8, hb8⟩
              obtain ⟨q0, q1, q2, q3⟩ := stB_at (h8.mem List.mem_cons_self)
              have HWo := Lib.hid (pwork_any w.heap.size pb t ((i : Int) + 1) (k : Int) s HOk.out HKs.out _ HAt.out.1 HAt.out.2.1 HAt.out.2.2.1 HAt.out.2.2.2 W8 h8 hb8.size)
              have HWp : Hid (Calls Tryz.prog 51 #[.pointer (some ⟨pb, 0, none⟩), .int .i64 ((i : Int) + 1), .int .i64 (k : Int), .agg #[.int .u8 s.kind, .bool s.purl, .int .i64 s.a, .int .i64 s.b]] W8 fun e w' => WoPost w.heap.size pb (stepC ((i : Int) + 1) (k : Int) s t) (stB sb s :: pxS (.slice (some ⟨g, 0, none⟩) L fc) f :: [chB cb n A N c]) W8 e w') := HWo.out
              have HB8 := Lib.hid hb8
              clear h8 hb8 HWo
              go_wp2_with (go_at_call 51; refine HWp.out.mono ?_; rintro e w9 ⟨rfl, h9, hb9⟩)
              have HQ : Hid (QcE w.heap.size pb (rowRun ((i : Int) + 1) f T (k + 1)) (pxS (.slice (some ⟨g, 0, none⟩) L fc) f :: [chB cb n A N c]) w9 ∧ Below w.heap.size w w9) := by
                rw [HNk.out]
                exact ⟨h9.lift (List.sublist_cons_self _ _), HB8.out.trans hb9⟩
              clear h9 hb9 HWp HB8 HNk
              go_roundw
              case rel => exact ⟨k + 1, _, _, by omega, by go_num, rfl, rfl, HQ.out⟩
              case measure => simp [intOf]; omega
end Go.Proofs.YtbnddpknejgmhaaGreat
namespace Go.Proofs.YtbnddpknejgmhaaGreat
open Go.RowKit Go.Shelf
set_option maxRecDepth 100000

/-- A slice of loops: the cells of each, its parents. -/
def SlL (w : World) (B : Nat) (A : Option Addr) (L : List Lp) : Prop := L ≠ [] → ∃ b off, A = some ⟨b, off, none⟩ ∧ b < B ∧ ∀ (j : Nat) (l : Lp), L[j]? = some l → ∃ (A' : Option Addr) (C' : Nat), w.cell? ⟨b, off + j * 4, none⟩ = some (.int .i64 l.row) ∧ w.cell? ⟨b, off + j * 4 + 1, none⟩ = some (.int .i64 l.cell) ∧ w.cell? ⟨b, off + j * 4 + 2, none⟩ = some (.slice A' l.par.length C') ∧ w.cell? ⟨b, off + j * 4 + 3, none⟩ = some (.bool l.purl) ∧ SlI w B A' l.par
theorem SlL.below {w w' : World} {B : Nat} {A : Option Addr} {L : List Lp} (h : SlL w B A L) (hb : Below B w w') : SlL w' B A L := fun hn => by
  obtain ⟨b, off, e, hB, hc⟩ := h hn
  refine ⟨b, off, e, hB, fun j l hl => ?_⟩
  obtain ⟨A', C', h0, h1, h2, h3, h4⟩ := hc j l hl
  exact ⟨A', C', (bcell hb hB _).trans h0, (bcell hb hB _).trans h1, (bcell hb hB _).trans h2, (bcell hb hB _).trans h3, h4.below hb⟩
theorem SlL.more {w : World} {B B' : Nat} {A : Option Addr} {L : List Lp} (h : SlL w B A L) (hB' : B ≤ B') : SlL w B' A L := fun hn => by
  obtain ⟨b, off, e, hB, hc⟩ := h hn
  refine ⟨b, off, e, Nat.lt_of_lt_of_le hB hB', fun j l hl => ?_⟩
  obtain ⟨A', C', h0, h1, h2, h3, h4⟩ := hc j l hl
  exact ⟨A', C', h0, h1, h2, h3, h4.more hB'⟩
theorem SlL.nil {w : World} {B : Nat} {A : Option Addr} : SlL w B A [] := fun h => absurd rfl h
theorem SlL.at_ {w : World} {B : Nat} {A : Option Addr} {L : List Lp} (h : SlL w B A L) {j : Nat} (hj : j < L.length) :
    ∃ b off l A' C', A = some ⟨b, off, none⟩ ∧ b < B ∧ L[j]? = some l ∧ w.cell? ⟨b, off + j * 4, none⟩ = some (.int .i64 l.row) ∧ w.cell? ⟨b, off + j * 4 + 1, none⟩ = some (.int .i64 l.cell) ∧ w.cell? ⟨b, off + j * 4 + 2, none⟩ = some (.slice A' l.par.length C') ∧ w.cell? ⟨b, off + j * 4 + 3, none⟩ = some (.bool l.purl) ∧ SlI w B A' l.par := by
  obtain ⟨b, off, e, hB, hc⟩ := h (fun e => by subst e; simp at hj)
  have hl : L[j]? = some L[j] := List.getElem?_eq_getElem hj
  obtain ⟨A', C', h0, h1, h2, h3, h4⟩ := hc j _ hl
  exact ⟨b, off, _, A', C', e, hB, hl, h0, h1, h2, h3, h4⟩
/-- Loops that a call owns, and their parents: read. -/
theorem slL_of {w : World} {B n c : Nat} {a : Option Addr} {L : List Lp} {vs : List Value} {R : List Own} (h : Owns w B (pxL (.slice a n c) L vs :: R)) (hn : n = L.length) (hv : vs.length = L.length) (hp : ∀ o ∈ parO L vs, o.lies w B) : SlL w w.heap.size a L := fun hne => by
  subst hn
  cases L with
  | nil => exact absurd rfl hne
  | cons l0 L0 =>
    obtain ⟨g, c', u, e, -, -⟩ := pxL_at h hv (j := 0) rfl
    cases e
    refine ⟨g, 0, rfl, ?_, fun j l hl => ?_⟩
    · obtain ⟨g2, c2, u2, e2, -, k0, -⟩ := pxL_at h hv (j := 0) rfl
      cases e2
      exact lt_of_cell k0
    · obtain ⟨g2, c2, u2, e2, hu, k0, k1, k2, k3⟩ := pxL_at h hv hl
      cases e2
      have hx := hp _ (parO_at hl hu)
      obtain ⟨A', C', rfl⟩ := pxJ_is hx rfl
      simp only [Nat.zero_add]
      exact ⟨A', C', k0, k1, k2, k3, pxJ_lies hx⟩
end Go.Proofs.YtbnddpknejgmhaaGreat
