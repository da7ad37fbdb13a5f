/- Layer 27: the reference's Work. -/
import Derived.Test.YtbnddpknejgmhaaGreatKP31
import Derived.Test.YtbnddpknejgmhaaGreatKP17
namespace Go.Proofs.YtbnddpknejgmhaaGreat
open Go.RowKit Go.Shelf Go.Sort
set_option maxRecDepth 100000

abbrev nilV : Value := .slice none 0 0
def chB (cb : Nat) (n : Nat) (A : Option Addr) (len c : Nat) : Own := bxT 24 cb [.int .i64 (n : Int), .slice A len c]
def rsB (rb : Nat) (a b c d : Value) : Own := bxT 46 rb [a, b, c, d]
theorem PcE.new {B : Nat} {X : List Own} {W : World} (h : Owns W B X) (hB : B ≤ W.heap.size) : PcE B W.heap.size ⟨[], [], [], [], 0⟩ X (W.alloc (.cells #[nilV, nilV, nilV, nilV] 46)) := by
  have h4 := (((h.none 3 1).none 123 2).none 3 1).none 49 4
  exact ⟨nilV, nilV, nilV, nilV, [], h4.add (o := pcO W.heap.size nilV nilV nilV nilV) (al_t W _) hB (bxT_new W _ _), rfl⟩
theorem PcE.add {B pb : Nat} {t : Pw} {X : List Own} {W W' : World} {o : Own} (h : PcE B pb t X W) (hb : Below W.heap.size W W') (hB : B ≤ W.heap.size) (ho : o.lies W' W.heap.size) : PcE B pb t (o :: X) W' := by
  obtain ⟨vL, vB, vC, vR, vs, h⟩ := h
  exact ⟨vL, vB, vC, vR, vs, h.add hb hB ho⟩
/-- What Work hands back. -/
def WkPost (t : Pw) (w : World) (e : Ending) (w' : World) : Prop := ∃ vL vB vC vR vs, e = .returned (.agg #[vL, vB, vC, vR]) ∧ vs.length = t.lp.length ∧ Owns w' w.heap.size (pxL vL t.lp vs :: pxJ vB t.bound :: pxP vC t.cross :: pxJ vR t.rows :: parO t.lp vs) ∧ Below w.heap.size w w'
theorem wk_close {W : World} {tmps : Array Value} {a b c d : Value} {g : Nat} {R : Ending → World → Prop} (c0 : W.cell? ⟨g, 0, none⟩ = some a) (c1 : W.cell? ⟨g, 1, none⟩ = some b) (c2 : W.cell? ⟨g, 2, none⟩ = some c) (c3 : W.cell? ⟨g, 3, none⟩ = some d) (h6 : tmps[2]?.getD undef = .pointer (some ⟨g, 0, none⟩)) (hR : R (.returned (.agg #[a, b, c, d])) W) :
    bodyPost Tryz.prog Tryz.f12 R .ret { tmps := tmps, defers := [] } W := by
  refine bodyPost_ret (v := .agg #[a, b, c, d]) ?_ rfl hR
  simp [results, Tryz.results12, go_sem, h6, c0, c1, c2, c3]
/-- The piece is laid into the result's box. -/
theorem PcA.lay {B pb rb : Nat} {t : Pw} {vL vB vC vR a b c d : Value} {vs : List Value} {X : List Own} {W w : World} (h : PcA B pb t vL vB vC vR vs (rsB rb a b c d :: X) W) (hB : B = w.heap.size) (hb : Below B w W) :
    (((((W.setCell ⟨rb, 0, none⟩ vL).setCell ⟨rb, 1, none⟩ vB).setCell ⟨rb, 2, none⟩ vC).setCell ⟨rb, 3, none⟩ vR).cell? ⟨rb, 0, none⟩ = some vL ∧ ((((W.setCell ⟨rb, 0, none⟩ vL).setCell ⟨rb, 1, none⟩ vB).setCell ⟨rb, 2, none⟩ vC).setCell ⟨rb, 3, none⟩ vR).cell? ⟨rb, 1, none⟩ = some vB ∧
    ((((W.setCell ⟨rb, 0, none⟩ vL).setCell ⟨rb, 1, none⟩ vB).setCell ⟨rb, 2, none⟩ vC).setCell ⟨rb, 3, none⟩ vR).cell? ⟨rb, 2, none⟩ = some vC ∧ ((((W.setCell ⟨rb, 0, none⟩ vL).setCell ⟨rb, 1, none⟩ vB).setCell ⟨rb, 2, none⟩ vC).setCell ⟨rb, 3, none⟩ vR).cell? ⟨rb, 3, none⟩ = some vR) ∧
    WkPost t w (.returned (.agg #[vL, vB, vC, vR])) ((((W.setCell ⟨rb, 0, none⟩ vL).setCell ⟨rb, 1, none⟩ vB).setCell ⟨rb, 2, none⟩ vC).setCell ⟨rb, 3, none⟩ vR) := by
  subst hB
  have h0 := h.front
  have h1 := bxT_set h0 0 vL
  have h2 := bxT_set h1 1 vB
  have h3 := bxT_set h2 2 vC
  have h4 := bxT_set h3 3 vR
  obtain ⟨g1, -⟩ := bxT_at h4.head
  refine ⟨⟨g1 0 _ rfl, g1 1 _ rfl, g1 2 _ rfl, g1 3 _ rfl⟩, vL, vB, vC, vR, vs, rfl, h.vl, ?_, ?_⟩
  · exact h4.tail.tail.sub (List.Sublist.cons_cons _ (List.Sublist.cons_cons _ (List.Sublist.cons_cons _ (List.Sublist.cons_cons _ (List.sublist_append_left _ _)))))
  · have b1 := bxT_below h0 hb.size 0 vL
    have b2 := bxT_below h1 (Nat.le_trans hb.size b1.size) 1 vB
    have b3 := bxT_below h2 (Nat.le_trans hb.size (b1.trans b2).size) 2 vC
    have b4 := bxT_below h3 (Nat.le_trans hb.size ((b1.trans b2).trans b3).size) 3 vR
    exact hb.trans (((b1.trans b2).trans b3).trans b4)
theorem PcA.rows_at {B pb : Nat} {t : Pw} {vL vB vC vR : Value} {vs : List Value} {X : List Own} {W : World} (h : PcA B pb t vL vB vC vR vs X W) {i n : Nat} {x : Int} (hi : t.rows[i]? = some x) (hn : t.rows.length = n) : ∃ g c, vR = .slice (some ⟨g, 0, none⟩) n c ∧ W.cell? ⟨g, i, none⟩ = some (.int .i64 x) := pxJ_at h.own.tail.tail.tail.tail.head hi hn
set_option maxHeartbeats 16000000 in
theorem rwork_any (n : Nat) (A : Option Addr) (c : Nat) (p : List RowC) (fs : List (List Stc)) (hlen : fs.length = p.length) (hwk : WkOk n fs) (w : World) (hs : SlC w w.heap.size A p)
    (HSeen : ∀ (k : Nat) (r : RowC) (f : List Stc), p[k]? = some r → fs[k]? = some f → ∀ (W : World) (A : Option Addr) (c : Nat), SlT W W.heap.size A r.2 → Calls Tryz.prog 13 #[.agg #[.bool r.1, .slice A r.2.length c]] W fun e w' => SnPost f W e w') :
    Calls Tryz.prog 12 #[.agg #[.int .i64 (n : Int), .slice A p.length c]] w fun e w' => WkPost (workP n fs p.length) w e w' := by
  have hb1 := al_t w (.cells #[.int .i64 (n : Int), .slice A p.length c] 24)
  have h1 : Owns (w.alloc (.cells #[.int .i64 (n : Int), .slice A p.length c] 24)) w.heap.size [chB w.heap.size n A p.length c] := Owns.nil.add hb1 (Nat.le_refl _) (bxT_new w _ _)
  obtain ⟨w1, hw1⟩ : ∃ x, x = w.alloc (.cells #[.int .i64 (n : Int), .slice A p.length c] 24) := ⟨_, rfl⟩
  have hsz1 : w1.heap.size = w.heap.size + 1 := by rw [hw1]; simp
  rw [← hw1] at h1 hb1
  have hb2 := al_t w1 (.cells #[nilV, nilV, nilV, nilV] 46)
  have h2 : Owns (w1.alloc (.cells #[nilV, nilV, nilV, nilV] 46)) w.heap.size [rsB w1.heap.size nilV nilV nilV nilV, chB w.heap.size n A p.length c] := h1.add hb2 hb1.size (bxT_new w1 _ _)
  obtain ⟨w2, hw2⟩ : ∃ x, x = w1.alloc (.cells #[nilV, nilV, nilV, nilV] 46) := ⟨_, rfl⟩
  have hsz2 : w2.heap.size = w.heap.size + 1 + 1 := by rw [hw2]; simp [hsz1]
  rw [← hw2] at h2 hb2
  have hb12 := hb1.trans (hb2.mono hb1.size)
  have hb3 := al_t w2 (.cells #[nilV, nilV, nilV, nilV] 46)
  have h3 := PcE.new h2 hb12.size
  have hX : PcE w.heap.size (w.heap.size + 1 + 1) ⟨[], [], [], [], 0⟩ [rsB (w.heap.size + 1) nilV nilV nilV nilV, chB w.heap.size n A p.length c] (((w.alloc (.cells #[.int .i64 (n : Int), .slice A p.length c] 24)).alloc (.cells #[nilV, nilV, nilV, nilV] 46)).alloc (.cells #[nilV, nilV, nilV, nilV] 46)) := by
    rw [← hw1, ← hw2, ← hsz2, ← hsz1]; exact h3
  have hXb : Below w.heap.size w (((w.alloc (.cells #[.int .i64 (n : Int), .slice A p.length c] 24)).alloc (.cells #[nilV, nilV, nilV, nilV] 46)).alloc (.cells #[nilV, nilV, nilV, nilV] 46)) := by
    rw [← hw1, ← hw2]; exact hb12.trans (hb3.mono hb12.size)
  have HX := Lib.hid (And.intro hX hXb)
  have HSn := Lib.hid HSeen
  have HWk := Lib.hid hwk
  have HSl : Hid (∀ W, Below w.heap.size w W → SlC W W.heap.size A p) := fun W hb => (hs.below hb).more hb.size
  have hn200 := hwk.start
  have hp12 : p.length ≤ 12 := by have := hwk.few; omega
  obtain ⟨N, hN⟩ : ∃ N, N = p.length := ⟨_, rfl⟩
  have HNe := Lib.hid hN
  rw [← hN] at HX hp12 ⊢
  clear h1 h2 h3 hb1 hb2 hb3 hb12 hsz1 hsz2 hw1 hw2 hX hXb hs HSeen hwk hN w1 w2
  go_enter Tryz.func12, Tryz.ntmps12
  go_upto_region 2 with fail
  obtain ⟨rb, hrb⟩ : ∃ rb, rb = w.heap.size + 1 := ⟨_, rfl⟩
  obtain ⟨pb, hpb⟩ : ∃ pb, pb = w.heap.size + 1 + 1 := ⟨_, rfl⟩
  obtain ⟨cb, hcb⟩ : ∃ cb, cb = w.heap.size := ⟨_, rfl⟩
  have HX2 : Hid (PcE w.heap.size pb ⟨[], [], [], [], 0⟩ [rsB rb nilV nilV nilV nilV, chB cb n A N c] (((w.alloc (.cells #[.int .i64 (n : Int), .slice A N c] 24)).alloc (.cells #[nilV, nilV, nilV, nilV] 46)).alloc (.cells #[nilV, nilV, nilV, nilV] 46))) := by
    rw [hpb, hrb, hcb]; exact HX.out.1
  refine abs_world (Q := fun W => Code.wp _ _ _ _ W) (F := fun W => PcE w.heap.size pb ⟨[], [], [], [], 0⟩ [rsB rb nilV nilV nilV nilV, chB cb n A N c] W ∧ Below w.heap.size w W) _ ⟨HX2.out, HX.out.2⟩ ?_
  clear HX HX2
  rw [← hpb, ← hrb, show (Value.pointer (some ⟨w.heap.size, 0, none⟩)) = Value.pointer (some ⟨cb, 0, none⟩) by rw [hcb]]
  clear hpb hrb hcb
  rintro W1 ⟨hX, hb⟩
  have HB1 := Lib.hid hb
  have hBs := hb.size
  clear hb
  obtain ⟨vL, vB, vC, vR, vs, hP⟩ := hX
  obtain ⟨-, -, -, a0, c0, rfl⟩ := hP.forms
  obtain ⟨-, -, -, y3, -⟩ := hP.cells
  obtain ⟨A', c', w', hr, hf, y3', hQ, hb2⟩ := hP.pushR hBs (by decide) 0
  have HQ : Hid (PcE w.heap.size pb ⟨[], [], [], [0], 0⟩ [rsB rb nilV nilV nilV nilV, chB cb n A N c] (w'.setCell ⟨pb, 3, none⟩ (.slice A' 1 c')) ∧ Below w.heap.size w (w'.setCell ⟨pb, 3, none⟩ (.slice A' 1 c'))) := ⟨⟨_, _, _, _, _, hQ⟩, HB1.out.trans hb2⟩
  have hr2 : (Builtin.append_ #[43, 43] 43 #[.slice a0 0 c0, .slice (some ⟨W1.heap.size, 0, none⟩) 1 1]).run Tryz.prog (W1.alloc (.cells #[.int .i64 0] 3)) = .ok (.slice A' 1 c') w' := hr
  have y3a : W1.cell? ⟨pb, 3, none⟩ = some (.slice a0 0 c0) := y3
  have y3b : w'.cell? ⟨pb, 3, none⟩ = some (.slice a0 0 c0) := y3'
  have hf3 := hf 3
  clear hP hQ hb2 hr y3 y3' hf
  go_upto_region 3 with (at_builtin; refine wpList_append_run _ rfl _ _ _ _ rfl _ _ (by rfl) (by rfl) hr2 ?_)
  refine abs_world (Q := fun W => Code.wp _ _ _ _ W) (F := fun W => PcE w.heap.size pb ⟨[], [], [], [0], 0⟩ [rsB rb nilV nilV nilV nilV, chB cb n A N c] W ∧ Below w.heap.size w W) _ HQ.out ?_
  clear HQ hr2 y3a y3b hf3 hBs HB1
  rintro W2 ⟨hX, hb⟩
  have HX : Hid (PcE w.heap.size pb ⟨(List.range 0).map fun j : Nat => ⟨0, (j : Int), [], false⟩, [], [], [0], 0⟩ [rsB rb nilV nilV nilV nilV, chB cb n A N c] W2) := hX
  have HB2 := Lib.hid hb
  clear hX hb
  go_wp2
  go_loopw [4] (fun s4 wr => ∃ i : Nat, s4 = .int .i64 (i : Int) ∧ i ≤ n ∧ Hid (PcE w.heap.size pb ⟨(List.range i).map fun j : Nat => ⟨0, (j : Int), [], false⟩, [], [], [0], 0⟩ [rsB rb nilV nilV nilV nilV, chB cb n A N c] wr) ∧ Hid (Below w.heap.size w wr)) (fun s4 _ => n - (intOf s4).toNat)
  case atStart => exact ⟨0, rfl, Nat.zero_le _, HX.out, HB2.out⟩
  case round =>
    obtain ⟨i, rfl, hi, HX3, HB3⟩ := hrel
    clear HX HB2
    obtain ⟨W3, hW3⟩ : ∃ x : World, x = wr := ⟨_, rfl⟩
    rw [← hW3] at HX3 HB3 ⊢
    clear hW3
    have hBs : w.heap.size ≤ W3.heap.size := HB3.out.size
    obtain ⟨z0, z1⟩ : W3.cell? ⟨cb, 0, none⟩ = some (.int .i64 (n : Int)) ∧ W3.cell? ⟨cb, 1, none⟩ = some (.slice A N c) := by
      obtain ⟨g1, -⟩ := bxT_at (HX3.out.mem (List.mem_cons_of_mem _ List.mem_cons_self))
      exact ⟨g1 0 _ rfl, g1 1 _ rfl⟩
    by_cases hlt : i < n
    case pos =>
      have d1 : decide ((i : Int) < (n : Int)) = true := decide_eq_true (by omega)
      have d1' : decide (i < n) = true := decide_eq_true hlt
      have hc := rput_any w.heap.size pb _ 0 (i : Int) none 0 0 [] rfl false _ _ HX3.out.nil hBs (by simp only [List.length_map, List.length_range]; omega)
      have e : ((List.range i).map fun j : Nat => (⟨0, (j : Int), [], false⟩ : Lp)) ++ [⟨0, (i : Int), [], false⟩] = (List.range (i + 1)).map fun j : Nat => ⟨0, (j : Int), [], false⟩ := by rw [List.range_succ, List.map_append]; rfl
      simp only [e] at hc
      have HC := Lib.hid hc
      clear hc e HX3
      go_wp2_with ((go_at_call 35; refine HC.out.mono ?_; rintro e w2 ⟨rfl, hp2, hb2⟩))
      have HQ := Lib.hid (And.intro hp2 (HB3.out.trans hb2))
      clear hp2 hb2 HC
      go_roundw
      case rel => exact ⟨i + 1, by go_num, by omega, HQ.out.1, HQ.out.2⟩
      case measure => simp [intOf]; omega
    case neg =>
      have d1 : decide ((i : Int) < (n : Int)) = false := decide_eq_false (by omega)
      have d1' : decide (i < n) = false := decide_eq_false hlt
      have hin : i = n := by omega
      have hX4 := HX3.out
      rw [hin] at hX4
      obtain ⟨vL, vB, vC, vR, vs, hP⟩ := hX4
      obtain ⟨⟨a1, c1, rfl⟩, -, -, a0, c0, rfl⟩ := hP.forms
      obtain ⟨y0, -, -, y3, -⟩ := hP.cells
      simp only [List.length_map, List.length_range] at y0
      obtain ⟨A', c', w', hr, hf, y3', hQ, hb2⟩ := hP.pushR hBs (by simp) (n : Int)
      have HQ : Hid (PcE w.heap.size pb (workP n fs 0) [rsB rb nilV nilV nilV nilV, chB cb n A N c] (w'.setCell ⟨pb, 3, none⟩ (.slice A' 2 c')) ∧ Below w.heap.size w (w'.setCell ⟨pb, 3, none⟩ (.slice A' 2 c'))) := ⟨⟨_, _, _, _, _, hQ⟩, HB3.out.trans hb2⟩
      have hr2 : (Builtin.append_ #[43, 43] 43 #[.slice a0 1 c0, .slice (some ⟨W3.heap.size, 0, none⟩) 1 1]).run Tryz.prog (W3.alloc (.cells #[.int .i64 (n : Int)] 3)) = .ok (.slice A' 2 c') w' := hr
      have y3a : W3.cell? ⟨pb, 3, none⟩ = some (.slice a0 1 c0) := y3
      have y3b : w'.cell? ⟨pb, 3, none⟩ = some (.slice a0 1 c0) := y3'
      have hf3 := hf 3
      clear hP hQ hb2 hr y3 y3' hf HX3 hin
      go_upto_region 8 with (at_builtin; refine wpList_append_run _ rfl _ _ _ _ rfl _ _ (by rfl) (by rfl) hr2 ?_)
      refine abs_world (Q := fun W => Code.wp _ _ _ _ W) (F := fun W => PcE w.heap.size pb (workP n fs 0) [rsB rb nilV nilV nilV nilV, chB cb n A N c] W ∧ Below w.heap.size w W) _ HQ.out ?_
      clear HQ hr2 y3a y3b hf3 hBs HB3 y0 z0 z1 d1 d1' hi hlt
      rintro W4 ⟨hX, hb⟩
      have HX4 := Lib.hid hX
      have HB4 := Lib.hid hb
      clear hX hb
      go_wp2
      go_loopw [5] (fun s5 wr => ∃ i : Nat, s5 = .int .i64 (i : Int) ∧ i ≤ N ∧ Hid (PcE w.heap.size pb (workP n fs i) [rsB rb nilV nilV nilV nilV, chB cb n A N c] wr) ∧ Hid (Below w.heap.size w wr)) (fun s5 _ => N - (intOf s5).toNat)
      case atStart => exact ⟨0, rfl, Nat.zero_le _, HX4.out, HB4.out⟩
      case round =>
        obtain ⟨i, rfl, hi, HX5, HB5⟩ := hrel
        clear HX4 HB4
        obtain ⟨W5, hW5⟩ : ∃ x : World, x = wr := ⟨_, rfl⟩
        rw [← hW5] at HX5 HB5 ⊢
        clear hW5
        obtain ⟨z0, z1⟩ : W5.cell? ⟨cb, 0, none⟩ = some (.int .i64 (n : Int)) ∧ W5.cell? ⟨cb, 1, none⟩ = some (.slice A N c) := by
          obtain ⟨g1, -⟩ := bxT_at (HX5.out.mem (List.mem_cons_of_mem _ List.mem_cons_self))
          exact ⟨g1 0 _ rfl, g1 1 _ rfl⟩
        by_cases hlt : i < N
        case neg =>
          have d1 : decide ((i : Int) < (N : Int)) = false := decide_eq_false (by omega)
          have d1' : decide (i < N) = false := decide_eq_false hlt
          have hin : i = N := by omega
          have hX6 := HX5.out
          rw [hin] at hX6
          obtain ⟨vL, vB, vC, vR, vs, hP⟩ := hX6
          obtain ⟨⟨va, wa, rfl⟩, ⟨vb, wb, rfl⟩, ⟨vc, wc, rfl⟩, vd, wd, rfl⟩ := hP.forms
          obtain ⟨y0, y1, y2, y3, -⟩ := hP.cells
          obtain ⟨g1, g2, -⟩ := bxT_at (show (rsB rb nilV nilV nilV nilV).lies W5 w.heap.size from hP.own.all _ (by simp))
          obtain ⟨⟨t0, t1, t2, t3⟩, hL⟩ := hP.lay rfl HB5.out
          have HL := Lib.hid hL
          have HT := Lib.hid (And.intro t0 (And.intro t1 (And.intro t2 t3)))
          have r0 : W5.cell? ⟨rb, 0, none⟩ = some nilV := g1 0 _ rfl
          have r1 : W5.cell? ⟨rb, 1, none⟩ = some nilV := g1 1 _ rfl
          have r2 : W5.cell? ⟨rb, 2, none⟩ = some nilV := g1 2 _ rfl
          have r3 : W5.cell? ⟨rb, 3, none⟩ = some nilV := g1 3 _ rfl
          have rf : ∀ k, W5.frozen? ⟨rb, k, none⟩ = false := g2
          clear hP hL t0 t1 t2 t3 g1 g2 HX5 hin
          go_wp2
          (try simp only [Exit.inBlock, Exit.then])
          refine wk_close HT.out.1 HT.out.2.1 HT.out.2.2.1 HT.out.2.2.2 ?_ HL.out
          rfl
        case pos =>
          have d1 : decide ((i : Int) < (N : Int)) = true := decide_eq_true (by omega)
          have d1' : decide (i < N) = true := decide_eq_true hlt
          have hip : i < p.length := by have := HNe.out; omega
          obtain ⟨ib, io, r, A1, C1, hA, -, hr, k0, k1, -, hsl⟩ := (HSl.out W5 HB5.out).at_ hip
          have hf : fs[i]? = some (fs[i]'(by omega)) := List.getElem?_eq_getElem _
          obtain ⟨f, hfe⟩ : ∃ f, f = fs[i]'(by omega) := ⟨_, rfl⟩
          rw [← hfe] at hf
          clear hfe
          have HRow := Lib.hid (HWk.out.row i f hf)
          have HInv := Lib.hid (HWk.out.inv i (by omega))
          have HNx := Lib.hid (workP_next (n := n) hf)
          have HSi := Lib.hid (HSn.out i r f hr hf W5 A1 C1 hsl)
          obtain ⟨T, hT⟩ : ∃ T, T = workP n fs i := ⟨_, rfl⟩
          rw [← hT] at HX5 HRow HInv HNx
          obtain ⟨R, hR⟩ : ∃ R, R = T.rows.length := ⟨_, rfl⟩
          obtain ⟨vL, vB, vC, vR, vs, hP⟩ := HX5.out
          obtain ⟨rg, rc, rfl, q0⟩ := hP.rows_at HInv.out.r0 hR.symm
          obtain ⟨-, -, -, y3, -⟩ := hP.cells
          have hiR : (i : Int) < (R : Int) := by have := HInv.out.rl; omega
          have hiR' : i < R := by have := HInv.out.rl; omega
          have hi0 : (0 : Int) ≤ (i : Int) := by omega
          obtain ⟨rq, rl⟩ := r
          simp only at k0 k1 hsl HSi
          have HF : Hid (∀ v w6, (pxS v f).lies w6 W5.heap.size → Below W5.heap.size W5 w6 → PcE w.heap.size pb T (pxS v f :: [rsB rb nilV nilV nilV nilV, chB cb n A N c]) w6 ∧ Below w.heap.size w w6) := fun v w6 h1 h2 => ⟨HX5.out.add h2 HB5.out.size h1, HB5.out.trans (h2.mono HB5.out.size)⟩
          obtain ⟨L, hL⟩ : ∃ L, L = f.length := ⟨_, rfl⟩
          have HLe := Lib.hid hL
          have hL200 : L ≤ 200 := by have := HRow.out.2.1; omega
          obtain ⟨RL, hRL⟩ : ∃ RL, RL = rl.length := ⟨_, rfl⟩
          rw [← hRL] at k1 HSi
          subst hA
          clear hP hR hT hf hr hsl HX5 hRL hL
          go_upto_region 13 with (go_at_call 13; refine HSi.out.mono ?_; rintro e w6 ⟨v, rfl, hv, hb6⟩; obtain ⟨fa, fc, rfl⟩ := pxS_is hv HLe.out.symm)
          refine abs_world (Q := fun W => Code.wp _ _ _ _ W) (F := fun W => PcE w.heap.size pb T (pxS (.slice fa L fc) f :: [rsB rb nilV nilV nilV nilV, chB cb n (some ⟨ib, io, none⟩) N c]) W ∧ Below w.heap.size w W) _ (HF.out _ _ hv hb6) ?_
          clear HF hv hb6 HSi HB5 k0 k1 z0 z1 y3 q0 hiR hiR' d1 d1'
          rintro W6 ⟨hX, hb⟩
          have HX6 := Lib.hid hX
          have HB6 := Lib.hid hb
          clear hX hb
          go_wp2
          go_loopw [6, 8] (fun s6 s8 wr => ∃ k : Nat, s8 = .int .i64 (k : Int) ∧ k ≤ L ∧ s6 = .int .i64 (((rowRun ((i : Int) + 1) f T k).next : Nat) : Int) ∧ Hid (PcE w.heap.size pb (rowRun ((i : Int) + 1) f T k) (pxS (.slice fa L fc) f :: [rsB rb nilV nilV nilV nilV, chB cb n (some ⟨ib, io, none⟩) N c]) wr) ∧ Hid (Below w.heap.size w wr)) (fun _ s8 _ => L - (intOf s8).toNat)
          case atStart => exact ⟨0, rfl, Nat.zero_le _, rfl, HX6.out, HB6.out⟩
          case round =>
            obtain ⟨k, rfl, hk, rfl, HX7, HB7⟩ := hrel
            clear HX6 HB6
            obtain ⟨W7, hW7⟩ : ∃ x : World, x = wr := ⟨_, rfl⟩
            rw [← hW7] at HX7 HB7 ⊢
            clear hW7
            by_cases hkl : k < L
            case neg =>
              have d1 : decide ((k : Int) < (L : Int)) = false := decide_eq_false (by omega)
              have d1' : decide (k < L) = false := decide_eq_false hkl
              have hke : k = f.length := by have := HLe.out; omega
              have hX8 := HX7.out.lift (List.sublist_cons_self _ _)
              rw [hke] at hX8
              have hrl := (rowRun_len (row := (i : Int) + 1) (fun s hs => stc_k (HRow.out.1 s hs)) T f.length (Nat.le_refl _)).2.2
              have hll := (rowRun_len (row := (i : Int) + 1) (fun s hs => stc_k (HRow.out.1 s hs)) T f.length (Nat.le_refl _)).2.1
              have hinv := HInv.out.rl
              have hi12 : i ≤ 12 := by omega
              obtain ⟨t, ht⟩ : ∃ t, t = rowRun ((i : Int) + 1) f T f.length := ⟨_, rfl⟩
              rw [← ht] at hX8 hrl hll HNx
              obtain ⟨vL, vB, vC, vR, vs, hP⟩ := hX8
              obtain ⟨⟨a1, c1, rfl⟩, -, -, a0, c0, rfl⟩ := hP.forms
              obtain ⟨y0, -, -, y3, -⟩ := hP.cells
              obtain ⟨A', c', w', hr, hf, y3', hQ, hb2⟩ := hP.pushR HB7.out.size (by rw [hrl, hinv]; omega) (t.lp.length : Int)
              have HQ : Hid (PcE w.heap.size pb (workP n fs (i + 1)) [rsB rb nilV nilV nilV nilV, chB cb n (some ⟨ib, io, none⟩) N c] (w'.setCell ⟨pb, 3, none⟩ (.slice A' (t.rows.length + 1) c')) ∧ Below w.heap.size w (w'.setCell ⟨pb, 3, none⟩ (.slice A' (t.rows.length + 1) c'))) := ⟨by rw [HNx.out]; exact ⟨_, _, _, _, _, hQ⟩, HB7.out.trans hb2⟩
              obtain ⟨R, hR⟩ : ∃ R, R = t.rows.length := ⟨_, rfl⟩
              obtain ⟨P, hPl⟩ : ∃ P, P = t.lp.length := ⟨_, rfl⟩
              rw [← hR] at hr y3 y3' HQ
              rw [← hPl] at hr y0
              have hf3 := hf 3
              clear hP hQ hb2 hf HX7 hke hrl hll hinv ht hR hPl
              go_wp2_with (at_builtin; refine wpList_append_run _ rfl _ _ _ _ rfl _ _ (by rfl) (by rfl) hr ?_)
              go_roundw
              case rel => exact ⟨i + 1, by go_num, by omega, HQ.out.1, HQ.out.2⟩
              case measure => simp [intOf]; omega
            case pos =>
              have d1 : decide ((k : Int) < (L : Int)) = true := decide_eq_true (by omega)
              have d1' : decide (k < L) = true := decide_eq_true hkl
              have hfk : f[k]? = some (f[k]'(by have := HLe.out; omega)) := List.getElem?_eq_getElem _
              obtain ⟨s, hse⟩ : ∃ s, s = f[k]'(by have := HLe.out; omega) := ⟨_, rfl⟩
              rw [← hse] at hfk
              have HFk := Lib.hid hfk
              have HOk : Hid (s.ok = true) := HRow.out.1 s (List.mem_of_getElem? hfk)
              obtain ⟨g, gc, he⟩ := pxS_at (HX7.out.mem List.mem_cons_self) hfk HLe.out.symm
              cases he
              have HNk := Lib.hid (rowRun_next (row := (i : Int) + 1) (t := T) hfk)
              have hKs := fun s hs => stc_k (HRow.out.1 s hs)
              obtain ⟨l1, l2, -⟩ := rowRun_len (row := (i : Int) + 1) hKs T k (by have := HLe.out; omega)
              obtain ⟨l3, l4⟩ := rowRun_bc (row := (i : Int) + 1) hKs T k (by have := HLe.out; omega)
              obtain ⟨u1, u2⟩ := sumU_le hKs hfk
              have o5 := HRow.out.2.2.2.2
              have o3 := HRow.out.2.2.1
              have hm0 := sumM_nonneg hKs k
              have hm1 := sumM_le hKs k
              have o4 := HRow.out.2.2.2.1
              have i1 := HInv.out.ll
              have i2 := HInv.out.bl
              have i3 := HInv.out.cl
              have hu0 := (stc_k HOk.out).nat
              obtain ⟨t, ht⟩ : ∃ t, t = rowRun ((i : Int) + 1) f T k := ⟨_, rfl⟩
              rw [← ht] at HX7 HNk l1 l2 l3 l4 ⊢
              have HAt : Hid (t.next + (usesS s).toNat ≤ t.lp.length ∧ t.lp.length ≤ 50000 ∧ t.bound.length ≤ 50000 ∧ t.cross.length ≤ 50000) := by
                refine ⟨?_, ?_, ?_, ?_⟩ <;> omega
              have hnx : t.next ≤ 50000 := by have h := HAt.out; omega
              obtain ⟨U, hU⟩ : ∃ U : Nat, usesS s = (U : Int) := ⟨(usesS s).toNat, by omega⟩
              have hU200 : U ≤ 200 := by omega
              have HUs := Lib.hid (fun W => rused_any s HOk.out W)
              have HUe := Lib.hid hU
              simp only [hU] at HUs
              have HSc : Hid (∀ W Y, PcE w.heap.size pb t (Y :: pxS (.slice (some ⟨g, 0, none⟩) L fc) f :: [rsB rb nilV nilV nilV nilV, chB cb n (some ⟨ib, io, none⟩) N c]) W → StcAt W g (k * 4) s) := fun W Y h => pxS_cell (h.mem (List.mem_cons_of_mem _ List.mem_cons_self)) HFk.out
              clear l1 l2 l3 l4 u1 u2 o5 o3 hm0 hm1 o4 i1 i2 i3 hu0 hU hfk hse ht hKs
              have HX8 : Hid (PcE w.heap.size pb t (pxJ nilV (usedN t.next 0) :: pxS (.slice (some ⟨g, 0, none⟩) L fc) f :: [rsB rb nilV nilV nilV nilV, chB cb n (some ⟨ib, io, none⟩) N c]) W7) := HX7.out.nil
              clear HX7
              go_wp2
              go_loopw [6, 9, 10] (fun s6 s9 s10 wr => ∃ m : Nat, s10 = .int .i64 (m : Int) ∧ m ≤ U ∧ s6 = .int .i64 ((t.next + m : Nat) : Int) ∧ Hid (PcE w.heap.size pb t (pxJ s9 (usedN t.next m) :: pxS (.slice (some ⟨g, 0, none⟩) L fc) f :: [rsB rb nilV nilV nilV nilV, chB cb n (some ⟨ib, io, none⟩) N c]) wr) ∧ Hid (Below w.heap.size w wr)) (fun _ _ s10 _ => U - (intOf s10).toNat)
              case atStart => exact ⟨0, rfl, Nat.zero_le _, rfl, HX8.out, HB7.out⟩
              case round =>
                obtain ⟨m, rfl, hm, rfl, HX9, HB9⟩ := hrel
                clear HX8 HB7
                obtain ⟨W9, hW9⟩ : ∃ x : World, x = wr := ⟨_, rfl⟩
                rw [← hW9] at HX9 HB9 ⊢
                clear hW9
                obtain ⟨a2, c2, rfl⟩ := pxJ_is (HX9.out.mem List.mem_cons_self) (usedN_len _ _)
                obtain ⟨s0, s1, s2, s3⟩ := HSc.out _ _ HX9.out
                obtain ⟨kind, purl, sa, sb⟩ := s
                simp only at s0 s1 s2 s3
                have HC1 := Lib.hid (HUs.out W9)
                obtain ⟨nx, hnxe⟩ : ∃ nx, nx = t.next + m := ⟨_, rfl⟩
                rw [← hnxe]
                by_cases hmu : m < U
                case pos =>
                  have d2 : decide ((m : Int) < (U : Int)) = true := decide_eq_true (by omega)
                  have d2' : decide (m < U) = true := decide_eq_true hmu
                  have HNX := Lib.hid hnxe
                  clear hnxe
                  go_upto_region 20 with (go_at_call 36; refine HC1.out.mono ?_; rintro e w8 ⟨rfl, hb8⟩)
                  refine abs_world (Q := fun W => Code.wp _ _ _ _ W) (F := fun W => PcE w.heap.size pb t (pxJ (.slice a2 m c2) (usedN t.next m) :: pxS (.slice (some ⟨g, 0, none⟩) L fc) f :: [rsB rb nilV nilV nilV nilV, chB cb n (some ⟨ib, io, none⟩) N c]) W ∧ Below w.heap.size w W) _ ⟨HX9.out.to hb8, HB9.out.trans (hb8.mono HB9.out.size)⟩ ?_
                  clear HX9 HB9 hb8 HC1 s0 s1 s2 s3
                  rintro W8 ⟨hX, hb⟩
                  obtain ⟨A', c', w', hr, hQ, hb2⟩ := PcE.grow (a := a2) (c := c2) (l := usedN t.next m) (X := pxS (.slice (some ⟨g, 0, none⟩) L fc) f :: [rsB rb nilV nilV nilV nilV, chB cb n (some ⟨ib, io, none⟩) N c]) (by rw [usedN_len]; exact hX) hb.size (by rw [usedN_len]; omega) (nx : Int)
                  rw [usedN_len] at hr hQ
                  have e : usedN t.next m ++ [(nx : Int)] = usedN t.next (m + 1) := by rw [usedN_next, HNX.out]
                  rw [e] at hQ
                  have HQ := Lib.hid (And.intro hQ (hb.trans hb2))
                  have hnx9 : nx ≤ 51000 := by have := HNX.out; omega
                  have HNe2 : Hid (nx + 1 = t.next + (m + 1)) := by show _ = _; have := HNX.out; omega
                  clear hQ hb hb2 e hX hnx
                  go_wp2_with (at_builtin; refine wpList_append_run _ rfl _ _ _ _ rfl _ _ (by rfl) (by rfl) hr ?_)
                  go_roundw
                  case rel => exact ⟨m + 1, by go_num, by omega, by rw [← HNe2.out]; go_num, HQ.out.1, HQ.out.2⟩
                  case measure => simp [intOf]; omega
                case neg =>
                  have d2 : decide ((m : Int) < (U : Int)) = false := decide_eq_false (by omega)
                  have d2' : decide (m < U) = false := decide_eq_false hmu
                  have hme : m = U := by omega
                  have HNe2 : Hid (nx = t.next + U) := by show _ = _; omega
                  have hX9 := HX9.out
                  rw [hme] at hX9
                  have HX9' := Lib.hid hX9
                  clear hX9 HX9 hnxe
                  rw [hme]
                  go_upto_region 22 with (go_at_call 36; refine HC1.out.mono ?_; rintro e w8 ⟨rfl, hb8⟩)
                  refine abs_world (Q := fun W => Code.wp _ _ _ _ W) (F := fun W => PcE w.heap.size pb t (pxJ (.slice a2 U c2) (usedN t.next U) :: pxS (.slice (some ⟨g, 0, none⟩) L fc) f :: [rsB rb nilV nilV nilV nilV, chB cb n (some ⟨ib, io, none⟩) N c]) W ∧ Below w.heap.size w W) _ ⟨by rw [← hme]; rw [← hme] at HX9'; exact HX9'.out.to hb8, HB9.out.trans (hb8.mono HB9.out.size)⟩ ?_
                  clear HX9' HB9 hb8 HC1 s0 s1 s2 s3 hme d2 d2' hmu hm
                  rintro W8 ⟨hX, hb⟩
                  obtain ⟨s0, s1, s2, s3⟩ := HSc.out _ _ hX
                  simp only at s0 s1 s2 s3
                  have hUn : (usesS ⟨kind, purl, sa, sb⟩).toNat = U := by rw [HUe.out]; rfl
                  have hc := rcell_any w.heap.size pb t ((i : Int) + 1) (k : Int) ⟨kind, purl, sa, sb⟩ HOk.out (.slice a2 U c2) (pxS (.slice (some ⟨g, 0, none⟩) L fc) f :: [rsB rb nilV nilV nilV nilV, chB cb n (some ⟨ib, io, none⟩) N c]) HAt.out.1 HAt.out.2.1 HAt.out.2.2.1 HAt.out.2.2.2 W8 (by rw [hUn]; exact hX) hb.size
                  rw [← HNk.out] at hc
                  have HC := Lib.hid hc
                  have HNe3 : Hid (nx = (rowRun ((i : Int) + 1) f T (k + 1)).next) := by
                    show _ = _
                    rw [HNk.out]
                    unfold stepC
                    simp only
                    rw [hUn, HNe2.out]
                  have HB8 := Lib.hid hb
                  have hi12 : i ≤ 12 := by omega
                  clear hc hX hb HNe2 hUn hnx
                  go_wp2_with (go_at_call 37; refine HC.out.mono ?_; rintro e w9 ⟨rfl, hp9, hb9⟩)
                  have HQ := Lib.hid (And.intro (hp9.lift (List.sublist_cons_self _ _)) (HB8.out.trans hb9))
                  clear hp9 hb9 HC
                  go_roundw
                  case rel => exact ⟨k + 1, by go_num, by omega, by rw [HNe3.out], HQ.out.1, HQ.out.2⟩
                  case measure => simp [intOf]; omega
end Go.Proofs.YtbnddpknejgmhaaGreat
