/- Layer 28, the program: of. -/
import Derived.Test.YtbibndpkcilblaaKG16
import Derived.Test.YtbibndpkcilblaaKG8
import Derived.Test.YtbibndpkcilblaaKG6
namespace Go.Proofs.Ytbibndpkcilblaa
open Go.RowKit Go.Shelf Go.Sort
set_option maxRecDepth 100000

/-- A worked chart of K rows. -/
structure ChG (t : Pw) (K : Nat) : Prop where
  g : Grd t K t.next
  r1 : t.rows[K + 1]? = some (t.lp.length : Int)
  ll : t.lp.length ≤ 2600
  bl : t.bound.length ≤ 2400
theorem chart_grd {start : Int} {p : List RowC} (he : chartE start p = 0) (h12 : p.length ≤ 12) : ChG (workX start p) p.length := by
  have hwk := wk_chart he h12
  have hf : (p.map faceL).length = p.length := List.length_map _
  obtain ⟨lv, hg⟩ := grd_work hwk p.length (by omega)
  have hi := hwk.inv p.length (by omega)
  rw [workX_ok he]
  have := hg.lvn
  subst this
  have h1 := hi.ll
  have h2 := hi.bl
  exact ⟨hg, hi.r1, by omega, by omega⟩
theorem Owns.app {W W' : World} {B : Nat} {X Y : List Own} (h : Owns W B X) (hb : Below W.heap.size W W') (hB : B ≤ W.heap.size) (h' : Owns W' W.heap.size Y) : Owns W' B (Y ++ X) := by
  refine ⟨fun o ho => ?_, List.pairwise_append.2 ⟨h'.apart, h.apart, fun y hy x hx k hk hx2 => ?_⟩⟩
  · rcases List.mem_append.1 ho with ho | ho
    · exact own_more (h'.all o ho) hB
    · exact (h.to hb).all o ho
  · have h1 := (World.ownsRow.lt (h'.all y hy) k hk).1
    have h2 := (World.ownsRow.lt (h.all x hx) k hx2).2
    omega
abbrev lqO (qb : Nat) (vL vK vB : Value) (lv : Int) : Own := bxT 63 qb [vL, vK, vB, .int .i64 lv]
abbrev cqO (cb : Nat) (start : Int) (A : Option Addr) (n c : Nat) : Own := bxT 24 cb [.int .i64 start, .slice A n c]
theorem lof_start (w : World) (start : Int) (A : Option Addr) (n c : Nat) : Owns ((w.alloc (.cells #[.int .i64 start, .slice A n c] 24)).alloc (.cells #[nilV, nilV, nilV, .int .i64 0] 63)) w.heap.size [lqO (w.heap.size + 1) nilV nilV nilV 0, cqO w.heap.size start A n c] ∧
    Below w.heap.size w ((w.alloc (.cells #[.int .i64 start, .slice A n c] 24)).alloc (.cells #[nilV, nilV, nilV, .int .i64 0] 63)) := by
  have h1 := Owns.add (o := cqO w.heap.size start A n c) Owns.nil (al_t w (.cells #[.int .i64 start, .slice A n c] 24)) (Nat.le_refl _) (bxT_new w _ _)
  have hb := al_t w (.cells #[.int .i64 start, .slice A n c] 24)
  have h2 := Owns.add (o := lqO (w.alloc (.cells #[.int .i64 start, .slice A n c] 24)).heap.size nilV nilV nilV 0) h1 (al_t _ (.cells #[nilV, nilV, nilV, .int .i64 0] 63)) hb.size (bxT_new _ _ _)
  rw [World.size_alloc] at h2
  exact ⟨h2, hb.trans ((al_t _ _).mono hb.size)⟩
theorem chq_at {W : World} {B cb n c : Nat} {start : Int} {A : Option Addr} (h : (cqO cb start A n c).lies W B) : W.cell? ⟨cb, 0, none⟩ = some (.int .i64 start) ∧ W.cell? ⟨cb, 1, none⟩ = some (.slice A n c) := by
  obtain ⟨g1, -⟩ := bxT_at h
  exact ⟨g1 0 _ rfl, g1 1 _ rfl⟩
/-- What of hands back. -/
structure PcAt (W : World) (B : Nat) (a k b : Option Addr) (L : List Lp) (K : List (List Int)) (bd : List Int) : Prop where
  lp : SlL W B a L
  kd : SlRows W B k K
  bd : SlI W B b bd
def LqOk (t : Pw) (lv : Int) (w : World) (e : Ending) (w' : World) : Prop := ∃ a c k kc b bc, e = .returned (.tuple #[.agg #[.slice a t.lp.length c, .slice k t.lp.length kc, .slice b t.bound.length bc, .int .i64 lv], .int .i64 0]) ∧ PcAt w' w'.heap.size a k b t.lp (kidsA t.lp) t.bound ∧ Below w.heap.size w w'
def LqErr (x : Int) (w : World) (e : Ending) (w' : World) : Prop := e = .returned (.tuple #[.agg #[nilV, nilV, nilV, .int .i64 0], .int .i64 x]) ∧ Below w.heap.size w w'
theorem lof_close {W : World} {tmps : Array Value} {a b c d x : Value} {g : Nat} {R : Ending → World → Prop} (c0 : W.cell? ⟨g, 0, none⟩ = some a) (c1 : W.cell? ⟨g, 1, none⟩ = some b) (c2 : W.cell? ⟨g, 2, none⟩ = some c) (c3 : W.cell? ⟨g, 3, none⟩ = some d) (h2 : tmps[2]?.getD undef = .pointer (some ⟨g, 0, none⟩)) (h3 : tmps[3]?.getD undef = x) (hR : R (.returned (.tuple #[.agg #[a, b, c, d], x])) W) :
    bodyPost Try.prog Try.f30 R .ret { tmps := tmps, defers := [] } W := by
  refine bodyPost_ret (v := .tuple #[.agg #[a, b, c, d], x]) ?_ rfl hR
  simp [results, Try.results30, go_sem, h2, h3, c0, c1, c2, c3]
/-- The box is written with four values. -/
theorem lq_relay {W : World} {B qb : Nat} {u0 u1 u2 u3 v0 v1 v2 v3 : Value} {X : List Own} (h : Owns W B (bxT 63 qb [u0, u1, u2, u3] :: X)) (hB : B ≤ W.heap.size) :
    Owns ((((W.setCell ⟨qb, 0, none⟩ v0).setCell ⟨qb, 1, none⟩ v1).setCell ⟨qb, 2, none⟩ v2).setCell ⟨qb, 3, none⟩ v3) B (bxT 63 qb [v0, v1, v2, v3] :: X) ∧ Below B W ((((W.setCell ⟨qb, 0, none⟩ v0).setCell ⟨qb, 1, none⟩ v1).setCell ⟨qb, 2, none⟩ v2).setCell ⟨qb, 3, none⟩ v3) := by
  have h1 := bxT_set h 0 v0
  have h2 := bxT_set h1 1 v1
  have h3 := bxT_set h2 2 v2
  have h4 := bxT_set h3 3 v3
  have b1 := bxT_below h hB 0 v0
  have b2 := bxT_below h1 (Nat.le_trans hB b1.size) 1 v1
  have b3 := bxT_below h2 (Nat.le_trans hB (b1.trans b2).size) 2 v2
  have b4 := bxT_below h3 (Nat.le_trans hB ((b1.trans b2).trans b3).size) 3 v3
  exact ⟨h4, ((b1.trans b2).trans b3).trans b4⟩
set_option maxHeartbeats 4000000 in
theorem lof_err (start : Int) (A : Option Addr) (c : Nat) (p : List RowC) (hw : RowsWf p) (he : chartE start p ≠ 0) (w : World) (hs : SlC w w.heap.size A p) :
    Calls Try.prog 30 #[.agg #[.int .i64 start, .slice A p.length c]] w fun e w' => LqErr (chartE start p) w e w' := by
  obtain ⟨h0, hb0⟩ := lof_start w start A p.length c
  have HC0 : Hid (∀ W, Below w.heap.size w W → Calls Try.prog 21 #[.agg #[.int .i64 start, .slice A p.length c]] W fun e w' => LoPost (chartE start p) (workX start p).lp W e w') := fun W hb => Of_any start A c p hw (fun h => absurd h he) W ((hs.below hb).more hb.size)
  rw [workX_err he] at HC0
  have HX := Lib.hid (And.intro h0 hb0)
  obtain ⟨x, hx⟩ : ∃ x, x = chartE start p := ⟨_, rfl⟩
  rw [← hx] at HC0 he ⊢
  have hne : (x != 0) = true := by simp [he]
  obtain ⟨qb, hqb⟩ : ∃ qb, qb = w.heap.size + 1 := ⟨_, rfl⟩
  obtain ⟨cb, hcb⟩ : ∃ cb, cb = w.heap.size := ⟨_, rfl⟩
  clear h0 hb0 hs hw hx he
  go_enter Try.func30, Try.ntmps30
  go_upto_region 1 with fail
  rw [← hqb, ← hcb] at HX
  refine abs_world (Q := fun W => Code.wp _ _ _ _ W) (F := fun W => Owns W w.heap.size [lqO qb nilV nilV nilV 0, cqO cb start A p.length c] ∧ Below w.heap.size w W) _ (by rw [← hcb]; exact HX.out) ?_
  rw [← hqb, show (Value.pointer (some ⟨w.heap.size, 0, none⟩)) = Value.pointer (some ⟨cb, 0, none⟩) by rw [hcb]]
  clear HX hqb hcb
  rintro W1 ⟨h1, hb1⟩
  obtain ⟨z0, z1⟩ := chq_at h1.tail.head
  have HC := Lib.hid (HC0.out W1 hb1)
  have HX1 := Lib.hid (And.intro h1 hb1)
  clear h1 hb1 HC0
  go_upto_region 2 with (go_at_call 21; refine HC.out.mono ?_; rintro e w1 ⟨vL, vs, rfl, hv, ho, hb2⟩; obtain ⟨va, wa, rfl⟩ := pxL_form ho; have h2 := HX1.out.1.to hb2; obtain ⟨y0, yf, -, -⟩ := bxT_at h2.head; have HX2 := Lib.hid (And.intro h2 (HX1.out.2.trans (hb2.mono HX1.out.2.size))); have y00 := y0 0 _ rfl; have yf0 := yf 0; clear y0 yf hv ho hb2 h2)
  have h3 := bxT_set HX2.out.1 0 (.slice va 0 wa)
  have hb3 := HX2.out.2.trans (bxT_below HX2.out.1 HX2.out.2.size 0 (.slice va 0 wa))
  refine abs_world (Q := fun W => Code.wp _ _ _ _ W) (F := fun W => Owns W w.heap.size [bxT 63 qb [.slice va 0 wa, nilV, nilV, .int .i64 0], cqO cb start A p.length c] ∧ Below w.heap.size w W) _ ⟨h3, hb3⟩ ?_
  clear h3 hb3 HX2 y00 yf0 HX1 HC z0 z1
  rintro W3 ⟨h3, hb3⟩
  obtain ⟨y, yf, -, -⟩ := bxT_at h3.head
  have y0 := y 0 _ rfl
  have y1 := y 1 _ rfl
  have y2 := y 2 _ rfl
  have y3 := y 3 _ rfl
  obtain ⟨h4, hb4⟩ := lq_relay (v0 := nilV) (v1 := nilV) (v2 := nilV) (v3 := .int .i64 0) h3 hb3.size
  have HB := Lib.hid (hb3.trans hb4)
  obtain ⟨t, -, -, -⟩ := bxT_at h4.head
  have t0 := t 0 _ rfl
  have t1 := t 1 _ rfl
  have t2 := t 2 _ rfl
  have t3 := t 3 _ rfl
  have HT := Lib.hid (And.intro t0 (And.intro t1 (And.intro t2 t3)))
  clear h3 hb3 h4 hb4 y t t0 t1 t2 t3
  go_wp2
  refine lof_close HT.out.1 HT.out.2.1 HT.out.2.2.1 HT.out.2.2.2 ?_ ?_ ⟨rfl, HB.out⟩ <;> rfl
theorem pxJ_max {w : World} {B : Nat} {v : Value} {l : List Int} (h : (pxJ v l).lies w B) : l.length ≤ maxLen := by
  have h0 : w.ownsRow B 3 1 v l.length (l.map (Value.int .i64)) := h
  rcases h0.2 with ⟨-, e⟩ | ⟨g, cap, cur, -, -, -, h1, h2, -⟩
  · omega
  · exact Nat.le_trans h1 h2
/-- A box beside the rows is written. -/
theorem KdE.setB {B b : Nat} {T : TypeId} {v : Value} {vals : List Value} {K : List (List Int)} {X : List Own} {W : World} (h : KdE B v K (bxT T b vals :: X) W) (hB : B ≤ W.heap.size) (k : Nat) (y : Value) : KdE B v K (bxT T b (vals.set k y) :: X) (W.setCell ⟨b, k, none⟩ y) ∧ Below B W (W.setCell ⟨b, k, none⟩ y) := by
  obtain ⟨ks, h⟩ := h
  have h1 : Owns W B (bxT T b vals :: pxV v ks :: (rowsO ks K ++ X)) := (h.own.perm (List.Perm.cons _ List.perm_middle)).swap
  have h2 := bxT_set h1 k y
  exact ⟨⟨ks, h2.swap.perm (List.Perm.cons _ List.perm_middle.symm), h.len⟩, bxT_below h1 hB k y⟩
theorem KdE.perm1 {B : Nat} {v : Value} {K : List (List Int)} {o o' : Own} {X : List Own} {W : World} (h : KdE B v K (o :: o' :: X) W) : KdE B v K (o' :: o :: X) W := by
  obtain ⟨ks, h⟩ := h
  exact ⟨ks, h.own.perm (List.Perm.cons _ ((List.Perm.swap _ _ _).append_left _)), h.len⟩
/-- The piece's box is written with what it holds. -/
theorem KdE.lay {B qb : Nat} {v : Value} {K : List (List Int)} {v0 v1 v2 v3 : Value} {X : List Own} {W : World} (h : KdE B v K (bxT 63 qb [v0, v1, v2, v3] :: X) W) (hB : B ≤ W.heap.size) :
    KdE B v K (bxT 63 qb [v0, v1, v2, v3] :: X) ((((W.setCell ⟨qb, 0, none⟩ v0).setCell ⟨qb, 1, none⟩ v1).setCell ⟨qb, 2, none⟩ v2).setCell ⟨qb, 3, none⟩ v3) ∧ Below B W ((((W.setCell ⟨qb, 0, none⟩ v0).setCell ⟨qb, 1, none⟩ v1).setCell ⟨qb, 2, none⟩ v2).setCell ⟨qb, 3, none⟩ v3) := by
  obtain ⟨ks, h⟩ := h
  have h1 : Owns W B (bxT 63 qb [v0, v1, v2, v3] :: pxV v ks :: (rowsO ks K ++ X)) := (h.own.perm (List.Perm.cons _ List.perm_middle)).swap
  obtain ⟨h2, hb⟩ := lq_relay (v0 := v0) (v1 := v1) (v2 := v2) (v3 := v3) h1 hB
  exact ⟨⟨ks, h2.swap.perm (List.Perm.cons _ List.perm_middle.symm), h.len⟩, hb⟩
/-- A box beside the outer row, ahead of a store into that row. -/
theorem KdE.beside {B b g j k n c : Nat} {T : TypeId} {vals : List Value} {K : List (List Int)} {X : List Own} {W : World} {y x : Value} (h : KdE B (.slice (some ⟨g, 0, none⟩) n c) K (bxT T b vals :: X) (W.setCell ⟨g, j, none⟩ y)) (hk : vals[k]? = some x) : W.cell? ⟨b, k, none⟩ = some x := by
  obtain ⟨y1, -⟩ := bxT_at (h.mem List.mem_cons_self)
  obtain ⟨ks, h⟩ := h
  have ha := (List.pairwise_cons.1 h.own.apart).1 (bxT T b vals) (List.mem_append_right _ List.mem_cons_self) g rfl
  have hne : g ≠ b := fun e => ha (by rw [e]; rfl)
  rw [← World.cell?_setCell_far W ⟨g, j, none⟩ ⟨b, k, none⟩ y hne]
  exact y1 k x hk
/-- The loops beside the rows. -/
theorem KdE.lps {B n c : Nat} {v : Value} {K : List (List Int)} {o : Own} {a : Option Addr} {L : List Lp} {vs : List Value} {X : List Own} {W : World} (h : KdE B v K (o :: pxL (.slice a n c) L vs :: (parO L vs ++ X)) W) : Owns W B (pxL (.slice a n c) L vs :: (parO L vs ++ X)) := by
  obtain ⟨ks, h⟩ := h
  exact h.own.sub ((List.sublist_cons_self _ _).trans ((List.sublist_append_right (rowsO ks K) _).trans (List.sublist_cons_self _ _)))
set_option maxHeartbeats 8000000 in
theorem lof_ok (start : Int) (A : Option Addr) (c : Nat) (p : List RowC) (hw : RowsWf p) (he : chartE start p = 0) (h12 : p.length ≤ 12) (w : World) (hs : SlC w w.heap.size A p) :
    Calls Try.prog 30 #[.agg #[.int .i64 start, .slice A p.length c]] w fun e w' => LqOk (workX start p) ((workX start p).next : Int) w e w' := by
  obtain ⟨h0, hb0⟩ := lof_start w start A p.length c
  have hG := chart_grd he h12
  have hll := hG.ll
  have HSl : Hid (∀ W, Below w.heap.size w W → SlC W W.heap.size A p) := fun W hb => (hs.below hb).more hb.size
  have HC0 : Hid (∀ W, Below w.heap.size w W → Calls Try.prog 21 #[.agg #[.int .i64 start, .slice A p.length c]] W fun e w' => LoPost 0 (workX start p).lp W e w') := fun W hb => by
    have h := Of_any start A c p hw (fun _ => h12) W (HSl.out W hb)
    rw [he] at h
    exact h
  have HC1 : Hid (∀ W, Below w.heap.size w W → Calls Try.prog 53 #[.agg #[.int .i64 start, .slice A p.length c]] W fun e w' => BoPost 0 (workX start p).bound W e w') := fun W hb => by
    have h := Bound_any start A c p hw (fun _ => h12) W (HSl.out W hb)
    rw [he] at h
    exact h
  have HC2 : Hid (∀ W, Below w.heap.size w W → Calls Try.prog 23 #[.agg #[.int .i64 start, .slice A p.length c], .int .i64 (p.length : Int)] W fun e w' => RwPost ((workX start p).next : Int) ((workX start p).lp.length : Int) W e w') := fun W hb => Row_any start A c p hw he h12 p.length (Nat.le_refl _) _ _ hG.g.lv_ hG.r1 W (HSl.out W hb)
  have HX := Lib.hid (And.intro h0 hb0)
  have HG := Lib.hid (grd_n hG.g)
  obtain ⟨t, ht⟩ : ∃ t, t = workX start p := ⟨_, rfl⟩
  rw [← ht] at HC0 HC1 HC2 HG hll ⊢
  obtain ⟨L, hL⟩ : ∃ L, L = t.lp := ⟨_, rfl⟩
  have HLt := Lib.hid hL
  rw [← hL] at HC0 HC2 HG hll
  obtain ⟨M, hM⟩ : ∃ M, M = L.length := ⟨_, rfl⟩
  have HMe := Lib.hid hM
  rw [← hM] at hll
  obtain ⟨N, hN⟩ : ∃ N, N = p.length := ⟨_, rfl⟩
  rw [← hN] at HC0 HC1 HC2 h12 HX ⊢
  obtain ⟨qb, hqb⟩ : ∃ qb, qb = w.heap.size + 1 := ⟨_, rfl⟩
  obtain ⟨cb, hcb⟩ : ∃ cb, cb = w.heap.size := ⟨_, rfl⟩
  clear h0 hb0 hs hw he hG ht hL hM hN HSl
  go_enter Try.func30, Try.ntmps30
  go_upto_region 1 with fail
  rw [← hqb, ← hcb] at HX
  refine abs_world (Q := fun W => Code.wp _ _ _ _ W) (F := fun W => Owns W w.heap.size [lqO qb nilV nilV nilV 0, cqO cb start A N c] ∧ Below w.heap.size w W) _ (by rw [← hcb]; exact HX.out) ?_
  rw [← hqb, show (Value.pointer (some ⟨w.heap.size, 0, none⟩)) = Value.pointer (some ⟨cb, 0, none⟩) by rw [hcb]]
  clear HX hqb hcb
  rintro W1 ⟨h1, hb1⟩
  obtain ⟨z0, z1⟩ := chq_at h1.tail.head
  have HC := Lib.hid (HC0.out W1 hb1)
  have HX1 := Lib.hid (And.intro h1 hb1)
  clear h1 hb1 HC0
  go_upto_region 2 with (go_at_call 21; refine HC.out.mono ?_; rintro e w1 ⟨vL, vs, rfl, hv, ho, hb2⟩; obtain ⟨va, wa, e0⟩ := pxL_form ho; rw [← HMe.out] at e0; obtain rfl := e0; have h2 := HX1.out.1.app hb2 HX1.out.2.size ho; have HV := Lib.hid hv; have h3 : Owns w1 w.heap.size (lqO qb nilV nilV nilV 0 :: (pxL (.slice va M wa) L vs :: (parO L vs ++ [cqO cb start A N c]))) := h2.perm List.perm_middle; obtain ⟨y0, yf, -, -⟩ := bxT_at h3.head; have HX2 := Lib.hid (And.intro h3 (HX1.out.2.trans (hb2.mono HX1.out.2.size))); have y00 := y0 0 _ rfl; have yf0 := yf 0; clear y0 yf hv ho hb2 h2 h3)
  have h3 := bxT_set HX2.out.1 0 (.slice va M wa)
  have hb3 := HX2.out.2.trans (bxT_below HX2.out.1 HX2.out.2.size 0 (.slice va M wa))
  refine abs_world (Q := fun W => Code.wp _ _ _ _ W) (F := fun W => Owns W w.heap.size (lqO qb (.slice va M wa) nilV nilV 0 :: (pxL (.slice va M wa) L vs :: (parO L vs ++ [cqO cb start A N c]))) ∧ Below w.heap.size w W) _ ⟨h3, hb3⟩ ?_
  clear h3 hb3 HX2 y00 yf0 HX1 HC z0 z1
  rintro W3 ⟨h3, hb3⟩
  obtain ⟨y, yf, -, -⟩ := bxT_at h3.head
  have y0 := y 0 _ rfl
  obtain ⟨w4, hmk, ho4, hb4⟩ := mk_vs M (by omega) W3
  have h4 := (owns_nils h3 M).add hb4 hb3.size ho4
  have hb4' := hb3.trans (hb4.mono hb3.size)
  obtain ⟨kg, hkg⟩ : ∃ kg, kg = W3.heap.size := ⟨_, rfl⟩
  rw [← hkg] at hmk h4
  have hk4 : KdE w.heap.size (.slice (some ⟨kg, 0, none⟩) M M) (kidsR L 0) (lqO qb (.slice va M wa) nilV nilV 0 :: pxL (.slice va M wa) L vs :: (parO L vs ++ [cqO cb start A N c])) w4 := by
    rw [kidsR_zero, ← HMe.out]
    exact ⟨_, h4, by rw [List.length_replicate, List.length_replicate]⟩
  obtain ⟨yw, yfw, -, -⟩ := bxT_at (hk4.mem (o := lqO qb (.slice va M wa) nilV nilV 0) List.mem_cons_self)
  have yw1 := yw 1 _ rfl
  have yf1 := yfw 1
  obtain ⟨h5, hb5⟩ := hk4.setB hb4'.size 1 (.slice (some ⟨kg, 0, none⟩) M M)
  have HX5 : Hid (KdE w.heap.size (.slice (some ⟨kg, 0, none⟩) M M) (kidsR L 0) (lqO qb (.slice va M wa) (.slice (some ⟨kg, 0, none⟩) M M) nilV 0 :: pxL (.slice va M wa) L vs :: (parO L vs ++ [cqO cb start A N c])) (w4.setCell ⟨qb, 1, none⟩ (.slice (some ⟨kg, 0, none⟩) M M)) ∧ Below w.heap.size w (w4.setCell ⟨qb, 1, none⟩ (.slice (some ⟨kg, 0, none⟩) M M))) := ⟨h5, hb4'.trans hb5⟩
  clear h3 hb3 y yf ho4 hb4 h4 hb4' hk4 yw yfw h5 hb5 hkg
  go_upto_region 5 with fail
  refine abs_world (Q := fun W => Code.wp _ _ _ _ W) (F := fun W => KdE w.heap.size (.slice (some ⟨kg, 0, none⟩) M M) (kidsR L 0) (lqO qb (.slice va M wa) (.slice (some ⟨kg, 0, none⟩) M M) nilV 0 :: pxL (.slice va M wa) L vs :: (parO L vs ++ [cqO cb start A N c])) W ∧ Below w.heap.size w W) _ HX5.out ?_
  clear HX5 y0 yw1 yf1 hmk
  clear w4
  rintro W5 ⟨h5, hb5⟩
  obtain ⟨y, -⟩ := bxT_at (h5.mem (o := lqO qb (.slice va M wa) (.slice (some ⟨kg, 0, none⟩) M M) nilV 0) List.mem_cons_self)
  have y0 := y 0 _ rfl
  have HX5 := Lib.hid (And.intro h5 hb5)
  clear h5 hb5 y
  go_wp2
  go_loopw [4, 5, 7, 26] (fun s4 s5 s7 s26 wr => ∃ (m : Nat) (v4 v5 v7 : Value), m ≤ M ∧ s26 = .int .i64 (m : Int) ∧ v4 = s4 ∧ v5 = s5 ∧ v7 = s7 ∧ Hid (KdE w.heap.size (.slice (some ⟨kg, 0, none⟩) M M) (kidsR L m) (lqO qb (.slice va M wa) (.slice (some ⟨kg, 0, none⟩) M M) nilV 0 :: pxL (.slice va M wa) L vs :: (parO L vs ++ [cqO cb start A N c])) wr ∧ Below w.heap.size w wr)) (fun _ _ _ s26 _ => M - (intOf s26).toNat)
  case atStart => exact ⟨0, _, _, _, Nat.zero_le _, rfl, rfl, rfl, rfl, HX5.out⟩
  case round =>
    obtain ⟨m, v4, v5, v7, hm, rfl, rfl, rfl, rfl, HX⟩ := hrel
    clear HX5 y0
    obtain ⟨W6, hW6⟩ : ∃ x : World, x = wr := ⟨_, rfl⟩
    rw [← hW6] at HX ⊢
    clear hW6
    have hBs : w.heap.size ≤ W6.heap.size := HX.out.2.size
    by_cases hlt : m < M
    case neg =>
      have d1 : decide ((m : Int) < (M : Int)) = false := decide_eq_false (by omega)
      have d1' : decide (m < M) = false := decide_eq_false hlt
      have hmm : m = M := by omega
      have hX : KdE w.heap.size (.slice (some ⟨kg, 0, none⟩) M M) (kidsA L) (lqO qb (.slice va M wa) (.slice (some ⟨kg, 0, none⟩) M M) nilV 0 :: pxL (.slice va M wa) L vs :: (parO L vs ++ [cqO cb start A N c])) W6 ∧ Below w.heap.size w W6 := by
        have h := HX.out
        rw [hmm] at h
        unfold kidsA
        rw [← HMe.out]
        exact h
      obtain ⟨z0, z1⟩ := chq_at (hX.1.mem (o := cqO cb start A N c) (by simp))
      have HCb := Lib.hid (HC1.out W6 hX.2)
      have HX7 := Lib.hid hX
      clear hX HX hmm hBs
      go_upto_region 14 with fail
      clear d1 d1' hm hlt
      go_upto_region 15 with (go_at_call 53; refine HCb.out.mono ?_; rintro e w7 ⟨vB, rfl, ho, hb7⟩; obtain ⟨ba, bc, rfl⟩ := pxJ_is ho rfl; have h7 := HX7.out.1.to hb7; obtain ⟨y, yf, -, -⟩ := bxT_at (h7.mem (o := lqO qb (.slice va M wa) (.slice (some ⟨kg, 0, none⟩) M M) nilV 0) List.mem_cons_self); have y2 := y 2 _ rfl; have yf2 := yf 2; have HX8 := Lib.hid (And.intro (HX7.out.1.add hb7 HX7.out.2.size ho) (HX7.out.2.trans (hb7.mono HX7.out.2.size))); clear y yf ho hb7 h7 z0 z1)
      have hX8 := HX8.out.1.perm1
      obtain ⟨h9, hb9⟩ := hX8.setB HX8.out.2.size 2 (.slice ba t.bound.length bc)
      have hb9' := HX8.out.2.trans hb9
      refine abs_world (Q := fun W => Code.wp _ _ _ _ W) (F := fun W => KdE w.heap.size (.slice (some ⟨kg, 0, none⟩) M M) (kidsA L) (lqO qb (.slice va M wa) (.slice (some ⟨kg, 0, none⟩) M M) (.slice ba t.bound.length bc) 0 :: pxJ (.slice ba t.bound.length bc) t.bound :: pxL (.slice va M wa) L vs :: (parO L vs ++ [cqO cb start A N c])) W ∧ Below w.heap.size w W) _ ⟨h9, hb9'⟩ ?_
      clear h9 hb9 hb9' hX8 HX8 y2 yf2 HX7 HCb
      rintro W9 ⟨h9, hb9⟩
      obtain ⟨z0, z1⟩ := chq_at (h9.mem (o := cqO cb start A N c) (by simp))
      have HCr := Lib.hid (HC2.out W9 hb9)
      have HX9 := Lib.hid (And.intro h9 hb9)
      clear h9 hb9 HC2 HC1
      go_upto_region 16 with (go_at_call 23; refine HCr.out.mono ?_; rintro e w10 ⟨rfl, hb10⟩; have h10 := HX9.out.1.to hb10; obtain ⟨y, yf, -, -⟩ := bxT_at (h10.mem (o := lqO qb (.slice va M wa) (.slice (some ⟨kg, 0, none⟩) M M) (.slice ba t.bound.length bc) 0) List.mem_cons_self); have y3 := y 3 _ rfl; have yf3 := yf 3; have HX10 := Lib.hid (And.intro h10 (HX9.out.2.trans (hb10.mono HX9.out.2.size))); clear y yf hb10 h10 z0 z1)
      obtain ⟨h11, hb11⟩ := HX10.out.1.setB HX10.out.2.size 3 (.int .i64 (t.next : Int))
      have hb11' := HX10.out.2.trans hb11
      refine abs_world (Q := fun W => Code.wp _ _ _ _ W) (F := fun W => KdE w.heap.size (.slice (some ⟨kg, 0, none⟩) M M) (kidsA L) (lqO qb (.slice va M wa) (.slice (some ⟨kg, 0, none⟩) M M) (.slice ba t.bound.length bc) (t.next : Int) :: pxJ (.slice ba t.bound.length bc) t.bound :: pxL (.slice va M wa) L vs :: (parO L vs ++ [cqO cb start A N c])) W ∧ Below w.heap.size w W) _ ⟨h11, hb11'⟩ ?_
      clear h11 hb11 hb11' HX10 y3 yf3 HX9 HCr
      rintro W11 ⟨h11, hb11⟩
      obtain ⟨y, yf, -, -⟩ := bxT_at (h11.mem (o := lqO qb (.slice va M wa) (.slice (some ⟨kg, 0, none⟩) M M) (.slice ba t.bound.length bc) (t.next : Int)) List.mem_cons_self)
      have y0 := y 0 _ rfl
      have y1 := y 1 _ rfl
      have y2 := y 2 _ rfl
      have y3 := y 3 _ rfl
      obtain ⟨h12', hb12⟩ := h11.lay hb11.size
      obtain ⟨t', -, -, -⟩ := bxT_at (h12'.mem List.mem_cons_self)
      have t0 := t' 0 _ rfl
      have t1 := t' 1 _ rfl
      have t2 := t' 2 _ rfl
      have t3 := t' 3 _ rfl
      have HT := Lib.hid (And.intro t0 (And.intro t1 (And.intro t2 t3)))
      have HX12 := Lib.hid (And.intro h12' (hb11.trans hb12))
      clear h11 hb11 y h12' hb12 t' t0 t1 t2 t3
      go_wp2
      (try simp only [Exit.inBlock, Exit.then])
      refine lof_close (x := .int .i64 0) HT.out.1 HT.out.2.1 HT.out.2.2.1 HT.out.2.2.2 ?_ ?_ ?_
      · rfl
      · rfl
      · have hA := HX12.out.1
        refine ⟨va, wa, some ⟨kg, 0, none⟩, M, ba, bc, ?_, ⟨?_, ?_, ?_⟩, HX12.out.2⟩
        · rw [← HLt.out, ← HMe.out]
        · rw [← HLt.out]
          obtain ⟨ks, hq⟩ := hA
          have hs : Owns _ w.heap.size (pxL (.slice va M wa) L vs :: (parO L vs ++ [cqO cb start A N c])) := hq.own.sub (((List.sublist_cons_self _ _).trans (List.sublist_cons_self _ _)).trans ((List.sublist_append_right (rowsO ks (kidsA L)) _).trans (List.sublist_cons_self _ _)))
          exact slL_of hs HMe.out HV.out (fun o ho => hs.all o (List.mem_cons_of_mem _ (List.mem_append_left _ ho)))
        · rw [← HLt.out]
          exact hA.read
        · exact pxJ_lies (hA.mem (List.mem_cons_of_mem _ List.mem_cons_self))
    case pos =>
      have d1 : decide ((m : Int) < (M : Int)) = true := decide_eq_true (by omega)
      have d1' : decide (m < M) = true := decide_eq_true hlt
      have hmL : m < L.length := by have := HMe.out; omega
      obtain ⟨l, hl⟩ : ∃ l, L[m]? = some l := ⟨_, List.getElem?_eq_getElem hmL⟩
      have hpar : parN L m = l.par := by unfold parN; rw [List.getD_eq_getElem?_getD, hl]; rfl
      obtain ⟨g, wa', u, e0, hu, q0, q1, q2, q3⟩ := pxL_at HX.out.1.lps HV.out hl
      injection e0 with e1 e2 e3
      subst e1
      subst e3
      clear e2
      have hpm : pxJ u l.par ∈ (lqO qb (.slice (some ⟨g, 0, none⟩) M wa) (.slice (some ⟨kg, 0, none⟩) M M) nilV 0 :: pxL (.slice (some ⟨g, 0, none⟩) M wa) L vs :: (parO L vs ++ [cqO cb start A N c])) := List.mem_cons_of_mem _ (List.mem_cons_of_mem _ (List.mem_append_left _ (parO_at hl hu)))
      obtain ⟨Q, hQ⟩ : ∃ Q, Q = l.par.length := ⟨_, rfl⟩
      have hQm : Q ≤ maxLen := by rw [hQ]; exact pxJ_max (HX.out.1.mem hpm)
      unfold maxLen at hQm
      obtain ⟨pa, pc, rfl⟩ := pxJ_is (HX.out.1.mem hpm) hQ.symm
      have hm26 : m ≤ 2600 := by omega
      obtain ⟨lb, hlb⟩ : ∃ lb, lb = W6.heap.size := ⟨_, rfl⟩
      have hal := al_t W6 (.cells #[.int .i64 l.row, .int .i64 l.cell, .slice pa Q pc, .bool l.purl] 47)
      obtain ⟨bn, -⟩ := bxT_at (bxT_new W6 47 [.int .i64 l.row, .int .i64 l.cell, .slice pa Q pc, .bool l.purl])
      have bn2 := bn 2 _ rfl
      have HN : Hid ((KdE w.heap.size (.slice (some ⟨kg, 0, none⟩) M M) (kidsQ L m 0) (lqO qb (.slice (some ⟨g, 0, none⟩) M wa) (.slice (some ⟨kg, 0, none⟩) M M) nilV 0 :: pxL (.slice (some ⟨g, 0, none⟩) M wa) L vs :: (parO L vs ++ [cqO cb start A N c])) (W6.alloc (.cells #[.int .i64 l.row, .int .i64 l.cell, .slice pa Q pc, .bool l.purl] 47)) ∧ Below w.heap.size w (W6.alloc (.cells #[.int .i64 l.row, .int .i64 l.cell, .slice pa Q pc, .bool l.purl] 47))) ∧ (W6.alloc (.cells #[.int .i64 l.row, .int .i64 l.cell, .slice pa Q pc, .bool l.purl] 47)).cell? ⟨lb, 2, none⟩ = some (.slice pa Q pc)) := by
        rw [kidsQ_zero, hlb]
        exact ⟨⟨HX.out.1.to hal, HX.out.2.trans (hal.mono hBs)⟩, bn2⟩
      have HPm := Lib.hid hpm
      have HPar := Lib.hid hpar
      have HQe := Lib.hid hQ
      have hlM : (m : Int) < (M : Int) := by omega
      have hm0 : (0 : Int) ≤ (m : Int) := by omega
      clear hal bn bn2 HX hBs hpm hpar hu hl hQ hmL
      go_upto_region 8 with fail
      refine abs_world (Q := fun W => Code.wp _ _ _ _ W) (F := fun W => (KdE w.heap.size (.slice (some ⟨kg, 0, none⟩) M M) (kidsQ L m 0) (lqO qb (.slice (some ⟨g, 0, none⟩) M wa) (.slice (some ⟨kg, 0, none⟩) M M) nilV 0 :: pxL (.slice (some ⟨g, 0, none⟩) M wa) L vs :: (parO L vs ++ [cqO cb start A N c])) W ∧ Below w.heap.size w W) ∧ W.cell? ⟨lb, 2, none⟩ = some (.slice pa Q pc)) _ HN.out ?_
      rw [← hlb]
      clear HN hlb q0 q1 q2 q3 d1 d1'
      rintro W7 ⟨h7, k2⟩
      have HX7 := Lib.hid h7
      clear h7
      go_wp2
      go_loopw [7, 34] (fun s7 s34 wr => ∃ (q : Nat) (v7 : Value), q ≤ Q ∧ s34 = .int .i64 (q : Int) ∧ v7 = s7 ∧ Hid (KdE w.heap.size (.slice (some ⟨kg, 0, none⟩) M M) (kidsQ L m q) (lqO qb (.slice (some ⟨g, 0, none⟩) M wa) (.slice (some ⟨kg, 0, none⟩) M M) nilV 0 :: pxL (.slice (some ⟨g, 0, none⟩) M wa) L vs :: (parO L vs ++ [cqO cb start A N c])) wr ∧ Below w.heap.size w wr)) (fun _ s34 _ => Q - (intOf s34).toNat)
      case atStart => exact ⟨0, _, Nat.zero_le _, rfl, rfl, HX7.out⟩
      case round =>
        obtain ⟨q, v7', hq, rfl, rfl, HX⟩ := hrel
        clear HX7 k2
        obtain ⟨W8, hW8⟩ : ∃ x : World, x = wr := ⟨_, rfl⟩
        rw [← hW8] at HX ⊢
        clear hW8
        have hBs : w.heap.size ≤ W8.heap.size := HX.out.2.size
        by_cases hqQ : q < Q
        case neg =>
          have d1 : decide ((q : Int) < (Q : Int)) = false := decide_eq_false (by omega)
          have d1' : decide (q < Q) = false := decide_eq_false hqQ
          have hqq : q = Q := by omega
          have hX := HX.out
          rw [hqq, HQe.out, ← HPar.out, kidsQ_end] at hX
          have HQ := Lib.hid hX
          clear hX HX hqq
          go_wp2
          go_roundw
          case rel => exact ⟨m + 1, _, _, _, by omega, by go_num, rfl, rfl, rfl, HQ.out⟩
          case measure => simp [intOf]; omega
        case pos =>
          have d1 : decide ((q : Int) < (Q : Int)) = true := decide_eq_true (by omega)
          have d1' : decide (q < Q) = true := decide_eq_true hqQ
          have hx : l.par[q]? = some (l.par[q]'(by have := HQe.out; omega)) := List.getElem?_eq_getElem _
          obtain ⟨xk, hxk⟩ : ∃ xk, xk = l.par[q]'(by have := HQe.out; omega) := ⟨_, rfl⟩
          rw [← hxk] at hx
          have hmM : m < L.length := by have := HMe.out; omega
          obtain ⟨k, e, hkm, -, -⟩ := (HG.out.par m hmM).2 xk (by rw [HPar.out]; exact List.mem_of_getElem? hx)
          subst e
          obtain ⟨pg, pc', ev, x0⟩ := pxJ_at (HX.out.1.mem HPm.out) hx HQe.out.symm
          cases ev
          obtain ⟨r1, r2⟩ := kidsQ_next (lp := L) (m := m) (q := q) (k := k) (HG.out.par m hmM).1 (by rw [HPar.out]; exact hx) (by omega)
          have hbd : Below W8.heap.size W8 W8.drew := Below.drew (Below.refl _ _)
          obtain ⟨a1, c1, A', c', w', t0, hr9, hf, t1, hQ, hb2⟩ := (HX.out.1.to hbd).grow hBs r1 (by have := kidsM_len L m k; omega) (m : Int)
          rw [← r2] at hQ
          obtain ⟨R, hR⟩ : ∃ R, R = (kidsM L m k).length := ⟨_, rfl⟩
          rw [← hR] at t0 hr9 t1 hQ hb2
          have hr : (Builtin.append_ #[25, 25] 25 #[.slice a1 R c1, .slice (some ⟨W8.heap.size, 0, none⟩) 1 1]).run Try.prog ((W8.alloc (.cells #[.int .i64 (m : Int)] 3)).drew) = .ok (.slice A' (R + 1) c') w' := hr9
          have t00 : W8.cell? ⟨kg, k, none⟩ = some (.slice a1 R c1) := t0
          have t0a := cell_al t00 (.cells #[.int .i64 (m : Int)] 3)
          obtain ⟨y, -⟩ := bxT_at (HX.out.1.mem (o := lqO qb (.slice (some ⟨g, 0, none⟩) M wa) (.slice (some ⟨kg, 0, none⟩) M M) nilV 0) List.mem_cons_self)
          have y1 := y 1 _ rfl
          have y1a := cell_al y1 (.cells #[.int .i64 (m : Int)] 3)
          have y1b : w'.cell? ⟨qb, 1, none⟩ = some (.slice (some ⟨kg, 0, none⟩) M M) := hQ.beside (k := 1) rfl
          have HQ := Lib.hid (And.intro hQ (HX.out.2.trans ((hbd.mono hBs).trans hb2)))
          have hfk := hf k
          have HQb : Hid (q + 1 ≤ Q ∧ q < Q) := by show _ ∧ _; omega
          have hkM : (k : Int) < (M : Int) := by omega
          have hk0 : (0 : Int) ≤ (k : Int) := by omega
          have hqI : (q : Int) < (Q : Int) := by omega
          have hq0 : (0 : Int) ≤ (q : Int) := by omega
          clear hf hQ hb2 hr9 t0 y hbd HX hBs hx hxk r1 r2 hR hmM
          go_upto_region 11 with fail
          clear x0
          go_region_law (refine step_append_run (by rfl) _ _ _ _ (by rfl) _ _ (by rfl) (by rfl) hr ?_)
          all_goals
            go_wp2
            go_roundw
            case rel => exact ⟨q + 1, _, HQb.out.1, by go_num, rfl, HQ.out⟩
            case measure => simp [intOf]; have := HQb.out; omega
end Go.Proofs.Ytbibndpkcilblaa
