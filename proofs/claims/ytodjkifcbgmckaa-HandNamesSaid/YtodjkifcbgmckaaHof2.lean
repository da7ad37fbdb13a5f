/- Layer 29: Of, the braid of a cable. Layer 29: Of, walked. -/
import Derived.Test.YtodjkifcbgmckaaHrep
import Derived.Test.YtodjkifcbgmckaaSt2
import Derived.Deep.RegionHeld3
namespace Go.Proofs.Ytodjkifcbgmckaa
open Go.RowKit Go.Shelf Go.Sort
set_option maxRecDepth 100000

def toC (a b : Nat) : List Int := (List.range (a + b)).map fun i => (((i + b) % (a + b) : Nat) : Int)
def frI (q : Bool) (a b i : Nat) : List (Int × Int) := if q = true ∧ i < a then (List.range b).map fun k => ((i : Int), ((a + k : Nat) : Int)) else []
def frC (q : Bool) (a b n : Nat) : List (Int × Int) := (List.range n).flatMap (frI q a b)
/-- What Of answers. -/
def ofE (s : Stc) : Brd × Int :=
  if s.err ≠ 0 then (⟨[], []⟩, s.err)
  else if s.kind ≠ 6 ∧ s.kind ≠ 7 then (⟨[], []⟩, 2)
  else if 8 < s.a + s.b then (⟨[], []⟩, 4)
  else (⟨toC s.a.toNat s.b.toNat, frC (decide (s.kind = 6)) s.a.toNat s.b.toNat (s.a.toNat + s.b.toNat)⟩, 0)
theorem of_close {W : World} {tmps : Array Value} {v f : Value} {x : Int} {b : Nat} {R : Ending → World → Prop} (c0 : W.cell? ⟨b, 0, none⟩ = some v) (c1 : W.cell? ⟨b, 1, none⟩ = some f) (h6 : tmps[2]?.getD undef = .pointer (some ⟨b, 0, none⟩)) (h7 : tmps[3]?.getD undef = .int .i64 x) (hR : R (.returned (.tuple #[.agg #[v, f], .int .i64 x])) W) :
    bodyPost Try.prog Try.f15 R .ret { tmps := tmps, defers := [] } W := by
  refine bodyPost_ret (v := .tuple #[.agg #[v, f], .int .i64 x]) ?_ rfl hR
  simp [results, Try.results15, go_sem, h6, h7, c0, c1]
theorem brdOut.base {r : Brd × Int} {w w1 w' : World} {e : Ending} (h : brdOut r w1 e w') (hb : Below w.heap.size w w1) : brdOut r w e w' := by
  obtain ⟨v, f, rfl, ho, hb'⟩ := h
  exact ⟨v, f, rfl, owns_base ho hb.size, hb.trans (hb'.mono hb.size)⟩
theorem rowB_put0 {w : World} {B b : Nat} {v f : Value} {L : List Own} (h : Owns w B (rowB b v f :: L)) (g : Value) : Owns (w.setCell ⟨b, 0, none⟩ g) B (rowB b g f :: L) := by
  have h0 : w.ownsRow B 26 2 (.slice (some ⟨b, 0, none⟩) 1 1) 1 [v, f] := h.head
  obtain ⟨h1, h2⟩ := World.ownsRow.stored h0 0 g
  exact h.turn (o' := rowB b g f) h2 h1 (fun k hk => Or.inl hk)
def rowZ (v : Value) (l : List Int) : Own := ⟨3, 1, l.length, v, intV l⟩
/-- A braid that is being made, in a box. -/
structure OfI (W1 : World) (pb : Nat) (to_ : List Int) (V F : Value) (prs : List (Int × Int)) (W : World) : Prop where
  own : Owns W W1.heap.size [rowZ V to_, rowP F prs, rowB pb V F]
  lo : Below W1.heap.size W1 W
theorem OfI.new (W1 : World) : OfI W1 W1.heap.size [] (.slice none 0 0) (.slice none 0 0) [] (W1.alloc brdZero) :=
  ⟨((Owns.nil.add (o := rowB W1.heap.size (.slice none 0 0) (.slice none 0 0)) ((Below.refl _ W1).alloc (Nat.le_refl _) brdZero) (Nat.le_refl _) (box_new W1 _ _)).none 66 2).none 3 1, (Below.refl _ W1).alloc (Nat.le_refl _) _⟩
theorem OfI.cells {W1 W : World} {pb : Nat} {to_ : List Int} {V F : Value} {prs : List (Int × Int)} (h : OfI W1 pb to_ V F prs W) : W.cell? ⟨pb, 0, none⟩ = some V ∧ W.cell? ⟨pb, 1, none⟩ = some F ∧ (∀ k, W.frozen? ⟨pb, k, none⟩ = false) ∧ (∃ A c, V = .slice A to_.length c) ∧ ∃ A c, F = .slice A prs.length c := by
  obtain ⟨h0, h1, hf⟩ := rowB_at (h.own.all (rowB pb V F) (by simp))
  have h2 : W.ownsRow W1.heap.size 66 2 F prs.length (prCells prs) := h.own.all (rowP F prs) (by simp)
  have h3 : W.ownsRow W1.heap.size 3 1 V to_.length (intV to_) := h.own.head
  obtain ⟨A, c, e, -⟩ := own_slice h2
  obtain ⟨A', c', e', -⟩ := own_slice h3
  exact ⟨h0, h1, hf, ⟨A', c', e'⟩, ⟨A, c, e⟩⟩
/-- A number is appended. -/
theorem OfI.pushTo {W1 W : World} {pb : Nat} {to_ : List Int} {V F : Value} {prs : List (Int × Int)} (h : OfI W1 pb to_ V F prs W) (x : Int) (hn : to_.length ≤ 100000) :
    ∃ A c w', (Builtin.append_ #[22, 22] 22 #[V, .slice (some ⟨W.heap.size, 0, none⟩) 1 1]).run Try.prog (W.alloc (.cells #[.int .i64 x] 3)) = .ok (.slice A (to_.length + 1) c) w' ∧ w'.cell? ⟨pb, 0, none⟩ = some V ∧ w'.frozen? ⟨pb, 0, none⟩ = false ∧ Below W1.heap.size W1 w' ∧
      OfI W1 pb (to_ ++ [x]) (.slice A (to_.length + 1) c) F prs (w'.setCell ⟨pb, 0, none⟩ (.slice A (to_.length + 1) c)) := by
  obtain ⟨ii, hii, hii0, hii1, hii2⟩ := info_parts info_int'
  have hba : Below W.heap.size W (W.alloc (.cells #[.int .i64 x] 3)) := (Below.refl _ W).alloc (Nat.le_refl _) _
  have ho := h.own.to hba
  have hsz := h.lo.size
  have h0 : (W.alloc (.cells #[.int .i64 x] 3)).ownsRow W1.heap.size 3 1 V to_.length (intV to_) := ho.head
  have hnew : ∀ j u, [Value.int .i64 x][j]? = some u → (W.alloc (.cells #[.int .i64 x] 3)).cell? ((⟨W.heap.size, 0, none⟩ : Addr).add j) = some u := newsT W _ _ _ rfl
  obtain ⟨A, c, w', hr, ho1, hg1, hn1⟩ := run_app_any Try.underlying22 hii hii0 hii1 hii2 rfl (by decide) h0 (some ⟨W.heap.size, 0, none⟩) 1 1 [.int .i64 x] rfl (fun e => by cases e) (fun ad e => by cases e; exact hnew) (by intro u hu; simp at hu; subst hu; rfl) (by unfold maxLen; omega) (by omega) (by have := hba.size; omega)
  have hrow : (rowZ (.slice A (to_.length + 1) c) (to_ ++ [x])).lies w' W1.heap.size := by
    unfold rowZ Own.lies
    rw [List.length_append, List.length_singleton, show intV (to_ ++ [x]) = intV to_ ++ [.int .i64 x] by unfold intV; rw [List.map_append]; rfl]
    exact ho1
  have ht := ho.turn (o' := rowZ (.slice A (to_.length + 1) c) (to_ ++ [x])) hg1 hrow hn1
  obtain ⟨e0, e1, e2⟩ := rowB_at (ht.all (rowB pb V F) (by simp))
  have hbw : Below W1.heap.size W1 w' := (h.lo.trans (hba.mono hsz)).trans (Below.of_grown hg1 (by have := hba.size; omega) (fun k e => (World.ownsRow.lt h0 k e).1))
  have hpb : W1.heap.size ≤ pb := (World.ownsRow.lt (h.own.all (rowB pb V F) (by simp)) pb rfl).1
  refine ⟨A, c, w', hr, e0, e2 0, hbw, ?_, hbw.setCell (p := ⟨pb, 0, none⟩) hpb _⟩
  have hp := ht.perm (L' := [rowB pb V F, rowZ (.slice A (to_.length + 1) c) (to_ ++ [x]), rowP F prs]) ((List.Perm.cons _ (List.Perm.swap _ _ _)).trans (List.Perm.swap _ _ _))
  exact (rowB_put0 hp (.slice A (to_.length + 1) c)).perm ((List.Perm.swap _ _ _).trans (List.Perm.cons _ (List.Perm.swap _ _ _)))
/-- A pair is appended. -/
theorem OfI.pushFr {W1 W : World} {pb : Nat} {to_ : List Int} {V F : Value} {prs : List (Int × Int)} (h : OfI W1 pb to_ V F prs W) (a b : Int) (hn : prs.length ≤ 100000) :
    ∃ A c w', (Builtin.append_ #[24, 24] 24 #[F, .slice (some ⟨W.heap.size, 0, none⟩) 1 1]).run Try.prog (W.alloc (.cells #[.int .i64 a, .int .i64 b] 66)) = .ok (.slice A (prs.length + 1) c) w' ∧ w'.cell? ⟨pb, 1, none⟩ = some F ∧ w'.frozen? ⟨pb, 1, none⟩ = false ∧
      OfI W1 pb to_ V (.slice A (prs.length + 1) c) (prs ++ [(a, b)]) (w'.setCell ⟨pb, 1, none⟩ (.slice A (prs.length + 1) c)) := by
  obtain ⟨ii, hii, hii0, hii1, hii2⟩ := info_parts info_pair
  have hba : Below W.heap.size W (W.alloc (.cells #[.int .i64 a, .int .i64 b] 66)) := (Below.refl _ W).alloc (Nat.le_refl _) _
  have ho := (h.own.to hba).swap
  have hsz := h.lo.size
  have h0 : (W.alloc (.cells #[.int .i64 a, .int .i64 b] 66)).ownsRow W1.heap.size 66 2 F prs.length (prCells prs) := ho.head
  have hnew : ∀ j u, [Value.int .i64 a, .int .i64 b][j]? = some u → (W.alloc (.cells #[.int .i64 a, .int .i64 b] 66)).cell? ((⟨W.heap.size, 0, none⟩ : Addr).add j) = some u := newsT W _ _ _ rfl
  obtain ⟨A, c, w', hr, ho1, hg1, hn1⟩ := run_app_any Try.underlying24 hii hii0 hii1 hii2 rfl (by decide) h0 (some ⟨W.heap.size, 0, none⟩) 1 1 [.int .i64 a, .int .i64 b] rfl (fun e => by cases e) (fun ad e => by cases e; exact hnew) (by intro u hu; simp at hu; rcases hu with rfl | rfl <;> rfl) (by unfold maxLen; omega) (by omega) (by have := hba.size; omega)
  have hrow : (rowP (.slice A (prs.length + 1) c) (prs ++ [(a, b)])).lies w' W1.heap.size := by
    unfold rowP Own.lies
    rw [List.length_append, List.length_singleton, pr_snoc]
    exact ho1
  have ht := ho.turn (o' := rowP (.slice A (prs.length + 1) c) (prs ++ [(a, b)])) hg1 hrow hn1
  obtain ⟨e0, e1, e2⟩ := rowB_at (ht.all (rowB pb V F) (by simp))
  have hpb : W1.heap.size ≤ pb := (World.ownsRow.lt (h.own.all (rowB pb V F) (by simp)) pb rfl).1
  refine ⟨A, c, w', hr, e1, e2 1, ?_, ((h.lo.trans (hba.mono hsz)).trans (Below.of_grown hg1 (by have := hba.size; omega) (fun k e => (World.ownsRow.lt h0 k e).1))).setCell (p := ⟨pb, 1, none⟩) hpb _⟩
  have hp := ht.perm (L' := [rowB pb V F, rowP (.slice A (prs.length + 1) c) (prs ++ [(a, b)]), rowZ V to_]) ((List.Perm.cons _ (List.Perm.swap _ _ _)).trans (List.Perm.swap _ _ _))
  exact (rowB_put1 hp (.slice A (prs.length + 1) c)).perm ((List.Perm.cons _ (List.Perm.swap _ _ _)).trans ((List.Perm.swap _ _ _).trans (List.Perm.cons _ (List.Perm.swap _ _ _))))
theorem OfI.out {w W1 W : World} {pb : Nat} {to_ : List Int} {V F : Value} {prs : List (Int × Int)} {r : Brd × Int} (h : OfI W1 pb to_ V F prs W) (hR : RsB w W1) (hr : r = (⟨to_, prs⟩, 0)) : brdOut r w (.returned (.tuple #[.agg #[V, F], .int .i64 0])) ((W.setCell ⟨w.heap.size, 0, none⟩ V).setCell ⟨w.heap.size, 1, none⟩ F) := by
  subst hr
  have ho : Owns W W1.heap.size [rowZ V to_, rowP F prs] := h.own.sub (List.Sublist.cons_cons _ (List.Sublist.cons_cons _ (List.nil_sublist _)))
  have hs := hR.sz
  exact ⟨_, _, rfl, owns_base (owns_low (owns_low ho (by omega) 0 _) (by omega) 1 _) (by omega), ((hR.to h.lo).put _ _).2.2⟩
end Go.Proofs.Ytodjkifcbgmckaa
namespace Go.Proofs.Ytodjkifcbgmckaa
open Go.RowKit Go.Shelf Go.Sort
set_option maxRecDepth 100000

theorem toC_len (a b : Nat) : (toC a b).length = a + b := by unfold toC; simp
theorem toC_next {a b i : Nat} (h : i < a + b) : (toC a b).take (i + 1) = (toC a b).take i ++ [(((i + b) % (a + b) : Nat) : Int)] := by
  rw [List.take_add_one]
  congr 1
  unfold toC
  rw [List.getElem?_map, List.getElem?_range h]
  rfl
def frK (q : Bool) (a i j : Nat) : List (Int × Int) := if q = true ∧ i < a then (List.range j).map fun k => ((i : Int), ((a + k : Nat) : Int)) else []
theorem frC_next (q : Bool) (a b i : Nat) : frC q a b (i + 1) = frC q a b i ++ frK q a i b := by
  unfold frC
  rw [List.range_succ, List.flatMap_append, List.flatMap_singleton]
  rfl
theorem frK_zero (q : Bool) (a i : Nat) : frK q a i 0 = [] := by unfold frK; split <;> rfl
theorem frK_next {q : Bool} {a i j : Nat} (h : q = true ∧ i < a) : frK q a i (j + 1) = frK q a i j ++ [((i : Int), ((a + j : Nat) : Int))] := by
  unfold frK
  rw [if_pos h, if_pos h, List.range_succ, List.map_append]
  rfl
theorem frK_not {q : Bool} {a i j : Nat} (h : ¬ (q = true ∧ i < a)) : frK q a i j = [] := by unfold frK; rw [if_neg h]
theorem frK_len (q : Bool) (a i j : Nat) : (frK q a i j).length ≤ j := by unfold frK; split <;> simp
theorem frC_len (q : Bool) (a b : Nat) : ∀ i, (frC q a b i).length ≤ i * b
  | 0 => by simp [frC]
  | i + 1 => by
    rw [frC_next, List.length_append, Nat.add_mul, Nat.one_mul]
    have := frC_len q a b i
    have := frK_len q a i b
    omega
theorem ok_cable {s : Stc} (h : s.err = 0) (hk : s.kind = 6 ∨ s.kind = 7) : 0 ≤ s.a ∧ s.a ≤ 1000 ∧ 0 ≤ s.b ∧ s.b ≤ 1000 := by
  unfold Stc.err at h
  split at h
  · rename_i ho
    unfold Stc.ok at ho
    simp only [Bool.and_eq_true, decide_eq_true_iff] at ho
    rcases hk with hk | hk
    · rw [hk] at ho
      have h1 := ho.2.1; have h2 := ho.2.2.1
      have e : (formI 6).a0 = 1 ∧ (formI 6).a1 = 6 ∧ (formI 6).b0 = 1 ∧ (formI 6).b1 = 6 := by decide
      omega
    · rw [hk] at ho
      have h1 := ho.2.1; have h2 := ho.2.2.1
      have e : (formI 7).a0 = 1 ∧ (formI 7).a1 = 6 ∧ (formI 7).b0 = 1 ∧ (formI 7).b1 = 6 := by decide
      omega
  · cases h
theorem OfI.to {W1 W W' : World} {pb : Nat} {to_ : List Int} {V F : Value} {prs : List (Int × Int)} (h : OfI W1 pb to_ V F prs W) (hb : Below W.heap.size W W') : OfI W1 pb to_ V F prs W' := ⟨h.own.to hb, h.lo.trans (hb.mono h.lo.size)⟩
set_option maxHeartbeats 64000000 in
theorem hof_any (s : Stc) (hw : s.wf) (w : World) : Calls Try.prog 15 #[s.val] w fun e w' => brdOut (ofE s) w e w' := by
  have HE1 : Hid (s.err ≠ 0 → ofE s = (⟨[], []⟩, s.err)) := fun h => by unfold ofE; rw [if_pos h]
  have HE2 : Hid (s.err = 0 → s.kind ≠ 6 ∧ s.kind ≠ 7 → ofE s = (⟨[], []⟩, 2)) := fun h h2 => by unfold ofE; rw [if_neg (by rw [h]; decide), if_pos h2]
  have HE3 : Hid (s.err = 0 → (s.kind = 6 ∨ s.kind = 7) → 8 < s.a + s.b → ofE s = (⟨[], []⟩, 4)) := fun h h2 h3 => by unfold ofE; rw [if_neg (by rw [h]; decide), if_neg (by omega), if_pos h3]
  have HE4 : Hid (s.err = 0 → (s.kind = 6 ∨ s.kind = 7) → ¬ 8 < s.a + s.b → ofE s = (⟨toC s.a.toNat s.b.toNat, frC (decide (s.kind = 6)) s.a.toNat s.b.toNat (s.a.toNat + s.b.toNat)⟩, 0)) := fun h h2 h3 => by unfold ofE; rw [if_neg (by rw [h]; decide), if_neg (by omega), if_neg h3]
  have HCk := Lib.hid (fun W => scheck_any s hw W)
  have HOk := Lib.hid (fun h hk => ok_cable (s := s) h hk)
  obtain ⟨kind, purl, sa, sb⟩ := s
  have hbs : Below w.heap.size w (w.alloc (.cells #[.int .u8 kind, .bool purl, .int .i64 sa, .int .i64 sb] 35)) := (Below.refl _ w).alloc (Nat.le_refl _) _
  have HBs := Lib.hid hbs
  have s0 : (w.alloc (.cells #[.int .u8 kind, .bool purl, .int .i64 sa, .int .i64 sb] 35)).cell? ⟨w.heap.size, 0, none⟩ = some (.int .u8 kind) := cell_new rfl rfl rfl
  have s1 : (w.alloc (.cells #[.int .u8 kind, .bool purl, .int .i64 sa, .int .i64 sb] 35)).cell? ⟨w.heap.size, 1, none⟩ = some (.bool purl) := cell_new rfl rfl rfl
  have s2 : (w.alloc (.cells #[.int .u8 kind, .bool purl, .int .i64 sa, .int .i64 sb] 35)).cell? ⟨w.heap.size, 2, none⟩ = some (.int .i64 sa) := cell_new rfl rfl rfl
  have s3 : (w.alloc (.cells #[.int .u8 kind, .bool purl, .int .i64 sa, .int .i64 sb] 35)).cell? ⟨w.heap.size, 3, none⟩ = some (.int .i64 sb) := cell_new rfl rfl rfl
  have HRn := Lib.hid (RsB.new (w.alloc (.cells #[.int .u8 kind, .bool purl, .int .i64 sa, .int .i64 sb] 35)))
  have hsz := lt_of_cell s0
  have HS : Hid (∀ W, Below (w.alloc (.cells #[.int .u8 kind, .bool purl, .int .i64 sa, .int .i64 sb] 35)).heap.size (w.alloc (.cells #[.int .u8 kind, .bool purl, .int .i64 sa, .int .i64 sb] 35)) W → W.cell? ⟨w.heap.size, 0, none⟩ = some (.int .u8 kind) ∧ W.cell? ⟨w.heap.size, 1, none⟩ = some (.bool purl) ∧ W.cell? ⟨w.heap.size, 2, none⟩ = some (.int .i64 sa) ∧ W.cell? ⟨w.heap.size, 3, none⟩ = some (.int .i64 sb)) := fun W h => ⟨(bcell h hsz _).trans s0, (bcell h hsz _).trans s1, (bcell h hsz _).trans s2, (bcell h hsz _).trans s3⟩
  clear s0 s1 s2 s3 hsz hbs hw
  go_enter Try.func15, Try.ntmps15
  go_upto_region 1 with fail
  refine abs_world (Q := fun W => Code.wp _ _ _ _ W) (F := fun W => RsB (w.alloc (.cells #[.int .u8 kind, .bool purl, .int .i64 sa, .int .i64 sb] 35)) W) _ HRn.out ?_
  try simp only [World.size_alloc]
  obtain ⟨w0, hw0⟩ : ∃ w0, w0 = w.alloc (.cells #[.int .u8 kind, .bool purl, .int .i64 sa, .int .i64 sb] 35) := ⟨_, rfl⟩
  have hw0s : w0.heap.size = w.heap.size + 1 := by rw [hw0]; simp
  rw [← hw0] at HS HBs ⊢
  rw [← hw0s]
  clear HRn hw0 hw0s
  intro W1 hR1
  have HR1 := Lib.hid hR1
  obtain ⟨s0, s1, s2, s3⟩ := HS.out W1 hR1.lo
  have HCk1 := Lib.hid (HCk.out W1)
  clear hR1 HCk
  by_cases he : (⟨kind, purl, sa, sb⟩ : Stc).err = 0
  case neg =>
    obtain ⟨er, her⟩ : ∃ er, er = (⟨kind, purl, sa, sb⟩ : Stc).err := ⟨_, rfl⟩
    have hF := HE1.out he
    rw [← her] at hF HCk1 he
    have d0 : (er != 0) = true := by simpa using he
    have HF := Lib.hid hF
    clear hF he her HE1 HE2 HE3 HE4 HOk
    go_upto_region 2 with ((go_at_call 37; refine HCk1.out.mono ?_; rintro e W2 ⟨rfl, hb2⟩))
    have HR2 := Lib.hid (HR1.out.to hb2)
    clear hb2 HR1 HCk1 s0 s1 s2 s3
    obtain ⟨r0, r1⟩ : _ ∧ _ := ⟨HR2.out.c0, HR2.out.c1⟩
    have rf := HR2.out.fz
    have hlt' := lt_of_cell r0
    have HP := Lib.hid (HR2.out.put (.slice none 0 0) (.slice none 0 0))
    have HO := Lib.hid ((HR2.out.stop HF.out).base HBs.out)
    clear HR2 HF 
    go_wp2
    exact of_close HP.out.1 HP.out.2.1 rfl rfl HO.out
  rw [he] at HCk1
  go_upto_region 4 with ((go_at_call 37; refine HCk1.out.mono ?_; rintro e W2 ⟨rfl, hb2⟩))
  refine abs_world (Q := fun W => Code.wp _ _ _ _ W) (F := fun W => Below W1.heap.size W1 W) _ hb2 ?_
  clear hb2 HCk1 s0 s1 s2 s3
  intro W3 hb3
  have HR3 := Lib.hid (HR1.out.to hb3)
  obtain ⟨s0, s1, s2, s3⟩ := HS.out W3 HR3.out.lo
  clear hb3 HR1 HE1
  by_cases hk : kind = 6 ∨ kind = 7
  case neg =>
    have k6 : (kind != 6) = true := by simp; omega
    have k7 : (kind != 7) = true := by simp; omega
    have HF : Hid (ofE ⟨kind, purl, sa, sb⟩ = (⟨[], []⟩, 2)) := HE2.out he (by omega)
    clear hk he HE2 HE3 HE4 HOk
    obtain ⟨r0, r1⟩ : _ ∧ _ := ⟨HR3.out.c0, HR3.out.c1⟩
    have rf := HR3.out.fz
    have hlt' := lt_of_cell r0
    have HP := Lib.hid (HR3.out.put (.slice none 0 0) (.slice none 0 0))
    have HO := Lib.hid ((HR3.out.stop HF.out).base HBs.out)
    clear HR3 HF 
    go_wp2
    exact of_close HP.out.1 HP.out.2.1 rfl rfl HO.out
  obtain ⟨hA0, hA1, hB0, hB1⟩ := HOk.out he hk
  replace hA0 : 0 ≤ sa := hA0
  replace hA1 : sa ≤ 1000 := hA1
  replace hB0 : 0 ≤ sb := hB0
  replace hB1 : sb ≤ 1000 := hB1
  have HE3' := Lib.hid (HE3.out he hk)
  have HE4' := Lib.hid (HE4.out he hk)
  clear HE2 HE3 HE4 HOk he
  obtain ⟨q, hq⟩ : ∃ q : Bool, q = decide (kind = 6) := ⟨_, rfl⟩
  have k6 : (kind != 6) = !q := by
    rw [hq]
    by_cases h : kind = 6
    · simp [h]
    · simp [h]
  have k6' : (kind == 6) = q := by
    rw [hq]
    by_cases h : kind = 6
    · simp [h]
    · simp [h]
  have k7 : q = false → (kind != 7) = false := fun h => by
    rw [hq] at h
    have := of_decide_eq_false h
    simp; omega
  rw [show decide ((⟨kind, purl, sa, sb⟩ : Stc).kind = 6) = q from hq.symm] at HE4'
  obtain ⟨a, rfl⟩ : ∃ a : Nat, sa = (a : Int) := ⟨sa.toNat, by omega⟩
  obtain ⟨b, rfl⟩ : ∃ b : Nat, sb = (b : Int) := ⟨sb.toNat, by omega⟩
  obtain ⟨n, hn⟩ : ∃ n, n = a + b := ⟨_, rfl⟩
  have HN := Lib.hid hn
  have hab : (a : Int) + (b : Int) = (n : Int) := by omega
  have HAb := Lib.hid hab
  clear hq hk hn hab
  cases q with
  | false =>
    replace k7 := k7 rfl
    rw [Bool.not_false] at k6
    go_upto_region 7 with fail
    rw [HAb.out]
    by_cases h8 : 8 < n
    · have d8 : decide (8 < n) = true := decide_eq_true h8
      have d8' : decide ((8 : Int) < (n : Int)) = true := decide_eq_true (by omega)
      have HF : Hid (ofE ⟨kind, purl, (a : Int), (b : Int)⟩ = (⟨[], []⟩, 4)) := HE3'.out (by have := HN.out; show (8 : Int) < (a : Int) + (b : Int); omega)
      clear h8 HE3' HE4' s0 s1 s2 s3 k6 k6'
      obtain ⟨r0, r1⟩ : _ ∧ _ := ⟨HR3.out.c0, HR3.out.c1⟩
      have rf := HR3.out.fz
      have hlt' := lt_of_cell r0
      have HP := Lib.hid (HR3.out.put (.slice none 0 0) (.slice none 0 0))
      have HO := Lib.hid ((HR3.out.stop HF.out).base HBs.out)
      clear HR3 HF 
      go_wp2
      exact of_close HP.out.1 HP.out.2.1 rfl rfl HO.out
    have d8 : decide (8 < n) = false := decide_eq_false h8
    have d8' : decide ((8 : Int) < (n : Int)) = false := decide_eq_false (by omega)
    have HF : Hid (ofE ⟨kind, purl, (a : Int), (b : Int)⟩ = (⟨toC a b, frC false a b n⟩, 0)) := by
      have h := HE4'.out (by have := HN.out; omega)
      show _ = _
      rw [h, HN.out]
      rfl
    have HO0 := Lib.hid (OfI.new W3)
    have hn8 : n ≤ 8 := by omega
    clear HE3' HE4' h8
    go_upto_region 10 with fail
    refine abs_world (Q := fun W => Code.wp _ _ _ _ W) (F := fun W => OfI W3 W3.heap.size [] (.slice none 0 0) (.slice none 0 0) [] W) _ HO0.out ?_
    clear HO0 d8 d8'
    obtain ⟨pb, hpb⟩ : ∃ pb, pb = W3.heap.size := ⟨_, rfl⟩
    have hs3l := lt_of_cell s3
    have hspb : w.heap.size ≠ pb := by omega
    have hspb' : pb ≠ w.heap.size := by omega
    have HSt := Lib.hid (fun W (h : Below W3.heap.size W3 W) => And.intro ((bcell h (lt_of_cell s0) _).trans s0) (And.intro ((bcell h (lt_of_cell s2) _).trans s2) ((bcell h (lt_of_cell s3) _).trans s3)))
    rw [← hpb]
    clear hpb s0 s1 s2 s3 hs3l
    intro W4 hO4
    have HO4 := Lib.hid hO4
    clear hO4
    go_wp2
    go_loopw [33] (fun s33 wr => ∃ (i : Nat) (V F : Value), i ≤ n ∧ s33 = .int .i64 (i : Int) ∧ Hid (OfI W3 pb ((toC a b).take i) V F (frC false a b i) wr)) (fun s33 _ => n - (intOf s33).toNat)
    case atStart => exact ⟨0, _, _, Nat.zero_le _, rfl, HO4.out⟩
    case round =>
      clear HO4
      obtain ⟨i, V, F, hi, rfl, HI⟩ := hrel
      by_cases hlt : i < n
      case pos =>
        have htl : ((toC a b).take i).length = i := by rw [List.length_take, toC_len]; have := HN.out; omega
        obtain ⟨A1, c1, w9, hr', e0, ef, hb9, hI9⟩ := (HI.out.to (Below.refl _ wr).drew).pushTo (((i + b) % n : Nat) : Int) (by rw [htl]; omega)
        have htn := toC_next (a := a) (b := b) (i := i) (by have := HN.out; omega)
        rw [← HN.out] at htn
        rw [← htn] at hI9
        obtain ⟨p0, p1, pf, ⟨A0, c0, hV⟩, -⟩ := HI.out.cells
        rw [htl] at hV hr' hI9
        subst hV
        have hr : (Builtin.append_ #[22, 22] 22 #[.slice A0 i c0, .slice (some ⟨wr.heap.size, 0, none⟩) 1 1]).run Try.prog ((wr.alloc (.cells #[.int .i64 (((i + b) % n : Nat) : Int)] 3)).drew) = .ok (.slice A1 (i + 1) c1) w9 := hr'
        clear hr'
        have HI9 := Lib.hid hI9
        have hrem : Int.tmod ((i : Int) + (b : Int)) (n : Int) = (((i + b) % n : Nat) : Int) := (Int.tmod_eq_emod_of_nonneg (by omega)).trans (by rw [← Int.natCast_add]; first | rfl | exact (Int.natCast_emod _ _).symm | norm_cast)
        have hwib : IntKind.i64.wrap ((i : Int) + (b : Int)) = (i : Int) + (b : Int) := IntWalk.i64_in _ (by omega)
        have hn0 : ((n : Int) == 0) = false := beq_eq_false_iff_ne.2 (by omega)
        have hn0' : (n == 0) = false := beq_eq_false_iff_ne.2 (by omega)
        have hn00 : ¬ (n : Int) = 0 := by omega
        have hn01 : ¬ n = 0 := by omega
        generalize (((i + b) % n : Nat) : Int) = rm at hr hrem
        have p2 := fun o => cell_al p0 o
        have t3 := (HSt.out wr HI.out.lo).2.2
        have hs0 : Hid (wr.drew.cell? ⟨w.heap.size, 3, none⟩ = some (.int .i64 (b : Int))) := t3
        have hs1 : Hid ((wr.alloc (.cells #[.int .i64 rm] 3)).drew.cell? ⟨w.heap.size, 3, none⟩ = some (.int .i64 (b : Int))) := cell_al t3 _
        have hs2 : Hid (w9.cell? ⟨w.heap.size, 3, none⟩ = some (.int .i64 (b : Int))) := (HSt.out w9 hb9).2.2
        have hs3 : Hid ((w9.setCell ⟨pb, 0, none⟩ (.slice A1 (i + 1) c1)).cell? ⟨w.heap.size, 3, none⟩ = some (.int .i64 (b : Int))) := by
          show _ = _
          rw [World.cell?_setCell_other _ _ _ _ (fun e => by cases e)]
          exact hs2.out
        clear hI9 hb9 htl htn t3 HI p1
        go_upto_region 13 with fail
        have hld : ∀ (t : TypeId) (x : Operand), ldOp t x = Op.load t x := fun _ _ => rfl
        rw [show Op.load 22 (Operand.tmp 36) = ldOp 22 (Operand.tmp 36) from rfl]
        go_region_held3 (fun W' => W'.cell? ⟨w.heap.size, 3, none⟩ = some (.int .i64 (b : Int)))
          (first | (with_reducible exact hs0.out) | (with_reducible exact hs1.out) | (with_reducible exact hs2.out) | (with_reducible exact hs3.out) | fail)
          (first | ((with_reducible refine at_world ((wr.alloc (.cells #[.int .i64 rm] 3)).drew) ?_); refine step_append_run (by rfl) _ _ _ _ (by rfl) _ _ (by rfl) (by rfl) hr ?_) | fail)
        all_goals
          clear hld hs0 hs1 hs2 hs3 hr e0 ef p0 p2 pf hrem hwib hn0 hn0' hn00 hn01
          go_upto_region 14 with fail
          refine abs_world (Q := fun W => Code.wp _ _ _ _ W) (F := fun W => OfI W3 pb ((toC a b).take (i + 1)) (.slice A1 (i + 1) c1) F (frC false a b i) W) _ HI9.out ?_
          clear HI9
          intro W5 hI5
          obtain ⟨s0, s2, s3⟩ := HSt.out W5 hI5.lo
          have HI5 := Lib.hid hI5
          clear hI5
          go_wp2
          clear s0 s2 s3
          go_loopw [8] (fun s8 wi => ∃ (k : Nat) (F : Value), a ≤ k ∧ k ≤ n ∧ s8 = .int .i64 (k : Int) ∧ Hid (OfI W3 pb ((toC a b).take (i + 1)) (.slice A1 (i + 1) c1) F (frC false a b i ++ frK false a i (k - a)) wi)) (fun s8 _ => n - (intOf s8).toNat)
          case atStart => exact ⟨a, F, Nat.le_refl _, (by have := HN.out; omega), rfl, by rw [Nat.sub_self, frK_zero, List.append_nil]; exact HI5.out⟩
          case round =>
            clear HI5
            obtain ⟨k, F, hak, hkn, rfl, HK⟩ := hrel
            obtain ⟨p0, p1, pf, -, ⟨A4, c4, hF4⟩⟩ := HK.out.cells
            obtain ⟨s0, s2, s3⟩ := HSt.out wr HK.out.lo
            obtain ⟨x4, hx4⟩ : ∃ x, x = (frC false a b i ++ frK false a i (k - a)).length := ⟨_, rfl⟩
            have hx4l : x4 ≤ 1000 := by
              rw [hx4, List.length_append]
              have h1 := frC_len false a b i
              have h2 := frK_len false a i (k - a)
              have h3 : i * b ≤ 8 * 8 := Nat.mul_le_mul (by omega) (by have := HN.out; omega)
              omega
            rw [← hx4] at hF4
            subst hF4
            have HX4 := Lib.hid hx4
            clear hx4
            have HFin : Hid (¬ ((false = true ∧ i < a) ∧ k < n) → OfI W3 pb ((toC a b).take (i + 1)) (.slice A1 (i + 1) c1) (.slice A4 x4 c4) (frC false a b (i + 1)) wr) := fun h => by
              rw [frC_next]
              by_cases h2 : false = true ∧ i < a
              · have e : k - a = b := by have := HN.out; have : ¬ k < n := fun h3 => h ⟨h2, h3⟩; omega
                have h1 := HK.out; rw [e] at h1; exact h1
              · have h1 := HK.out
                rw [frK_not h2] at h1
                rw [frK_not h2]; exact h1
            by_cases h1 : k < n
            case neg =>
              replace HFin := Lib.hid (HFin.out (fun h => h1 h.2))
              have d1 : decide (k < n) = false := decide_eq_false h1
              have d1' : decide ((k : Int) < (n : Int)) = false := decide_eq_false (by omega)
              clear h1 HK
              go_wp2
              go_roundw
              case rel => exact ⟨i + 1, _, _, by omega, by go_num, HFin.out⟩
              case measure => simp [intOf]; omega
            have d1 : decide (k < n) = true := decide_eq_true h1
            have d1' : decide ((k : Int) < (n : Int)) = true := decide_eq_true (by omega)
            by_cases h2 : i < a
            case neg =>
              replace HFin := Lib.hid (HFin.out (fun h => h2 h.1.2))
              have d2 : decide (i < a) = false := decide_eq_false h2
              have d2' : decide ((i : Int) < (a : Int)) = false := decide_eq_false (by omega)
              clear h1 h2 HK
              go_wp2
              go_roundw
              case rel => exact ⟨i + 1, _, _, by omega, by go_num, HFin.out⟩
              case measure => simp [intOf]; omega
            have d2 : decide (i < a) = true := decide_eq_true h2
            have d2' : decide ((i : Int) < (a : Int)) = true := decide_eq_true (by omega)
            replace HFin := Lib.hid (HFin.out (fun h => by cases h.1.1))
            clear h1 h2 HK
            go_wp2
            go_roundw
            case rel => exact ⟨i + 1, _, _, by omega, by go_num, HFin.out⟩
            case measure => simp [intOf]; omega
      case neg =>
        obtain rfl : i = n := by omega
        obtain ⟨p0, p1, pf, ⟨A0, c0, hV⟩, ⟨A1, c1, hF1⟩⟩ := HI.out.cells
        obtain ⟨x0, hx0⟩ : ∃ x0, x0 = ((toC a b).take i).length := ⟨_, rfl⟩
        obtain ⟨x1, hx1⟩ : ∃ x1, x1 = (frC false a b i).length := ⟨_, rfl⟩
        rw [← hx0] at hV
        rw [← hx1] at hF1
        subst hV hF1
        have HR6 := Lib.hid (HR3.out.to HI.out.lo)
        obtain ⟨r0, r1⟩ : _ ∧ _ := ⟨HR6.out.c0, HR6.out.c1⟩
        have rf := HR6.out.fz
        have hlt6 := lt_of_cell r0
        have HP := Lib.hid (HR6.out.put (.slice A0 x0 c0) (.slice A1 x1 c1))
        have HO := Lib.hid ((HI.out.out (r := ofE ⟨kind, purl, (a : Int), (b : Int)⟩) HR3.out (by rw [HF.out, List.take_of_length_le (by rw [toC_len, ← HN.out]; exact Nat.le_refl _)])).base HBs.out)
        clear HR6 HI HF HR3 HSt hx0 hx1 pf
        go_wp2
        exact of_close HP.out.1 HP.out.2.1 rfl rfl HO.out
  | true =>
    clear k7
    rw [Bool.not_true] at k6
    go_upto_region 7 with fail
    rw [HAb.out]
    by_cases h8 : 8 < n
    · have d8 : decide (8 < n) = true := decide_eq_true h8
      have d8' : decide ((8 : Int) < (n : Int)) = true := decide_eq_true (by omega)
      have HF : Hid (ofE ⟨kind, purl, (a : Int), (b : Int)⟩ = (⟨[], []⟩, 4)) := HE3'.out (by have := HN.out; show (8 : Int) < (a : Int) + (b : Int); omega)
      clear h8 HE3' HE4' s0 s1 s2 s3 k6 k6'
      obtain ⟨r0, r1⟩ : _ ∧ _ := ⟨HR3.out.c0, HR3.out.c1⟩
      have rf := HR3.out.fz
      have hlt' := lt_of_cell r0
      have HP := Lib.hid (HR3.out.put (.slice none 0 0) (.slice none 0 0))
      have HO := Lib.hid ((HR3.out.stop HF.out).base HBs.out)
      clear HR3 HF 
      go_wp2
      exact of_close HP.out.1 HP.out.2.1 rfl rfl HO.out
    have d8 : decide (8 < n) = false := decide_eq_false h8
    have d8' : decide ((8 : Int) < (n : Int)) = false := decide_eq_false (by omega)
    have HF : Hid (ofE ⟨kind, purl, (a : Int), (b : Int)⟩ = (⟨toC a b, frC true a b n⟩, 0)) := by
      have h := HE4'.out (by have := HN.out; omega)
      show _ = _
      rw [h, HN.out]
      rfl
    have HO0 := Lib.hid (OfI.new W3)
    have hn8 : n ≤ 8 := by omega
    clear HE3' HE4' h8
    go_upto_region 10 with fail
    refine abs_world (Q := fun W => Code.wp _ _ _ _ W) (F := fun W => OfI W3 W3.heap.size [] (.slice none 0 0) (.slice none 0 0) [] W) _ HO0.out ?_
    clear HO0 d8 d8'
    obtain ⟨pb, hpb⟩ : ∃ pb, pb = W3.heap.size := ⟨_, rfl⟩
    have hs3l := lt_of_cell s3
    have hspb : w.heap.size ≠ pb := by omega
    have hspb' : pb ≠ w.heap.size := by omega
    have HSt := Lib.hid (fun W (h : Below W3.heap.size W3 W) => And.intro ((bcell h (lt_of_cell s0) _).trans s0) (And.intro ((bcell h (lt_of_cell s2) _).trans s2) ((bcell h (lt_of_cell s3) _).trans s3)))
    rw [← hpb]
    clear hpb s0 s1 s2 s3 hs3l
    intro W4 hO4
    have HO4 := Lib.hid hO4
    clear hO4
    go_wp2
    go_loopw [33] (fun s33 wr => ∃ (i : Nat) (V F : Value), i ≤ n ∧ s33 = .int .i64 (i : Int) ∧ Hid (OfI W3 pb ((toC a b).take i) V F (frC true a b i) wr)) (fun s33 _ => n - (intOf s33).toNat)
    case atStart => exact ⟨0, _, _, Nat.zero_le _, rfl, HO4.out⟩
    case round =>
      clear HO4
      obtain ⟨i, V, F, hi, rfl, HI⟩ := hrel
      by_cases hlt : i < n
      case pos =>
        have htl : ((toC a b).take i).length = i := by rw [List.length_take, toC_len]; have := HN.out; omega
        obtain ⟨A1, c1, w9, hr', e0, ef, hb9, hI9⟩ := (HI.out.to (Below.refl _ wr).drew).pushTo (((i + b) % n : Nat) : Int) (by rw [htl]; omega)
        have htn := toC_next (a := a) (b := b) (i := i) (by have := HN.out; omega)
        rw [← HN.out] at htn
        rw [← htn] at hI9
        obtain ⟨p0, p1, pf, ⟨A0, c0, hV⟩, -⟩ := HI.out.cells
        rw [htl] at hV hr' hI9
        subst hV
        have hr : (Builtin.append_ #[22, 22] 22 #[.slice A0 i c0, .slice (some ⟨wr.heap.size, 0, none⟩) 1 1]).run Try.prog ((wr.alloc (.cells #[.int .i64 (((i + b) % n : Nat) : Int)] 3)).drew) = .ok (.slice A1 (i + 1) c1) w9 := hr'
        clear hr'
        have HI9 := Lib.hid hI9
        have hrem : Int.tmod ((i : Int) + (b : Int)) (n : Int) = (((i + b) % n : Nat) : Int) := (Int.tmod_eq_emod_of_nonneg (by omega)).trans (by rw [← Int.natCast_add]; first | rfl | exact (Int.natCast_emod _ _).symm | norm_cast)
        have hwib : IntKind.i64.wrap ((i : Int) + (b : Int)) = (i : Int) + (b : Int) := IntWalk.i64_in _ (by omega)
        have hn0 : ((n : Int) == 0) = false := beq_eq_false_iff_ne.2 (by omega)
        have hn0' : (n == 0) = false := beq_eq_false_iff_ne.2 (by omega)
        have hn00 : ¬ (n : Int) = 0 := by omega
        have hn01 : ¬ n = 0 := by omega
        generalize (((i + b) % n : Nat) : Int) = rm at hr hrem
        have p2 := fun o => cell_al p0 o
        have t3 := (HSt.out wr HI.out.lo).2.2
        have hs0 : Hid (wr.drew.cell? ⟨w.heap.size, 3, none⟩ = some (.int .i64 (b : Int))) := t3
        have hs1 : Hid ((wr.alloc (.cells #[.int .i64 rm] 3)).drew.cell? ⟨w.heap.size, 3, none⟩ = some (.int .i64 (b : Int))) := cell_al t3 _
        have hs2 : Hid (w9.cell? ⟨w.heap.size, 3, none⟩ = some (.int .i64 (b : Int))) := (HSt.out w9 hb9).2.2
        have hs3 : Hid ((w9.setCell ⟨pb, 0, none⟩ (.slice A1 (i + 1) c1)).cell? ⟨w.heap.size, 3, none⟩ = some (.int .i64 (b : Int))) := by
          show _ = _
          rw [World.cell?_setCell_other _ _ _ _ (fun e => by cases e)]
          exact hs2.out
        clear hI9 hb9 htl htn t3 HI p1
        go_upto_region 13 with fail
        have hld : ∀ (t : TypeId) (x : Operand), ldOp t x = Op.load t x := fun _ _ => rfl
        rw [show Op.load 22 (Operand.tmp 36) = ldOp 22 (Operand.tmp 36) from rfl]
        go_region_held3 (fun W' => W'.cell? ⟨w.heap.size, 3, none⟩ = some (.int .i64 (b : Int)))
          (first | (with_reducible exact hs0.out) | (with_reducible exact hs1.out) | (with_reducible exact hs2.out) | (with_reducible exact hs3.out) | fail)
          (first | ((with_reducible refine at_world ((wr.alloc (.cells #[.int .i64 rm] 3)).drew) ?_); refine step_append_run (by rfl) _ _ _ _ (by rfl) _ _ (by rfl) (by rfl) hr ?_) | fail)
        all_goals
          clear hld hs0 hs1 hs2 hs3 hr e0 ef p0 p2 pf hrem hwib hn0 hn0' hn00 hn01
          go_upto_region 14 with fail
          refine abs_world (Q := fun W => Code.wp _ _ _ _ W) (F := fun W => OfI W3 pb ((toC a b).take (i + 1)) (.slice A1 (i + 1) c1) F (frC true a b i) W) _ HI9.out ?_
          clear HI9
          intro W5 hI5
          obtain ⟨s0, s2, s3⟩ := HSt.out W5 hI5.lo
          have HI5 := Lib.hid hI5
          clear hI5
          go_wp2
          clear s0 s2 s3
          go_loopw [8] (fun s8 wi => ∃ (k : Nat) (F : Value), a ≤ k ∧ k ≤ n ∧ s8 = .int .i64 (k : Int) ∧ Hid (OfI W3 pb ((toC a b).take (i + 1)) (.slice A1 (i + 1) c1) F (frC true a b i ++ frK true a i (k - a)) wi)) (fun s8 _ => n - (intOf s8).toNat)
          case atStart => exact ⟨a, F, Nat.le_refl _, (by have := HN.out; omega), rfl, by rw [Nat.sub_self, frK_zero, List.append_nil]; exact HI5.out⟩
          case round =>
            clear HI5
            obtain ⟨k, F, hak, hkn, rfl, HK⟩ := hrel
            obtain ⟨p0, p1, pf, -, ⟨A4, c4, hF4⟩⟩ := HK.out.cells
            obtain ⟨s0, s2, s3⟩ := HSt.out wr HK.out.lo
            obtain ⟨x4, hx4⟩ : ∃ x, x = (frC true a b i ++ frK true a i (k - a)).length := ⟨_, rfl⟩
            have hx4l : x4 ≤ 1000 := by
              rw [hx4, List.length_append]
              have h1 := frC_len true a b i
              have h2 := frK_len true a i (k - a)
              have h3 : i * b ≤ 8 * 8 := Nat.mul_le_mul (by omega) (by have := HN.out; omega)
              omega
            rw [← hx4] at hF4
            subst hF4
            have HX4 := Lib.hid hx4
            clear hx4
            have HFin : Hid (¬ ((true = true ∧ i < a) ∧ k < n) → OfI W3 pb ((toC a b).take (i + 1)) (.slice A1 (i + 1) c1) (.slice A4 x4 c4) (frC true a b (i + 1)) wr) := fun h => by
              rw [frC_next]
              by_cases h2 : true = true ∧ i < a
              · have e : k - a = b := by have := HN.out; have : ¬ k < n := fun h3 => h ⟨h2, h3⟩; omega
                have h1 := HK.out; rw [e] at h1; exact h1
              · have h1 := HK.out
                rw [frK_not h2] at h1
                rw [frK_not h2]; exact h1
            by_cases h1 : k < n
            case neg =>
              replace HFin := Lib.hid (HFin.out (fun h => h1 h.2))
              have d1 : decide (k < n) = false := decide_eq_false h1
              have d1' : decide ((k : Int) < (n : Int)) = false := decide_eq_false (by omega)
              clear h1 HK
              go_wp2
              go_roundw
              case rel => exact ⟨i + 1, _, _, by omega, by go_num, HFin.out⟩
              case measure => simp [intOf]; omega
            have d1 : decide (k < n) = true := decide_eq_true h1
            have d1' : decide ((k : Int) < (n : Int)) = true := decide_eq_true (by omega)
            by_cases h2 : i < a
            case neg =>
              replace HFin := Lib.hid (HFin.out (fun h => h2 h.1.2))
              have d2 : decide (i < a) = false := decide_eq_false h2
              have d2' : decide ((i : Int) < (a : Int)) = false := decide_eq_false (by omega)
              clear h1 h2 HK
              go_wp2
              go_roundw
              case rel => exact ⟨i + 1, _, _, by omega, by go_num, HFin.out⟩
              case measure => simp [intOf]; omega
            have d2 : decide (i < a) = true := decide_eq_true h2
            have d2' : decide ((i : Int) < (a : Int)) = true := decide_eq_true (by omega)
            have HGo : Hid (OfI W3 pb ((toC a b).take (i + 1)) (.slice A1 (i + 1) c1) (.slice A4 x4 c4) (frC true a b i ++ frK true a i (k - a)) wr) := HK.out
            obtain ⟨A6, c6, w6, hr6, y1, yf, hI6⟩ := HGo.out.pushFr (i : Int) (k : Int) (by rw [← HX4.out]; omega)
            rw [← HX4.out] at hr6 hI6
            have hI7 := hI6
            rw [List.append_assoc] at hI7
            have e1 : frK true a i (k + 1 - a) = frK true a i (k - a) ++ [((i : Int), (k : Int))] := by rw [show k + 1 - a = (k - a) + 1 by omega, frK_next ⟨rfl, h2⟩, show a + (k - a) = k by omega]
            rw [← e1] at hI7
            have HI6 := Lib.hid hI7
            clear hI7 e1
            have z1' := cell_al p1 (.cells #[.int .i64 (i : Int), .int .i64 (k : Int)] 66)
            clear hI6 HGo HK HFin HX4
            go_wp2_with (at_builtin; refine wpList_append_run _ rfl _ _ _ _ rfl _ _ (by rfl) (by rfl) hr6 ?_)
            clear hr6 p0 p1 z1' y1 yf pf
            go_roundw
            case rel => exact ⟨k + 1, _, by omega, by omega, by go_num, HI6.out⟩
            case measure => simp [intOf]; omega
      case neg =>
        obtain rfl : i = n := by omega
        obtain ⟨p0, p1, pf, ⟨A0, c0, hV⟩, ⟨A1, c1, hF1⟩⟩ := HI.out.cells
        obtain ⟨x0, hx0⟩ : ∃ x0, x0 = ((toC a b).take i).length := ⟨_, rfl⟩
        obtain ⟨x1, hx1⟩ : ∃ x1, x1 = (frC true a b i).length := ⟨_, rfl⟩
        rw [← hx0] at hV
        rw [← hx1] at hF1
        subst hV hF1
        have HR6 := Lib.hid (HR3.out.to HI.out.lo)
        obtain ⟨r0, r1⟩ : _ ∧ _ := ⟨HR6.out.c0, HR6.out.c1⟩
        have rf := HR6.out.fz
        have hlt6 := lt_of_cell r0
        have HP := Lib.hid (HR6.out.put (.slice A0 x0 c0) (.slice A1 x1 c1))
        have HO := Lib.hid ((HI.out.out (r := ofE ⟨kind, purl, (a : Int), (b : Int)⟩) HR3.out (by rw [HF.out, List.take_of_length_le (by rw [toC_len, ← HN.out]; exact Nat.le_refl _)])).base HBs.out)
        clear HR6 HI HF HR3 HSt hx0 hx1 pf
        go_wp2
        exact of_close HP.out.1 HP.out.2.1 rfl rfl HO.out
end Go.Proofs.Ytodjkifcbgmckaa
