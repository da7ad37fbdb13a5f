/- Layer 29: Of, the braid of a cable. -/
import Derived.Test.YtodjkifcbgmckaaHrep
import Derived.Test.YtodjkifcbgmckaaSt2
namespace Go.Proofs.Ytodjkifcbgmckaa
open Go.RowKit Go.Shelf Go.Sort
set_option maxRecDepth 100000

def toC (a b : Nat) : List Int := (List.range (a + b)).map fun i => (((i + b) % (a + b) : Nat) : Int)
def frI (q : Bool) (a b i : Nat) : List (Int × Int) := if q = true ∧ i < a then (List.range b).map fun k => ((i : Int), ((a + k : Nat) : Int)) else []
def frC (q : Bool) (a b n : Nat) : List (Int × Int) := (List.range n).flatMap (frI q a b)
/-- What Of answers. -/
def ofE (s : Stc) : Brd × Int :=
  if s.err ≠ 0 then (⟨[], []⟩, s.err)
  else if s.kind ≠ 6 ∧ s.kind ≠ 7 then (⟨[], []⟩, 2)
  else if 8 < s.a + s.b then (⟨[], []⟩, 4)
  else (⟨toC s.a.toNat s.b.toNat, frC (decide (s.kind = 6)) s.a.toNat s.b.toNat (s.a.toNat + s.b.toNat)⟩, 0)
theorem of_close {W : World} {tmps : Array Value} {v f : Value} {x : Int} {b : Nat} {R : Ending → World → Prop} (c0 : W.cell? ⟨b, 0, none⟩ = some v) (c1 : W.cell? ⟨b, 1, none⟩ = some f) (h6 : tmps[2]?.getD undef = .pointer (some ⟨b, 0, none⟩)) (h7 : tmps[3]?.getD undef = .int .i64 x) (hR : R (.returned (.tuple #[.agg #[v, f], .int .i64 x])) W) :
    bodyPost Try.prog Try.f15 R .ret { tmps := tmps, defers := [] } W := by
  refine bodyPost_ret (v := .tuple #[.agg #[v, f], .int .i64 x]) ?_ rfl hR
  simp [results, Try.results15, go_sem, h6, h7, c0, c1]
theorem brdOut.base {r : Brd × Int} {w w1 w' : World} {e : Ending} (h : brdOut r w1 e w') (hb : Below w.heap.size w w1) : brdOut r w e w' := by
  obtain ⟨v, f, rfl, ho, hb'⟩ := h
  exact ⟨v, f, rfl, owns_base ho hb.size, hb.trans (hb'.mono hb.size)⟩
theorem rowB_put0 {w : World} {B b : Nat} {v f : Value} {L : List Own} (h : Owns w B (rowB b v f :: L)) (g : Value) : Owns (w.setCell ⟨b, 0, none⟩ g) B (rowB b g f :: L) := by
  have h0 : w.ownsRow B 26 2 (.slice (some ⟨b, 0, none⟩) 1 1) 1 [v, f] := h.head
  obtain ⟨h1, h2⟩ := World.ownsRow.stored h0 0 g
  exact h.turn (o' := rowB b g f) h2 h1 (fun k hk => Or.inl hk)
def rowZ (v : Value) (l : List Int) : Own := ⟨3, 1, l.length, v, intV l⟩
/-- A braid that is being made, in a box. -/
structure OfI (W1 : World) (pb : Nat) (to_ : List Int) (V F : Value) (prs : List (Int × Int)) (W : World) : Prop where
  own : Owns W W1.heap.size [rowZ V to_, rowP F prs, rowB pb V F]
  lo : Below W1.heap.size W1 W
theorem OfI.new (W1 : World) : OfI W1 W1.heap.size [] (.slice none 0 0) (.slice none 0 0) [] (W1.alloc brdZero) :=
  ⟨((Owns.nil.add (o := rowB W1.heap.size (.slice none 0 0) (.slice none 0 0)) ((Below.refl _ W1).alloc (Nat.le_refl _) brdZero) (Nat.le_refl _) (box_new W1 _ _)).none 66 2).none 3 1, (Below.refl _ W1).alloc (Nat.le_refl _) _⟩
theorem OfI.cells {W1 W : World} {pb : Nat} {to_ : List Int} {V F : Value} {prs : List (Int × Int)} (h : OfI W1 pb to_ V F prs W) : W.cell? ⟨pb, 0, none⟩ = some V ∧ W.cell? ⟨pb, 1, none⟩ = some F ∧ (∀ k, W.frozen? ⟨pb, k, none⟩ = false) ∧ (∃ A c, V = .slice A to_.length c) ∧ ∃ A c, F = .slice A prs.length c := by
  obtain ⟨h0, h1, hf⟩ := rowB_at (h.own.all (rowB pb V F) (by simp))
  have h2 : W.ownsRow W1.heap.size 66 2 F prs.length (prCells prs) := h.own.all (rowP F prs) (by simp)
  have h3 : W.ownsRow W1.heap.size 3 1 V to_.length (intV to_) := h.own.head
  obtain ⟨A, c, e, -⟩ := own_slice h2
  obtain ⟨A', c', e', -⟩ := own_slice h3
  exact ⟨h0, h1, hf, ⟨A', c', e'⟩, ⟨A, c, e⟩⟩
/-- A number is appended. -/
theorem OfI.pushTo {W1 W : World} {pb : Nat} {to_ : List Int} {V F : Value} {prs : List (Int × Int)} (h : OfI W1 pb to_ V F prs W) (x : Int) (hn : to_.length ≤ 100000) :
    ∃ A c w', (Builtin.append_ #[22, 22] 22 #[V, .slice (some ⟨W.heap.size, 0, none⟩) 1 1]).run Try.prog (W.alloc (.cells #[.int .i64 x] 3)) = .ok (.slice A (to_.length + 1) c) w' ∧ w'.cell? ⟨pb, 0, none⟩ = some V ∧ w'.frozen? ⟨pb, 0, none⟩ = false ∧ Below W1.heap.size W1 w' ∧
      OfI W1 pb (to_ ++ [x]) (.slice A (to_.length + 1) c) F prs (w'.setCell ⟨pb, 0, none⟩ (.slice A (to_.length + 1) c)) := by
  obtain ⟨ii, hii, hii0, hii1, hii2⟩ := info_parts info_int'
  have hba : Below W.heap.size W (W.alloc (.cells #[.int .i64 x] 3)) := (Below.refl _ W).alloc (Nat.le_refl _) _
  have ho := h.own.to hba
  have hsz := h.lo.size
  have h0 : (W.alloc (.cells #[.int .i64 x] 3)).ownsRow W1.heap.size 3 1 V to_.length (intV to_) := ho.head
  have hnew : ∀ j u, [Value.int .i64 x][j]? = some u → (W.alloc (.cells #[.int .i64 x] 3)).cell? ((⟨W.heap.size, 0, none⟩ : Addr).add j) = some u := newsT W _ _ _ rfl
  obtain ⟨A, c, w', hr, ho1, hg1, hn1⟩ := run_app_any Try.underlying22 hii hii0 hii1 hii2 rfl (by decide) h0 (some ⟨W.heap.size, 0, none⟩) 1 1 [.int .i64 x] rfl (fun e => by cases e) (fun ad e => by cases e; exact hnew) (by intro u hu; simp at hu; subst hu; rfl) (by unfold maxLen; omega) (by omega) (by have := hba.size; omega)
  have hrow : (rowZ (.slice A (to_.length + 1) c) (to_ ++ [x])).lies w' W1.heap.size := by
    unfold rowZ Own.lies
    rw [List.length_append, List.length_singleton, show intV (to_ ++ [x]) = intV to_ ++ [.int .i64 x] by unfold intV; rw [List.map_append]; rfl]
    exact ho1
  have ht := ho.turn (o' := rowZ (.slice A (to_.length + 1) c) (to_ ++ [x])) hg1 hrow hn1
  obtain ⟨e0, e1, e2⟩ := rowB_at (ht.all (rowB pb V F) (by simp))
  have hbw : Below W1.heap.size W1 w' := (h.lo.trans (hba.mono hsz)).trans (Below.of_grown hg1 (by have := hba.size; omega) (fun k e => (World.ownsRow.lt h0 k e).1))
  have hpb : W1.heap.size ≤ pb := (World.ownsRow.lt (h.own.all (rowB pb V F) (by simp)) pb rfl).1
  refine ⟨A, c, w', hr, e0, e2 0, hbw, ?_, hbw.setCell (p := ⟨pb, 0, none⟩) hpb _⟩
  have hp := ht.perm (L' := [rowB pb V F, rowZ (.slice A (to_.length + 1) c) (to_ ++ [x]), rowP F prs]) ((List.Perm.cons _ (List.Perm.swap _ _ _)).trans (List.Perm.swap _ _ _))
  exact (rowB_put0 hp (.slice A (to_.length + 1) c)).perm ((List.Perm.swap _ _ _).trans (List.Perm.cons _ (List.Perm.swap _ _ _)))
/-- A pair is appended. -/
theorem OfI.pushFr {W1 W : World} {pb : Nat} {to_ : List Int} {V F : Value} {prs : List (Int × Int)} (h : OfI W1 pb to_ V F prs W) (a b : Int) (hn : prs.length ≤ 100000) :
    ∃ A c w', (Builtin.append_ #[24, 24] 24 #[F, .slice (some ⟨W.heap.size, 0, none⟩) 1 1]).run Try.prog (W.alloc (.cells #[.int .i64 a, .int .i64 b] 66)) = .ok (.slice A (prs.length + 1) c) w' ∧ w'.cell? ⟨pb, 1, none⟩ = some F ∧ w'.frozen? ⟨pb, 1, none⟩ = false ∧
      OfI W1 pb to_ V (.slice A (prs.length + 1) c) (prs ++ [(a, b)]) (w'.setCell ⟨pb, 1, none⟩ (.slice A (prs.length + 1) c)) := by
  obtain ⟨ii, hii, hii0, hii1, hii2⟩ := info_parts info_pair
  have hba : Below W.heap.size W (W.alloc (.cells #[.int .i64 a, .int .i64 b] 66)) := (Below.refl _ W).alloc (Nat.le_refl _) _
  have ho := (h.own.to hba).swap
  have hsz := h.lo.size
  have h0 : (W.alloc (.cells #[.int .i64 a, .int .i64 b] 66)).ownsRow W1.heap.size 66 2 F prs.length (prCells prs) := ho.head
  have hnew : ∀ j u, [Value.int .i64 a, .int .i64 b][j]? = some u → (W.alloc (.cells #[.int .i64 a, .int .i64 b] 66)).cell? ((⟨W.heap.size, 0, none⟩ : Addr).add j) = some u := newsT W _ _ _ rfl
  obtain ⟨A, c, w', hr, ho1, hg1, hn1⟩ := run_app_any Try.underlying24 hii hii0 hii1 hii2 rfl (by decide) h0 (some ⟨W.heap.size, 0, none⟩) 1 1 [.int .i64 a, .int .i64 b] rfl (fun e => by cases e) (fun ad e => by cases e; exact hnew) (by intro u hu; simp at hu; rcases hu with rfl | rfl <;> rfl) (by unfold maxLen; omega) (by omega) (by have := hba.size; omega)
  have hrow : (rowP (.slice A (prs.length + 1) c) (prs ++ [(a, b)])).lies w' W1.heap.size := by
    unfold rowP Own.lies
    rw [List.length_append, List.length_singleton, pr_snoc]
    exact ho1
  have ht := ho.turn (o' := rowP (.slice A (prs.length + 1) c) (prs ++ [(a, b)])) hg1 hrow hn1
  obtain ⟨e0, e1, e2⟩ := rowB_at (ht.all (rowB pb V F) (by simp))
  have hpb : W1.heap.size ≤ pb := (World.ownsRow.lt (h.own.all (rowB pb V F) (by simp)) pb rfl).1
  refine ⟨A, c, w', hr, e1, e2 1, ?_, ((h.lo.trans (hba.mono hsz)).trans (Below.of_grown hg1 (by have := hba.size; omega) (fun k e => (World.ownsRow.lt h0 k e).1))).setCell (p := ⟨pb, 1, none⟩) hpb _⟩
  have hp := ht.perm (L' := [rowB pb V F, rowP (.slice A (prs.length + 1) c) (prs ++ [(a, b)]), rowZ V to_]) ((List.Perm.cons _ (List.Perm.swap _ _ _)).trans (List.Perm.swap _ _ _))
  exact (rowB_put1 hp (.slice A (prs.length + 1) c)).perm ((List.Perm.cons _ (List.Perm.swap _ _ _)).trans ((List.Perm.swap _ _ _).trans (List.Perm.cons _ (List.Perm.swap _ _ _))))
theorem OfI.out {w W1 W : World} {pb : Nat} {to_ : List Int} {V F : Value} {prs : List (Int × Int)} {r : Brd × Int} (h : OfI W1 pb to_ V F prs W) (hR : RsB w W1) (hr : r = (⟨to_, prs⟩, 0)) : brdOut r w (.returned (.tuple #[.agg #[V, F], .int .i64 0])) ((W.setCell ⟨w.heap.size, 0, none⟩ V).setCell ⟨w.heap.size, 1, none⟩ F) := by
  subst hr
  have ho : Owns W W1.heap.size [rowZ V to_, rowP F prs] := h.own.sub (List.Sublist.cons_cons _ (List.Sublist.cons_cons _ (List.nil_sublist _)))
  have hs := hR.sz
  exact ⟨_, _, rfl, owns_base (owns_low (owns_low ho (by omega) 0 _) (by omega) 1 _) (by omega), ((hR.to h.lo).put _ _).2.2⟩
end Go.Proofs.Ytodjkifcbgmckaa
