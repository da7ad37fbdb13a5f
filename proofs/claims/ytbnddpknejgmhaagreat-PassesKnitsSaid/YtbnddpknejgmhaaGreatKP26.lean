/- Layer 27, the program: add. Library contracts at rows of numbers that the caller owns: Reverse, Clone. -/
import Derived.Test.YtbnddpknejgmhaaGreatKP25
import Derived.Sort.CutIn
import Derived.Deep.AppendLies
import Derived.Deep.RegionLaw
import Derived.Test.YtbnddpknejgmhaaGreatShelf
import Derived.Lib.OwnBridge
namespace Go.Proofs.YtbnddpknejgmhaaGreat
open Go.RowKit Go.Shelf Go.Sort
set_option maxRecDepth 100000

def addL (row cell : Int) (purl : Bool) (ps : List (List Int)) : List Lp := ps.map fun q => ⟨row, cell, q, purl⟩
theorem addL_next {row cell : Int} {purl : Bool} {ps : List (List Int)} {k : Nat} {q : List Int} (h : ps[k]? = some q) : addL row cell purl (ps.take (k + 1)) = addL row cell purl (ps.take k) ++ [⟨row, cell, q, purl⟩] := by
  unfold addL
  rw [List.take_add_one, h]
  simp
theorem addL_len (row cell : Int) (purl : Bool) (ps : List (List Int)) : (addL row cell purl ps).length = ps.length := by unfold addL; rw [List.length_map]
theorem rowsO_drop {ks : List Value} {K : List (List Int)} {j : Nat} {v : Value} {r : List Int} (hv : ks[j]? = some v) (hr : K[j]? = some r) : rowsO (ks.drop j) (K.drop j) = pxJ v r :: rowsO (ks.drop (j + 1)) (K.drop (j + 1)) := by
  obtain ⟨h1, e1⟩ := List.getElem?_eq_some_iff.1 hv
  obtain ⟨h2, e2⟩ := List.getElem?_eq_some_iff.1 hr
  rw [List.drop_eq_getElem_cons h1, List.drop_eq_getElem_cons h2, e1, e2]
  rfl
theorem pxV_at {w : World} {B n c : Nat} {a : Option Addr} {ks : List Value} (h : (pxV (.slice a n c) ks).lies w B) (hn : ks.length = n) {k : Nat} {v : Value} (hk : ks[k]? = some v) : ∃ g, a = some ⟨g, 0, none⟩ ∧ w.cell? ⟨g, k, none⟩ = some v := by
  have h0 : w.ownsRow B 43 1 (.slice a n c) ks.length ks := h
  have h1 := (List.getElem?_eq_some_iff.1 hk).1
  subst hn
  rcases h0.2 with ⟨-, e⟩ | ⟨g, cap, cur, hv, -⟩
  · omega
  · cases hv
    exact ⟨g, rfl, by rw [h0.cellAt k (by omega), hk]⟩
/-- A loop in a box. -/
abbrev lpO (lb : Nat) (row cell : Int) (v : Value) (purl : Bool) : Own := bxT 49 lb [.int .i64 row, .int .i64 cell, v, .bool purl]
def AdPost (B pb : Nat) (t : Pw) (X : List Own) (w : World) (e : Ending) (w' : World) : Prop := e = .returned (.tuple #[]) ∧ QcE B pb t X w' ∧ Below B w w'
set_option maxHeartbeats 4000000 in
theorem padd_any (B pb : Nat) (t : Pw) (row cell : Int) (v0 : Value) (purl : Bool) (a : Option Addr) (n c : Nat) (ks : List Value) (ps : List (List Int)) (hn : ks.length = n) (hp : ps.length = n) (hl : t.lp.length + n ≤ 100000) (X : List Own) (w : World)
    (h : QcE B pb t (pxV (.slice a n c) ks :: (rowsO ks ps ++ X)) w) (hB : B ≤ w.heap.size) :
    Calls Tryz.prog 84 #[.pointer (some ⟨pb, 0, none⟩), .agg #[.int .i64 row, .int .i64 cell, v0, .bool purl], .slice a n c] w fun e w' => AdPost B pb ⟨t.lp ++ addL row cell purl ps, t.bound, t.cross, t.rows, t.next⟩ X w e w' := by
  have hal := al_t w (.cells #[.int .i64 row, .int .i64 cell, v0, .bool purl] 49)
  obtain ⟨lb, hlb⟩ : ∃ lb, lb = w.heap.size := ⟨_, rfl⟩
  have H1 : Hid (QcE B pb ⟨t.lp ++ addL row cell purl (ps.take 0), t.bound, t.cross, t.rows, t.next⟩ (lpO lb row cell v0 purl :: pxV (.slice a n c) ks :: (rowsO (ks.drop 0) (ps.drop 0) ++ X)) (w.alloc (.cells #[.int .i64 row, .int .i64 cell, v0, .bool purl] 49)) ∧ Below B w (w.alloc (.cells #[.int .i64 row, .int .i64 cell, v0, .bool purl] 49))) := by
    rw [hlb, List.take_zero]
    refine ⟨?_, hal.mono hB⟩
    have := h.add hal hB (bxT_new w 49 [.int .i64 row, .int .i64 cell, v0, .bool purl])
    simpa [addL] using this
  clear h hal
  go_enter Tryz.func84, Tryz.ntmps84
  go_wp2
  simp only [← hlb]
  clear hlb
  go_loopw [7, 10] (fun s7 s10 wr => ∃ (k : Nat) (v7 v : Value), k ≤ n ∧ s10 = .int .i64 (k : Int) ∧ v7 = s7 ∧ Hid (QcE B pb ⟨t.lp ++ addL row cell purl (ps.take k), t.bound, t.cross, t.rows, t.next⟩ (lpO lb row cell v purl :: pxV (.slice a n c) ks :: (rowsO (ks.drop k) (ps.drop k) ++ X)) wr ∧ Below B w wr)) (fun _ s10 _ => n - (intOf s10).toNat)
  case atStart => exact ⟨0, _, v0, Nat.zero_le _, rfl, rfl, H1.out⟩
  case round =>
    obtain ⟨k, v7, v, hk, rfl, rfl, HX⟩ := hrel
    clear H1
    by_cases hlt : k < n
    · obtain ⟨u, hu⟩ : ∃ u, ks[k]? = some u := ⟨_, List.getElem?_eq_getElem (by omega)⟩
      obtain ⟨q, hq⟩ : ∃ q, ps[k]? = some q := ⟨_, List.getElem?_eq_getElem (by omega)⟩
      have hx := HX.out.1
      rw [rowsO_drop hu hq] at hx
      obtain ⟨pa, pc, rfl⟩ := pxJ_is (hx.mem (o := pxJ u q) (by simp)) rfl
      clear hx
      obtain ⟨g, rfl, y0⟩ := pxV_at (HX.out.1.mem (List.mem_cons_of_mem _ List.mem_cons_self)) hn hu
      obtain ⟨b1, b2, -, -⟩ := bxT_at (HX.out.1.mem List.mem_cons_self)
      have x2 := b1 2 _ rfl
      have f2 := b2 2
      have hBs : B ≤ wr.heap.size := Nat.le_trans hB HX.out.2.size
      obtain ⟨h1, h2⟩ := HX.out.1.set hBs 2 (.slice pa q.length pc)
      have HS := Lib.hid (And.intro h1 (HX.out.2.trans h2))
      clear h1 h2 b1 b2 HX
      go_upto_region 5 with fail
      refine abs_world (Q := fun W => Code.wp _ _ _ _ W) (F := fun W => QcE B pb ⟨t.lp ++ addL row cell purl (ps.take k), t.bound, t.cross, t.rows, t.next⟩ (lpO lb row cell (.slice pa q.length pc) purl :: pxV (.slice (some ⟨g, 0, none⟩) n c) ks :: (rowsO (ks.drop k) (ps.drop k) ++ X)) W ∧ Below B w W) _ HS.out ?_
      clear HS y0 x2 f2 hBs
      rintro W ⟨hX, hb⟩
      rw [rowsO_drop hu hq] at hX
      have hX2 : QcE B pb ⟨t.lp ++ addL row cell purl (ps.take k), t.bound, t.cross, t.rows, t.next⟩ (pxJ (.slice pa q.length pc) q :: lpO lb row cell (.slice pa q.length pc) purl :: pxV (.slice (some ⟨g, 0, none⟩) n c) ks :: (rowsO (ks.drop (k + 1)) (ps.drop (k + 1)) ++ X)) W := by
        refine hX.perm ?_
        exact (List.Perm.cons _ (List.Perm.swap _ _ _)).trans (List.Perm.swap _ _ _)
      have hBs : B ≤ W.heap.size := Nat.le_trans hB hb.size
      obtain ⟨b1, -⟩ := bxT_at (hX2.mem (List.mem_cons_of_mem _ List.mem_cons_self))
      have x0 := b1 0 _ rfl
      have x1 := b1 1 _ rfl
      have x2 := b1 2 _ rfl
      have x3 := b1 3 _ rfl
      have hbd : Below W.heap.size W W.drew := Below.drew (Below.refl _ _)
      obtain ⟨vL, vB, vC, vR, vs, hP⟩ := hX2.to hbd
      obtain ⟨a1, c1, rfl⟩ := hP.forms.1
      have y0 : W.cell? ⟨pb, 0, none⟩ = some (.slice a1 (t.lp ++ addL row cell purl (ps.take k)).length c1) := hP.cells.1
      have y0a := cell_al y0 (.cells #[.int .i64 row, .int .i64 cell, .slice pa q.length pc, .bool purl] 49)
      obtain ⟨A', c', w', hr9, hf, y0', hQ, hb2⟩ := hP.push (l := ⟨row, cell, q, purl⟩) hBs (by show (t.lp ++ addL row cell purl (ps.take k)).length ≤ 100000; rw [List.length_append, addL_len, List.length_take]; omega)
      have hr : (Builtin.append_ #[32, 32] 32 #[.slice a1 (t.lp ++ addL row cell purl (ps.take k)).length c1, .slice (some ⟨W.heap.size, 0, none⟩) 1 1]).run Tryz.prog ((W.alloc (.cells #[.int .i64 row, .int .i64 cell, .slice pa q.length pc, .bool purl] 49)).drew) = .ok (.slice A' ((t.lp ++ addL row cell purl (ps.take k)).length + 1) c') w' := hr9
      have e := addL_next (row := row) (cell := cell) (purl := purl) hq
      simp only [List.append_assoc] at hQ
      rw [← e] at hQ
      have HQ := Lib.hid (And.intro hQ (hb.trans ((hbd.mono hBs).trans hb2)))
      obtain ⟨m, hm⟩ : ∃ m, m = (t.lp ++ addL row cell purl (ps.take k)).length := ⟨_, rfl⟩
      obtain ⟨pn, hpn⟩ : ∃ m, m = q.length := ⟨_, rfl⟩
      have hf0 := hf 0
      simp only [← hm, ← hpn] at hr y0 y0a y0' HQ x2 ⊢
      clear hf hQ hb hb2 hP hX b1 e hm hpn hu hq hBs hr9 hbd
      go_region_law (refine step_append_run (by rfl) _ _ _ _ (by rfl) _ _ (by rfl) (by rfl) hr ?_)
      all_goals
        go_wp2
        go_roundw
        case rel => exact ⟨k + 1, _, _, by omega, by go_num, rfl, ⟨_, _, _, _, _, HQ.out.1⟩, HQ.out.2⟩
        case measure => simp [intOf]; omega
    · have hkn : k = n := by omega
      have hX := HX.out
      rw [hkn] at hX
      have HQ : Hid (AdPost B pb ⟨t.lp ++ addL row cell purl ps, t.bound, t.cross, t.rows, t.next⟩ X w (.returned (.tuple #[])) wr) := by
        refine ⟨rfl, ?_, hX.2⟩
        have h1 := hX.1
        rw [List.take_of_length_le (by omega), List.drop_of_length_le (by omega), List.drop_of_length_le (by omega)] at h1
        exact h1.lift ((List.sublist_cons_self _ _).trans (List.sublist_cons_self _ _))
      clear hX HX
      go_wp2
      refine bodyPost_end (results_none rfl _ _ _) rfl ?_
      exact HQ.out
end Go.Proofs.YtbnddpknejgmhaaGreat
namespace Go.Proofs.YtbnddpknejgmhaaGreat
open Go.RowKit Go.Shelf Go.Sort
set_option maxRecDepth 100000

theorem grown_rowJ {w : World} {g n : Nat} (d : Array Int) : w.grownBy (putRow (Value.int .i64) (Sort.ahead w n) g 0 d) (some g) := by
  refine ⟨rfl, rfl, rfl, by simp, fun k hk hne => ?_⟩
  have : g ≠ k := fun e => hne (by rw [e])
  simp [putRow, mapBlock, Sort.ahead, Array.getElem?_modify, this]
theorem holdsJ {w : World} {B g n c : Nat} {l : List Int} (h : (pxJ (.slice (some ⟨g, 0, none⟩) n c) l).lies w B) (hn : l.length = n) : Holds (Value.int .i64) w g 0 l.toArray := fun j hj => by
  subst hn
  have h0 : w.ownsRow B 3 1 (.slice (some ⟨g, 0, none⟩) l.length c) l.length (l.map (Value.int .i64)) := h
  have hj' : j < l.length := by simpa using hj
  rw [Nat.zero_add]
  refine ⟨?_, h0.frozenAt j⟩
  rw [h0.cellAt j (by omega), List.getElem?_map, List.getElem?_eq_getElem hj', getElem!_pos l.toArray j hj]; rfl
/-- Another row of the same length in its place. -/
theorem putJ {w : World} {B g n c q : Nat} {l l' : List Int} {L : List Own} (h : Owns w B (pxJ (.slice (some ⟨g, 0, none⟩) n c) l :: L)) (hn : l.length = n) (hn' : l'.length = n) (hB : B ≤ w.heap.size) :
    Owns (putRow (Value.int .i64) (Sort.ahead w q) g 0 l'.toArray) B (pxJ (.slice (some ⟨g, 0, none⟩) n c) l' :: L) ∧ Below B w (putRow (Value.int .i64) (Sort.ahead w q) g 0 l'.toArray) := by
  subst hn
  have h0 : w.ownsRow B 3 1 (.slice (some ⟨g, 0, none⟩) l.length c) l.length (l.map (Value.int .i64)) := h.head
  obtain ⟨g1, -⟩ := World.ownsRow.lt h0 g rfl
  have h1 := Lib.ownsRow_putRow (q := q) h0 hn' (Nat.le_refl _)
  rw [List.take_of_length_le (by omega)] at h1
  refine ⟨h.turn (o' := pxJ (.slice (some ⟨g, 0, none⟩) l.length c) l') (grown_rowJ _) ?_ (fun k hk => Or.inl hk), Below.of_grown (grown_rowJ _) hB (fun k e => by cases e; exact g1)⟩
  unfold pxJ Own.lies
  rw [hn']
  exact h1
theorem revJ_any {w : World} {B n c : Nat} {a : Option Addr} {l : List Int} {L : List Own} (h : Owns w B (pxJ (.slice a n c) l :: L)) (hn : l.length = n) (hl : n ≤ 1000000) (hB : B ≤ w.heap.size) :
    Calls Tryz.prog 85 #[.slice a n c] w fun e w' => e = .returned (.tuple #[]) ∧ Owns w' B (pxJ (.slice a n c) l.reverse :: L) ∧ Below B w w' := by
  subst hn
  by_cases h0 : l.length = 0
  · have e : l = [] := List.length_eq_zero_iff.1 h0
    subst e
    refine (Tryz.slices_Reverse_int_empty a c w).mono ?_
    rintro e w' ⟨rfl, rfl⟩
    exact ⟨rfl, h, Below.refl _ _⟩
  · obtain ⟨g, c', e, -⟩ := pxJ_at h.head (i := 0) (x := l[0]'(by omega)) (List.getElem?_eq_getElem _) rfl
    cases e
    refine (Tryz.slices_Reverse_int g 0 c l w (holdsJ h.head rfl) (by omega)).mono ?_
    rintro e w' ⟨rfl, q, rfl⟩
    obtain ⟨h1, h2⟩ := putJ (q := q) h rfl (l' := l.reverse) (by simp) hB
    exact ⟨rfl, h1, h2⟩
theorem cloneJ_any {w : World} {B n c : Nat} {a : Option Addr} {l : List Int} (h : (pxJ (.slice a n c) l).lies w B) (hn : l.length = n) (hl : n ≤ 1000000) :
    Calls Tryz.prog 60 #[.slice a n c] w fun e w' => ∃ v, e = .returned v ∧ (pxJ v l).lies w' w.heap.size ∧ Below w.heap.size w w' := by
  subst hn
  by_cases ha : a = none
  · subst ha
    have e : l = [] := by
      by_cases h0 : l.length = 0
      · exact List.length_eq_zero_iff.1 h0
      · obtain ⟨g, c', e, -⟩ := pxJ_at h (i := 0) (x := l[0]'(by omega)) (List.getElem?_eq_getElem _) rfl
        cases e
    subst e
    refine (Tryz.slices_Clone_nil _ c w).mono ?_
    rintro e w' ⟨rfl, rfl⟩
    exact ⟨_, rfl, World.ownsRow_nil _ _ _ _, Below.refl _ _⟩
  · have h0 : w.ownsRow B 3 1 (.slice a l.length c) l.length (l.map (Value.int .i64)) := h
    rcases h0.2 with ⟨e, -⟩ | ⟨g, cap, cur, hv, -⟩
    · exact absurd (by injection e) ha
    · cases hv
      obtain ⟨ii, hii, hii0, hii1, hii2⟩ := info_parts info_int'
      refine (Tryz.slices_Clone ii _ 1 8 hii hii0 hii1 hii2 rfl (by decide) (fun w => by kernel_rfl) g 0 l.length c (l.map (Value.int .i64)) w (by simp) (by unfold maxLen; omega) (by omega) (fun j u hu => ?_) (fun u hu => ?_)).mono ?_
      · rw [Nat.zero_add, h0.cellAt j (by have := (List.getElem?_eq_some_iff.1 hu).1; simpa using this)]
        exact hu
      · obtain ⟨z, -, rfl⟩ := List.mem_map.1 hu
        rfl
      · rintro e w' ⟨v', rfl, h1, -, h2⟩
        exact ⟨v', rfl, h1, h2⟩
end Go.Proofs.YtbnddpknejgmhaaGreat
