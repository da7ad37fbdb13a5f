/- The reference's put: a needle's loops are set anew. The reference put, walked (under way). -/
import Derived.Test.YthedmiilkeclaaaGreatKKeep
import Derived.Test.YthedmiilkeclaaaGreatKDoB
import Derived.Test.YthedmiilkeclaaaGreatKPs
namespace Go.Proofs.YthedmiilkeclaaaGreat
open Go.RowKit Go.Shelf Go.Sort
set_option maxRecDepth 100000

def keyV (b n : Int) (p : Hk × Value) : Int := keyH b n p.1
def xsV (b n : Int) (l : List Int) (vl : Value) : List (Hk × Value) := if l = [] then [] else [(⟨b, n, l⟩, vl)]
def putV (b n : Int) (l : List Int) (vl : Value) (hv : List (Hk × Value)) : List (Hk × Value) := setF (keyV b n) (xsV b n l vl) hv
theorem putV_map (b n : Int) (l : List Int) (vl : Value) (hv : List (Hk × Value)) : (putV b n l vl hv).map Prod.fst = putAt (hv.map Prod.fst) b n l := by
  have e1 : (loF (keyV b n) hv).map Prod.fst = loF (keyH b n) (hv.map Prod.fst) := by unfold loF; rw [List.filter_map]; rfl
  have e2 : (hiF (keyV b n) hv).map Prod.fst = hiF (keyH b n) (hv.map Prod.fst) := by unfold hiF; rw [List.filter_map]; rfl
  unfold putV putAt setF xsV
  rw [List.map_append, List.map_append, e1, e2]
  split <;> rfl
/-- One of the needles lies at or behind the target. -/
def beV (b n : Int) (l : List (Hk × Value)) : Bool := l.any fun p => decide (0 ≤ keyV b n p)
def outV (b n : Int) (l : List Int) (vl : Value) (hv : List (Hk × Value)) (k : Nat) : List (Hk × Value) :=
  loF (keyV b n) (hv.take k) ++ ((if beV b n (hv.take k) then xsV b n l vl else []) ++ hiF (keyV b n) (hv.take k))
def dnV (b n : Int) (l : List Int) (hv : List (Hk × Value)) (k : Nat) : Bool := decide (l = []) || beV b n (hv.take k)
theorem take_snoc2 {α : Type} {l : List α} {k : Nat} {x : α} (h : l[k]? = some x) : l.take (k + 1) = l.take k ++ [x] := by
  obtain ⟨hk, e⟩ := List.getElem?_eq_some_iff.1 h
  rw [List.take_succ_eq_append_getElem hk, e]
theorem be_snoc {b n : Int} {hv : List (Hk × Value)} {k : Nat} {p : Hk × Value} (h : hv[k]? = some p) : beV b n (hv.take (k + 1)) = (beV b n (hv.take k) || decide (0 ≤ keyV b n p)) := by
  unfold beV; rw [take_snoc2 h, List.any_append]; simp
theorem be_false {b n : Int} {hv : List (Hk × Value)} (hm : Mono (keyV b n) hv) {k : Nat} {p : Hk × Value} (h : hv[k]? = some p) (hz : keyV b n p ≤ 0) : beV b n (hv.take k) = false := by
  unfold beV
  rw [List.any_eq_false]
  intro x hx
  obtain ⟨j, hj, hx⟩ := mem_take_at hx
  have := hm.at_ hx h hj hz
  simp; omega
theorem hi_none {b n : Int} {hv : List (Hk × Value)} (h : beV b n hv = false) : hiF (keyV b n) hv = [] := hiF_none fun x hx => by
  unfold beV at h
  rw [List.any_eq_false] at h
  have := h x hx
  simp at this; omega
theorem lo_snoc {f : Hk × Value → Int} {l : List (Hk × Value)} {p : Hk × Value} : loF f (l ++ [p]) = loF f l ++ (if f p < 0 then [p] else []) := by
  rw [loF_app]; congr 1; unfold loF; by_cases h : f p < 0 <;> simp [h]
theorem hi_snoc {f : Hk × Value → Int} {l : List (Hk × Value)} {p : Hk × Value} : hiF f (l ++ [p]) = hiF f l ++ (if 0 < f p then [p] else []) := by
  rw [hiF_app]; congr 1; unfold hiF; by_cases h : 0 < f p <;> simp [h]
section
variable {b n : Int} {l : List Int} {vl : Value} {hv : List (Hk × Value)} {k : Nat} {p : Hk × Value}
theorem out_lt (hm : Mono (keyV b n) hv) (h : hv[k]? = some p) (hz : keyV b n p < 0) : outV b n l vl hv (k + 1) = outV b n l vl hv k ++ [p] ∧ dnV b n l hv (k + 1) = dnV b n l hv k ∧ beV b n (hv.take k) = false := by
  have hb := be_false hm h (by omega)
  have hb2 : beV b n (hv.take (k + 1)) = false := by rw [be_snoc h, hb]; simp; omega
  refine ⟨?_, by unfold dnV; rw [hb, hb2], hb⟩
  unfold outV
  rw [hb, hb2, hi_none hb, hi_none hb2, take_snoc2 h, lo_snoc, if_pos hz]
  simp
theorem out_eq (hm : Mono (keyV b n) hv) (h : hv[k]? = some p) (hz : keyV b n p = 0) : outV b n l vl hv (k + 1) = outV b n l vl hv k ++ xsV b n l vl ∧ dnV b n l hv (k + 1) = true ∧ beV b n (hv.take k) = false := by
  have hb := be_false hm h (by omega)
  have hb2 : beV b n (hv.take (k + 1)) = true := by rw [be_snoc h, hb, hz]; rfl
  refine ⟨?_, by unfold dnV; rw [hb2]; simp, hb⟩
  unfold outV
  rw [hb, hb2, hi_none hb, take_snoc2 h, lo_snoc, hi_snoc, hi_none hb, if_neg (show ¬ keyV b n p < 0 by omega), if_neg (show ¬ 0 < keyV b n p by omega)]
  simp
theorem out_gt1 (h : hv[k]? = some p) (hz : 0 < keyV b n p) (hb : dnV b n l hv k = true) : outV b n l vl hv (k + 1) = outV b n l vl hv k ++ [p] ∧ dnV b n l hv (k + 1) = true := by
  have hb2 : beV b n (hv.take (k + 1)) = true := by rw [be_snoc h]; simp; right; omega
  refine ⟨?_, by unfold dnV; rw [hb2]; simp⟩
  have hx : (if beV b n (hv.take k) then xsV b n l vl else []) = xsV b n l vl := by
    split
    · rfl
    · rename_i hne
      unfold dnV at hb
      have : l = [] := by simpa [hne] using hb
      unfold xsV; rw [if_pos this]
  unfold outV
  rw [hb2, hx, take_snoc2 h, lo_snoc, hi_snoc, if_neg (by omega), if_pos hz]
  simp
theorem out_gt2 (h : hv[k]? = some p) (hz : 0 < keyV b n p) (hb : dnV b n l hv k = false) : outV b n l vl hv (k + 1) = (outV b n l vl hv k ++ xsV b n l vl) ++ [p] ∧ dnV b n l hv (k + 1) = true ∧ l ≠ [] := by
  have hb2 : beV b n (hv.take (k + 1)) = true := by rw [be_snoc h]; simp; right; omega
  unfold dnV at hb
  rw [Bool.or_eq_false_iff, decide_eq_false_iff_not] at hb
  refine ⟨?_, by unfold dnV; rw [hb2]; simp, hb.1⟩
  unfold outV
  rw [hb2, hb.2, hi_none hb.2, take_snoc2 h, lo_snoc, hi_snoc, hi_none hb.2, if_neg (by omega), if_pos hz]
  simp
theorem out_end (hk : hv.length ≤ k) : (dnV b n l hv k = true → outV b n l vl hv k = putV b n l vl hv) ∧ (dnV b n l hv k = false → l ≠ [] ∧ outV b n l vl hv k ++ xsV b n l vl = putV b n l vl hv) := by
  unfold outV putV setF dnV
  rw [List.take_of_length_le hk]
  refine ⟨fun h => ?_, fun h => ?_⟩
  · split
    · rfl
    · rename_i hne
      have : l = [] := by simpa [hne] using h
      unfold xsV; rw [if_pos this]
  · rw [Bool.or_eq_false_iff, decide_eq_false_iff_not] at h
    refine ⟨h.1, ?_⟩
    rw [h.2, hi_none h.2]
    simp
theorem key_cases (p : Hk) : (keyH b n p < 0 ↔ p.bed < b ∨ (p.bed = b ∧ p.at_ < n)) ∧ (keyH b n p = 0 ↔ p.bed = b ∧ p.at_ = n) ∧ (0 < keyH b n p ↔ b < p.bed ∨ (p.bed = b ∧ n < p.at_)) := by
  unfold keyH placeI
  simp only
  split <;> omega
end
theorem flat_snocH (l : List (Hk × Value)) (p : Hk × Value) : ((l ++ [p]).map hookCells).flatten = (l.map hookCells).flatten ++ hookCells p := by simp
theorem one3 (x y : Int) (A : Option Addr) (m c : Nat) : ∀ v ∈ ([.int .u8 x, .int .i64 y, .slice A m c] : List Value), v.oneCell' = true := by
  intro v hv
  simp only [List.mem_cons, List.not_mem_nil, or_false] at hv
  rcases hv with rfl | rfl | rfl <;> rfl
theorem info_hook : (Tryz.prog.info? 92).map (fun i => (i.zero, i.size, i.bytes)) = some (some (.agg #[.int .u8 0, .int .i64 0, .slice none 0 0]), 3, 40) := by kernel_rfl
/-- What put hands back: a row of its own, the other fields as they are. -/
def putOut (r : Int) (hv : List (Hk × Value)) (vf vm : Value) (w : World) (e : Ending) (w' : World) : Prop := ∃ A c, e = .returned (.agg #[.int .i64 r, .slice A hv.length c, vf, vm]) ∧ w'.ownsRow w.heap.size 92 3 (.slice A hv.length c) hv.length (hv.map hookCells).flatten ∧ Below w.heap.size w w'
end Go.Proofs.YthedmiilkeclaaaGreat
namespace Go.Proofs.YthedmiilkeclaaaGreat
open Go.RowKit Go.Shelf Go.Sort
set_option maxRecDepth 100000

theorem hv_at {w : World} {B : Nat} {A : Option Addr} {hv : List (Hk × Value)} (h : SlS 3 w B A (hv.map hookCells)) {k : Nat} (hk : k < hv.length) :
    ∃ b off p, A = some ⟨b, off, none⟩ ∧ b < B ∧ hv[k]? = some p ∧ w.cell? ⟨b, off + k * 3, none⟩ = some (.int .u8 p.1.bed) ∧ w.cell? ⟨b, off + k * 3 + 1, none⟩ = some (.int .i64 p.1.at_) ∧ w.cell? ⟨b, off + k * 3 + 2, none⟩ = some p.2 := by
  obtain ⟨b, off, cs, e, hB, hz, hc⟩ := SlS.at_ h (k := k) (by simpa using hk)
  rw [List.getElem?_map] at hz
  cases hl : hv[k]? with
  | none => rw [hl] at hz; cases hz
  | some p =>
    rw [hl] at hz
    simp only [Option.map_some, Option.some.injEq] at hz
    subst hz
    exact ⟨b, off, p, e, hB, rfl, hc 0 _ rfl, hc 1 _ rfl, hc 2 _ rfl⟩
theorem rput_close {W : World} {tmps : Array Value} {r : Int} {v0 v1 v2 : Value} {b : Nat} {R : Ending → World → Prop} (c0 : W.cell? ⟨b, 0, none⟩ = some (.int .i64 r)) (c1 : W.cell? ⟨b, 1, none⟩ = some v0) (c2 : W.cell? ⟨b, 2, none⟩ = some v1) (c3 : W.cell? ⟨b, 3, none⟩ = some v2) (h8 : tmps[8]?.getD undef = .pointer (some ⟨b, 0, none⟩)) (hR : R (.returned (.agg #[.int .i64 r, v0, v1, v2])) W) :
    bodyPost Tryz.prog Tryz.f115 R .ret { tmps := tmps, defers := [] } W := by
  refine bodyPost_ret (v := .agg #[.int .i64 r, v0, v1, v2]) ?_ rfl hR
  simp [results, Tryz.results115, go_sem, h8, c0, c1, c2, c3]
/-- The two boxes of put. -/
structure PuB (w : World) (r : Int) (v0 v1 v2 : Value) (W : World) : Prop where
  st : W.cell? ⟨w.heap.size, 0, none⟩ = some (.int .i64 r) ∧ W.cell? ⟨w.heap.size, 1, none⟩ = some v0 ∧ W.cell? ⟨w.heap.size, 2, none⟩ = some v1 ∧ W.cell? ⟨w.heap.size, 3, none⟩ = some v2
  frz : ∀ k, W.frozen? ⟨w.heap.size, k, none⟩ = false
  out : BdIn W (w.heap.size + 1) bed0 bedP0
  frz2 : ∀ k, W.frozen? ⟨w.heap.size + 1, k, none⟩ = false
  lo : Below w.heap.size w W
  sz : w.heap.size + 2 ≤ W.heap.size
theorem PuB.to {w W W' : World} {r : Int} {v0 v1 v2 : Value} (h : PuB w r v0 v1 v2 W) (hb : Below (w.heap.size + 2) W W') : PuB w r v0 v1 v2 W' := by
  obtain ⟨a0, a1, a2, a3⟩ := h.st
  have l0 : w.heap.size < w.heap.size + 2 := by omega
  have l1 : w.heap.size + 1 < w.heap.size + 2 := by omega
  exact ⟨⟨(bcell hb l0 _).trans a0, (bcell hb l0 _).trans a1, (bcell hb l0 _).trans a2, (bcell hb l0 _).trans a3⟩, fun k => (Below.frozen hb (p := ⟨w.heap.size, k, none⟩) l0).trans (h.frz k), h.out.below hb l1, fun k => (Below.frozen hb (p := ⟨w.heap.size + 1, k, none⟩) l1).trans (h.frz2 k), h.lo.trans (hb.mono (by omega)), Nat.le_trans h.sz hb.size⟩
theorem PuB.new (w : World) (r : Int) (A : Option Addr) (n c : Nat) (v1 v2 : Value) : PuB w r (.slice A n c) v1 v2 ((w.alloc (.cells #[.int .i64 r, .slice A n c, v1, v2] 48)).alloc bedZero) := by
  have h1 : Below (w.heap.size + 1) (w.alloc (.cells #[.int .i64 r, .slice A n c, v1, v2] 48)) ((w.alloc (.cells #[.int .i64 r, .slice A n c, v1, v2] 48)).alloc bedZero) := (Below.refl _ _).alloc (by simp) _
  have l0 : w.heap.size < w.heap.size + 1 := by omega
  have hz := BdIn.zero (w.alloc (.cells #[.int .i64 r, .slice A n c, v1, v2] 48))
  have e : (w.alloc (.cells #[.int .i64 r, .slice A n c, v1, v2] 48)).heap.size = w.heap.size + 1 := by simp
  rw [e] at hz
  refine ⟨⟨(bcell h1 l0 _).trans (cell_new rfl rfl rfl), (bcell h1 l0 _).trans (cell_new rfl rfl rfl), (bcell h1 l0 _).trans (cell_new rfl rfl rfl), (bcell h1 l0 _).trans (cell_new rfl rfl rfl)⟩, fun k => (Below.frozen h1 (p := ⟨w.heap.size, k, none⟩) l0).trans (thawed_new' _ _ _ k rfl), hz, fun k => thawed_new' _ _ _ k (by simp), ((Below.refl _ w).alloc (Nat.le_refl _) _).alloc (by simp) _, by simp⟩
/-- The end of put: the needles are stored, the state is copied into the result. -/
abbrev putW (W : World) (b0 : Nat) (r : Int) (v v1 v2 : Value) : World := ((((W.setCell ⟨b0, 1, none⟩ v).setCell ⟨b0 + 1, 0, none⟩ (.int .i64 r)).setCell ⟨b0 + 1, 1, none⟩ v).setCell ⟨b0 + 1, 2, none⟩ v1).setCell ⟨b0 + 1, 3, none⟩ v2
theorem rput_end {w W : World} {r b n : Int} {l : List Int} {vl vl' v0 v1 v2 : Value} {hv : List (Hk × Value)} {A : Option Addr} {c : Nat} (h : PuB w r v0 v1 v2 W) (ho : W.ownsRow (w.heap.size + 2) 92 3 (.slice A (putV b n l vl hv).length c) (putV b n l vl hv).length ((putV b n l vl hv).map hookCells).flatten) (hvl : vl = vl') :
    let W' := putW W w.heap.size r (.slice A (putV b n l vl hv).length c) v1 v2
    W'.cell? ⟨w.heap.size + 1, 0, none⟩ = some (.int .i64 r) ∧ W'.cell? ⟨w.heap.size + 1, 1, none⟩ = some (.slice A (putV b n l vl hv).length c) ∧ W'.cell? ⟨w.heap.size + 1, 2, none⟩ = some v1 ∧ W'.cell? ⟨w.heap.size + 1, 3, none⟩ = some v2 ∧
    putOut r (putV b n l vl' hv) v1 v2 w (.returned (.agg #[.int .i64 r, .slice A (putV b n l vl hv).length c, v1, v2])) W' := by
  subst hvl
  obtain ⟨z0, z1, z2, z3⟩ := h.out
  have ne : (⟨w.heap.size, 1, none⟩ : Addr) ≠ ⟨w.heap.size + 1, 0, none⟩ := fun e => by have := (Addr.mk.inj e).1; omega
  have nq : ∀ j, (⟨w.heap.size + 1, j, none⟩ : Addr) ≠ ⟨w.heap.size, 1, none⟩ := fun j e => by have := (Addr.mk.inj e).1; omega
  have hz : ∀ j v, W.cell? ⟨w.heap.size + 1, j, none⟩ = some v → ∀ u, (W.setCell ⟨w.heap.size, 1, none⟩ u).cell? ⟨w.heap.size + 1, j, none⟩ = some v := fun j v hv u => (World.cell?_setCell_other W _ _ _ (fun e => nq j e.symm)).trans hv
  refine ⟨?_, ?_, ?_, ?_, A, c, rfl, ?_, ?_⟩
  · exact set_other (by simp) (set_other (by simp) (set_other (by simp) (set_same (hz 0 _ z0 _))))
  · exact set_other (by simp) (set_other (by simp) (set_same (set_other (by simp) (hz 1 _ z1 _))))
  · exact set_other (by simp) (set_same (set_other (by simp) (set_other (by simp) (hz 2 _ z2 _))))
  · exact set_same (set_other (by simp) (set_other (by simp) (set_other (by simp) (hz 3 _ z3 _))))
  · have hmv : ∀ {X : World} {a : Nat} {j : Nat} {u : Value}, a < w.heap.size + 2 → ∀ i, w.heap.size + 2 ≤ i → (X.setCell ⟨a, j, none⟩ u).heap[i]? = X.heap[i]? := fun {X a j u} ha i hi => Below.heap_setCell _ _ _ i (show i ≠ a by omega)
    refine World.ownsRow.mono (Own.move (o := ⟨92, 3, (putV b n l vl hv).length, .slice A (putV b n l vl hv).length c, ((putV b n l vl hv).map hookCells).flatten⟩) (B := w.heap.size + 2) ho fun j h1 _ => ?_) (by omega)
    exact (hmv (by omega) j h1).trans ((hmv (by omega) j h1).trans ((hmv (by omega) j h1).trans ((hmv (by omega) j h1).trans (hmv (by omega) j h1))))
  · exact ((((h.lo.setCell (p := ⟨w.heap.size, 1, none⟩) (Nat.le_refl _) _).setCell (p := ⟨w.heap.size + 1, 0, none⟩) (by show _ ≤ w.heap.size + 1; omega) _).setCell (p := ⟨w.heap.size + 1, 1, none⟩) (by show _ ≤ w.heap.size + 1; omega) _).setCell (p := ⟨w.heap.size + 1, 2, none⟩) (by show _ ≤ w.heap.size + 1; omega) _).setCell (p := ⟨w.heap.size + 1, 3, none⟩) (by show _ ≤ w.heap.size + 1; omega) _
set_option maxHeartbeats 32000000 in
theorem rput_any (r b n : Int) (l : List Int) (Al : Option Addr) (cl : Nat) (hv : List (Hk × Value)) (A : Option Addr) (c : Nat) (af : Option Addr) (nf cf : Nat) (am : Option Addr) (nm cm : Nat) (hm : Mono (keyV b n) hv) (hn : hv.length ≤ 9000) (hvs : ∀ p ∈ hv, ∃ A c, p.2 = .slice A p.1.loops.length c) (w : World) (hs : SlS 3 w w.heap.size A (hv.map hookCells)) :
    Calls Tryz.prog 115 #[.agg #[.int .i64 r, .slice A hv.length c, .slice af nf cf, .slice am nm cm], .int .u8 b, .int .i64 n, .slice Al l.length cl] w fun e w' => putOut r (putV b n l (.slice Al l.length cl) hv) (.slice af nf cf) (.slice am nm cm) w e w' := by
  obtain ⟨i0, hi, hz0, hz1, hz2⟩ := info_parts info_hook
  have HM := Lib.hid hm
  have HV := Lib.hid hvs
  have HS := Lib.hid hs
  have HP0 := Lib.hid (PuB.new w r A hv.length c (.slice af nf cf) (.slice am nm cm))
  obtain ⟨vl, hvl⟩ : ∃ vl, vl = Value.slice Al l.length cl := ⟨_, rfl⟩
  have HVl := Lib.hid hvl
  have HLen : Hid (∀ k, (outV b n l vl hv k).length ≤ 20000) := fun k => by
    have h1 : (loF (keyV b n) (hv.take k)).length ≤ hv.length := Nat.le_trans (List.length_filter_le _ _) (by rw [List.length_take]; omega)
    have h2 : (hiF (keyV b n) (hv.take k)).length ≤ hv.length := Nat.le_trans (List.length_filter_le _ _) (by rw [List.length_take]; omega)
    have h3 : (xsV b n l vl).length ≤ 1 := by unfold xsV; split <;> simp
    unfold outV
    rw [List.length_append, List.length_append]
    split
    · omega
    · simp only [List.length_nil]; omega
  obtain ⟨dl, hdl⟩ : ∃ dl, dl = decide (l = []) := ⟨_, rfl⟩
  have hd0 : ((l.length : Int) == 0) = dl := by
    rw [hdl, Bool.eq_iff_iff]
    simp
  have HD0 : Hid (dnV b n l hv 0 = dl) := by show dnV b n l hv 0 = dl; rw [hdl]; unfold dnV; simp [beV]
  clear hm hvs hs hdl hvl
  go_enter Tryz.func115, Tryz.ntmps115
  go_wp2
  clear hd0
  go_loopw [9, 10, 11] (fun s9 s10 s11 wr => ∃ (k : Nat) (v9 : Value), k ≤ hv.length ∧ s11 = .int .i64 (k : Int) ∧ s10 = .bool (dnV b n l hv k) ∧ v9 = s9 ∧ Hid (wr.ownsRow (w.heap.size + 2) 92 3 v9 (outV b n l vl hv k).length ((outV b n l vl hv k).map hookCells).flatten) ∧ Hid (PuB w r (.slice A hv.length c) (.slice af nf cf) (.slice am nm cm) wr)) (fun _ _ s11 _ => hv.length - (intOf s11).toNat)
  case atStart => exact ⟨0, _, Nat.zero_le _, rfl, by rw [HD0.out], rfl, World.ownsRow_nil .., HP0.out⟩
  case round =>
    clear HP0 HD0
    obtain ⟨k, v9, hk, rfl, rfl, rfl, HO, HP⟩ := hrel
    obtain ⟨c0, c1, c2', c3⟩ := HP.out.st
    have HLn := Lib.hid (HLen.out k)
    by_cases hlt : k < hv.length
    case pos =>
      obtain ⟨bb, off, p, hA, hB, hz, q0, q1, q2⟩ := hv_at HS.out hlt
      obtain ⟨A2, c2, hp2⟩ := HV.out p (List.mem_of_getElem? hz)
      rw [hp2] at q2
      have d0 := (bcell HP.out.lo hB _).trans q0
      have d1 := (bcell HP.out.lo hB _).trans q1
      have d2 := (bcell HP.out.lo hB _).trans q2
      have HPc : Hid (hookCells p = [.int .u8 p.1.bed, .int .i64 p.1.at_, .slice A2 p.1.loops.length c2]) := by show hookCells p = _; unfold hookCells; rw [hp2]
      have HZ := Lib.hid hz
      have hkc := key_cases (b := b) (n := n) p.1
      have HKc : Hid ((keyV b n p < 0 ↔ p.1.bed < b ∨ (p.1.bed = b ∧ p.1.at_ < n)) ∧ (keyV b n p = 0 ↔ p.1.bed = b ∧ p.1.at_ = n) ∧ (0 < keyV b n p ↔ b < p.1.bed ∨ (p.1.bed = b ∧ n < p.1.at_))) := hkc
      rw [hA] at c1
      have HSz := Lib.hid HP.out.sz
      have HLt : Hid (∀ g, v9.ownBlock = some g → w.heap.size + 2 ≤ g ∧ g < wr.heap.size) := fun g e => HO.out.lt g e
      have HBl : Hid (∀ o, Below (w.heap.size + 2) wr (wr.alloc o)) := fun o => (Below.refl _ wr).alloc HP.out.sz o
      clear hz hp2 q0 q1 q2 hA hB hkc HS HV
      cases hdn : dnV b n l hv k with
      | true =>
        rcases Int.lt_trichotomy (keyV b n p) 0 with hκ | hκ | hκ
        · have HF := Lib.hid (out_lt (l := l) (vl := vl) HM.out HZ.out hκ)
          have HDn : Hid (dnV b n l hv (k + 1) = true) := HF.out.2.1.trans hdn
          have HFin : Hid (∀ (W : World) (v : Value), W.ownsRow (w.heap.size + 2) 92 3 v ((outV b n l vl hv k).length + 1) (((outV b n l vl hv k).map hookCells).flatten ++ [.int .u8 p.1.bed, .int .i64 p.1.at_, .slice A2 p.1.loops.length c2]) → W.ownsRow (w.heap.size + 2) 92 3 v (outV b n l vl hv (k + 1)).length ((outV b n l vl hv (k + 1)).map hookCells).flatten) := fun W v h => by
            rw [HF.out.1, flat_snocH, List.length_append, HPc.out]
            exact h
          have hk2 := HKc.out.1.1 hκ
          clear hκ hdn
          by_cases hbe : p.1.bed = b
          · have t1 : (p.1.bed != b) = false := by simp; omega
            have t2 : (p.1.at_ != n) = true := by simp; omega
            clear hk2 hbe
            go_wp2_with (at_builtin; refine wpList_append_own _ rfl _ _ 44 rfl (w.heap.size + 2) 92 i0 (.agg #[.int .u8 0, .int .i64 0, .slice none 0 0]) 3 40 Tryz.underlying44 hi hz0 hz1 hz2 rfl (by decide) _ _ _ rfl ((HO.out.alloc _).alloc _) ⟨wr.heap.size + 1, 0, none⟩ 1 1 [.int .u8 p.1.bed, .int .i64 p.1.at_, .slice A2 p.1.loops.length c2] rfl rfl (newsT _ _ _ _ (by simp)) (one3 _ _ _ _ _) (by have := HLn.out; unfold maxLen; omega) (by have := HLn.out; omega) (by have := HSz.out; simp; omega) ?_; intro v5 w5 ho5 hg5 _)
            have hb5 : Below (w.heap.size + 2) wr w5 := (((Below.refl _ wr).alloc HSz.out _).alloc (by have := HSz.out; simp; omega) _).grown hg5 (by have := HSz.out; simp; omega) (fun g e => (HLt.out g e).1)
            have HO5 := Lib.hid (HFin.out _ _ ho5)
            have HP5 := Lib.hid (HP.out.to hb5)
            clear ho5 hb5 hg5
            go_wp2
            go_roundw
            case rel => exact ⟨k + 1, v5, by omega, by go_num, by rw [HDn.out], rfl, HO5.out, HP5.out⟩
            case measure => simp [intOf]; omega
          · have t1 : (p.1.bed != b) = true := by simp; omega
            clear hk2 hbe
            go_wp2_with (at_builtin; refine wpList_append_own _ rfl _ _ 44 rfl (w.heap.size + 2) 92 i0 (.agg #[.int .u8 0, .int .i64 0, .slice none 0 0]) 3 40 Tryz.underlying44 hi hz0 hz1 hz2 rfl (by decide) _ _ _ rfl ((HO.out.alloc _).alloc _) ⟨wr.heap.size + 1, 0, none⟩ 1 1 [.int .u8 p.1.bed, .int .i64 p.1.at_, .slice A2 p.1.loops.length c2] rfl rfl (newsT _ _ _ _ (by simp)) (one3 _ _ _ _ _) (by have := HLn.out; unfold maxLen; omega) (by have := HLn.out; omega) (by have := HSz.out; simp; omega) ?_; intro v5 w5 ho5 hg5 _)
            have hb5 : Below (w.heap.size + 2) wr w5 := (((Below.refl _ wr).alloc HSz.out _).alloc (by have := HSz.out; simp; omega) _).grown hg5 (by have := HSz.out; simp; omega) (fun g e => (HLt.out g e).1)
            have HO5 := Lib.hid (HFin.out _ _ ho5)
            have HP5 := Lib.hid (HP.out.to hb5)
            clear ho5 hb5 hg5
            go_wp2
            go_roundw
            case rel => exact ⟨k + 1, v5, by omega, by go_num, by rw [HDn.out], rfl, HO5.out, HP5.out⟩
            case measure => simp [intOf]; omega
        · have HF := Lib.hid (out_eq (l := l) (vl := vl) HM.out HZ.out hκ)
          have hl0 : l = [] := by
            have h := hdn
            unfold dnV at h
            rw [HF.out.2.2] at h
            simpa using h
          have HFin : Hid (∀ (W : World) (v : Value), W.ownsRow (w.heap.size + 2) 92 3 v (outV b n l vl hv k).length ((outV b n l vl hv k).map hookCells).flatten → W.ownsRow (w.heap.size + 2) 92 3 v (outV b n l vl hv (k + 1)).length ((outV b n l vl hv (k + 1)).map hookCells).flatten) := fun W v h => by
            rw [HF.out.1]
            unfold xsV
            rw [if_pos hl0, List.append_nil]
            exact h
          have HDn : Hid (dnV b n l hv (k + 1) = true) := HF.out.2.1
          have hk2 := HKc.out.2.1.1 hκ
          clear hκ hdn hl0
          have t1 : (p.1.bed != b) = false := by simp; omega
          have t2 : (p.1.at_ != n) = false := by simp; omega
          clear hk2
          have HO5 := Lib.hid (HFin.out _ _ (own_below HO.out ((Below.refl _ wr).alloc (Nat.le_refl _) (.cells #[.int .u8 p.1.bed, .int .i64 p.1.at_, .slice A2 p.1.loops.length c2] 92)) (Nat.le_refl _)))
          have HP5 := Lib.hid (HP.out.to (HBl.out (.cells #[.int .u8 p.1.bed, .int .i64 p.1.at_, .slice A2 p.1.loops.length c2] 92)))
          go_wp2
          go_roundw
          case rel => exact ⟨k + 1, _, by omega, by go_num, by rw [HDn.out], rfl, HO5.out, HP5.out⟩
          case measure => simp [intOf]; omega
        · have HF := Lib.hid (out_gt1 (l := l) (vl := vl) HZ.out hκ hdn)
          have HDn : Hid (dnV b n l hv (k + 1) = true) := HF.out.2
          have HFin : Hid (∀ (W : World) (v : Value), W.ownsRow (w.heap.size + 2) 92 3 v ((outV b n l vl hv k).length + 1) (((outV b n l vl hv k).map hookCells).flatten ++ [.int .u8 p.1.bed, .int .i64 p.1.at_, .slice A2 p.1.loops.length c2]) → W.ownsRow (w.heap.size + 2) 92 3 v (outV b n l vl hv (k + 1)).length ((outV b n l vl hv (k + 1)).map hookCells).flatten) := fun W v h => by
            rw [HF.out.1, flat_snocH, List.length_append, HPc.out]
            exact h
          have hk2 := HKc.out.2.2.1 hκ
          clear hκ hdn
          by_cases hbe : p.1.bed = b
          · have t1 : (p.1.bed != b) = false := by simp; omega
            have t2 : (p.1.at_ != n) = true := by simp; omega
            clear hk2 hbe
            go_wp2_with (at_builtin; refine wpList_append_own _ rfl _ _ 44 rfl (w.heap.size + 2) 92 i0 (.agg #[.int .u8 0, .int .i64 0, .slice none 0 0]) 3 40 Tryz.underlying44 hi hz0 hz1 hz2 rfl (by decide) _ _ _ rfl ((HO.out.alloc _).alloc _) ⟨wr.heap.size + 1, 0, none⟩ 1 1 [.int .u8 p.1.bed, .int .i64 p.1.at_, .slice A2 p.1.loops.length c2] rfl rfl (newsT _ _ _ _ (by simp)) (one3 _ _ _ _ _) (by have := HLn.out; unfold maxLen; omega) (by have := HLn.out; omega) (by have := HSz.out; simp; omega) ?_; intro v5 w5 ho5 hg5 _)
            have hb5 : Below (w.heap.size + 2) wr w5 := (((Below.refl _ wr).alloc HSz.out _).alloc (by have := HSz.out; simp; omega) _).grown hg5 (by have := HSz.out; simp; omega) (fun g e => (HLt.out g e).1)
            have HO5 := Lib.hid (HFin.out _ _ ho5)
            have HP5 := Lib.hid (HP.out.to hb5)
            clear ho5 hb5 hg5
            go_wp2
            go_roundw
            case rel => exact ⟨k + 1, v5, by omega, by go_num, by rw [HDn.out], rfl, HO5.out, HP5.out⟩
            case measure => simp [intOf]; omega
          · have t1 : (p.1.bed != b) = true := by simp; omega
            clear hk2 hbe
            go_wp2_with (at_builtin; refine wpList_append_own _ rfl _ _ 44 rfl (w.heap.size + 2) 92 i0 (.agg #[.int .u8 0, .int .i64 0, .slice none 0 0]) 3 40 Tryz.underlying44 hi hz0 hz1 hz2 rfl (by decide) _ _ _ rfl ((HO.out.alloc _).alloc _) ⟨wr.heap.size + 1, 0, none⟩ 1 1 [.int .u8 p.1.bed, .int .i64 p.1.at_, .slice A2 p.1.loops.length c2] rfl rfl (newsT _ _ _ _ (by simp)) (one3 _ _ _ _ _) (by have := HLn.out; unfold maxLen; omega) (by have := HLn.out; omega) (by have := HSz.out; simp; omega) ?_; intro v5 w5 ho5 hg5 _)
            have hb5 : Below (w.heap.size + 2) wr w5 := (((Below.refl _ wr).alloc HSz.out _).alloc (by have := HSz.out; simp; omega) _).grown hg5 (by have := HSz.out; simp; omega) (fun g e => (HLt.out g e).1)
            have HO5 := Lib.hid (HFin.out _ _ ho5)
            have HP5 := Lib.hid (HP.out.to hb5)
            clear ho5 hb5 hg5
            go_wp2
            go_roundw
            case rel => exact ⟨k + 1, v5, by omega, by go_num, by rw [HDn.out], rfl, HO5.out, HP5.out⟩
            case measure => simp [intOf]; omega
      | false =>
        have hl1 : l ≠ [] := by
          have h := hdn
          unfold dnV at h
          rw [Bool.or_eq_false_iff, decide_eq_false_iff_not] at h
          exact h.1
        have HXs : Hid (xsV b n l vl = [(⟨b, n, l⟩, vl)]) := by show xsV b n l vl = _; unfold xsV; rw [if_neg hl1]
        have HXc : Hid (hookCells ((⟨b, n, l⟩ : Hk), vl) = [.int .u8 b, .int .i64 n, .slice Al l.length cl]) := by show hookCells ((⟨b, n, l⟩ : Hk), vl) = _; unfold hookCells; rw [HVl.out]
        clear hl1
        rcases Int.lt_trichotomy (keyV b n p) 0 with hκ | hκ | hκ
        · have HF := Lib.hid (out_lt (l := l) (vl := vl) HM.out HZ.out hκ)
          have HDn : Hid (dnV b n l hv (k + 1) = false) := HF.out.2.1.trans hdn
          have HFin : Hid (∀ (W : World) (v : Value), W.ownsRow (w.heap.size + 2) 92 3 v ((outV b n l vl hv k).length + 1) (((outV b n l vl hv k).map hookCells).flatten ++ [.int .u8 p.1.bed, .int .i64 p.1.at_, .slice A2 p.1.loops.length c2]) → W.ownsRow (w.heap.size + 2) 92 3 v (outV b n l vl hv (k + 1)).length ((outV b n l vl hv (k + 1)).map hookCells).flatten) := fun W v h => by
            rw [HF.out.1, flat_snocH, List.length_append, HPc.out]
            exact h
          have hk2 := HKc.out.1.1 hκ
          clear hκ hdn
          by_cases hbe : p.1.bed = b
          · have t1 : (p.1.bed != b) = false := by simp; omega
            have t2 : (p.1.at_ != n) = true := by simp; omega
            have t3 : decide (b < p.1.bed) = false := by simp; omega
            have t4 : (p.1.bed == b) = true := by simp; omega
            have t5 : decide (n ≤ p.1.at_) = false := by simp; omega
            clear hk2 hbe
            go_wp2_with (at_builtin; refine wpList_append_own _ rfl _ _ 44 rfl (w.heap.size + 2) 92 i0 (.agg #[.int .u8 0, .int .i64 0, .slice none 0 0]) 3 40 Tryz.underlying44 hi hz0 hz1 hz2 rfl (by decide) _ _ _ rfl ((HO.out.alloc _).alloc _) ⟨wr.heap.size + 1, 0, none⟩ 1 1 [.int .u8 p.1.bed, .int .i64 p.1.at_, .slice A2 p.1.loops.length c2] rfl rfl (newsT _ _ _ _ (by simp)) (one3 _ _ _ _ _) (by have := HLn.out; unfold maxLen; omega) (by have := HLn.out; omega) (by have := HSz.out; simp; omega) ?_; intro v5 w5 ho5 hg5 _)
            have hb5 : Below (w.heap.size + 2) wr w5 := (((Below.refl _ wr).alloc HSz.out _).alloc (by have := HSz.out; simp; omega) _).grown hg5 (by have := HSz.out; simp; omega) (fun g e => (HLt.out g e).1)
            have HO5 := Lib.hid (HFin.out _ _ ho5)
            have HP5 := Lib.hid (HP.out.to hb5)
            clear ho5 hb5 hg5
            go_wp2
            go_roundw
            case rel => exact ⟨k + 1, v5, by omega, by go_num, by rw [HDn.out], rfl, HO5.out, HP5.out⟩
            case measure => simp [intOf]; omega
          · have t1 : (p.1.bed != b) = true := by simp; omega
            have t3 : decide (b < p.1.bed) = false := by simp; omega
            have t4 : (p.1.bed == b) = false := by simp; omega
            clear hk2 hbe
            go_wp2_with (at_builtin; refine wpList_append_own _ rfl _ _ 44 rfl (w.heap.size + 2) 92 i0 (.agg #[.int .u8 0, .int .i64 0, .slice none 0 0]) 3 40 Tryz.underlying44 hi hz0 hz1 hz2 rfl (by decide) _ _ _ rfl ((HO.out.alloc _).alloc _) ⟨wr.heap.size + 1, 0, none⟩ 1 1 [.int .u8 p.1.bed, .int .i64 p.1.at_, .slice A2 p.1.loops.length c2] rfl rfl (newsT _ _ _ _ (by simp)) (one3 _ _ _ _ _) (by have := HLn.out; unfold maxLen; omega) (by have := HLn.out; omega) (by have := HSz.out; simp; omega) ?_; intro v5 w5 ho5 hg5 _)
            have hb5 : Below (w.heap.size + 2) wr w5 := (((Below.refl _ wr).alloc HSz.out _).alloc (by have := HSz.out; simp; omega) _).grown hg5 (by have := HSz.out; simp; omega) (fun g e => (HLt.out g e).1)
            have HO5 := Lib.hid (HFin.out _ _ ho5)
            have HP5 := Lib.hid (HP.out.to hb5)
            clear ho5 hb5 hg5
            go_wp2
            go_roundw
            case rel => exact ⟨k + 1, v5, by omega, by go_num, by rw [HDn.out], rfl, HO5.out, HP5.out⟩
            case measure => simp [intOf]; omega
        · have HF := Lib.hid (out_eq (l := l) (vl := vl) HM.out HZ.out hκ)
          have HDn : Hid (dnV b n l hv (k + 1) = true) := HF.out.2.1
          have HFin : Hid (∀ (W : World) (v : Value), W.ownsRow (w.heap.size + 2) 92 3 v ((outV b n l vl hv k).length + 1) (((outV b n l vl hv k).map hookCells).flatten ++ [.int .u8 b, .int .i64 n, .slice Al l.length cl]) → W.ownsRow (w.heap.size + 2) 92 3 v (outV b n l vl hv (k + 1)).length ((outV b n l vl hv (k + 1)).map hookCells).flatten) := fun W v h => by
            rw [HF.out.1, HXs.out, flat_snocH, List.length_append, HXc.out]
            exact h
          have hk2 := HKc.out.2.1.1 hκ
          clear hκ hdn
          have t1 : (p.1.bed != b) = false := by simp; omega
          have t2 : (p.1.at_ != n) = false := by simp; omega
          have t3 : decide (b < p.1.bed) = false := by simp; omega
          have t4 : (p.1.bed == b) = true := by simp; omega
          have t5 : decide (n ≤ p.1.at_) = true := by simp; omega
          clear hk2
          go_upto_region 9 with (at_builtin; refine wpList_append_own _ rfl _ _ 44 rfl (w.heap.size + 2) 92 i0 (.agg #[.int .u8 0, .int .i64 0, .slice none 0 0]) 3 40 Tryz.underlying44 hi hz0 hz1 hz2 rfl (by decide) _ _ _ rfl ((HO.out.alloc _).alloc _) ⟨wr.heap.size + 1, 0, none⟩ 1 1 [.int .u8 b, .int .i64 n, .slice Al l.length cl] rfl rfl (newsT _ _ _ _ (by simp)) (one3 _ _ _ _ _) (by have := HLn.out; unfold maxLen; omega) (by have := HLn.out; omega) (by have := HSz.out; simp; omega) ?_; intro v5 w5 ho5 hg5 _)
          have hb5 : Below (w.heap.size + 2) wr w5 := (((Below.refl _ wr).alloc HSz.out _).alloc (by have := HSz.out; simp; omega) _).grown hg5 (by have := HSz.out; simp; omega) (fun g e => (HLt.out g e).1)
          have hnb : some wr.heap.size ≠ v9.ownBlock := fun e => by have := (HLt.out _ e.symm).2; omega
          have g0 := hg5.cell (a := ⟨wr.heap.size, 0, none⟩) (cell_al (cell_new rfl rfl rfl : (wr.alloc (.cells #[.int .u8 p.1.bed, .int .i64 p.1.at_, .slice A2 p.1.loops.length c2] 92)).cell? ⟨wr.heap.size, 0, none⟩ = some (.int .u8 p.1.bed)) _) hnb
          have g1 := hg5.cell (a := ⟨wr.heap.size, 1, none⟩) (cell_al (cell_new rfl rfl rfl : (wr.alloc (.cells #[.int .u8 p.1.bed, .int .i64 p.1.at_, .slice A2 p.1.loops.length c2] 92)).cell? ⟨wr.heap.size, 1, none⟩ = some (.int .i64 p.1.at_)) _) hnb
          have g2 := hg5.cell (a := ⟨wr.heap.size, 2, none⟩) (cell_al (cell_new rfl rfl rfl : (wr.alloc (.cells #[.int .u8 p.1.bed, .int .i64 p.1.at_, .slice A2 p.1.loops.length c2] 92)).cell? ⟨wr.heap.size, 2, none⟩ = some (.slice A2 p.1.loops.length c2)) _) hnb
          clear hnb
          have HO5 := Lib.hid (HFin.out _ _ ho5)
          have HP5 := Lib.hid (HP.out.to hb5)
          clear ho5 hb5 hg5
          go_wp2
          go_roundw
          case rel => exact ⟨k + 1, v5, by omega, by go_num, by rw [HDn.out], rfl, HO5.out, HP5.out⟩
          case measure => simp [intOf]; omega
        · have HF := Lib.hid (out_gt2 (l := l) (vl := vl) HZ.out hκ hdn)
          have HDn : Hid (dnV b n l hv (k + 1) = true) := HF.out.2.1
          have HFin : Hid (∀ (W : World) (v : Value), W.ownsRow (w.heap.size + 2) 92 3 v ((outV b n l vl hv k).length + 1 + 1) ((((outV b n l vl hv k).map hookCells).flatten ++ [.int .u8 b, .int .i64 n, .slice Al l.length cl]) ++ [.int .u8 p.1.bed, .int .i64 p.1.at_, .slice A2 p.1.loops.length c2]) → W.ownsRow (w.heap.size + 2) 92 3 v (outV b n l vl hv (k + 1)).length ((outV b n l vl hv (k + 1)).map hookCells).flatten) := fun W v h => by
            rw [HF.out.1, HXs.out, flat_snocH, flat_snocH, List.length_append, List.length_append, HPc.out, HXc.out]
            exact h
          have hk2 := HKc.out.2.2.1 hκ
          clear hκ hdn
          by_cases hbe : p.1.bed = b
          · have t1 : (p.1.bed != b) = false := by simp; omega
            have t2 : (p.1.at_ != n) = true := by simp; omega
            have t3 : decide (b < p.1.bed) = false := by simp; omega
            have t4 : (p.1.bed == b) = true := by simp; omega
            have t5 : decide (n ≤ p.1.at_) = true := by simp; omega
            clear hk2 hbe
            go_upto_region 9 with (at_builtin; refine wpList_append_own _ rfl _ _ 44 rfl (w.heap.size + 2) 92 i0 (.agg #[.int .u8 0, .int .i64 0, .slice none 0 0]) 3 40 Tryz.underlying44 hi hz0 hz1 hz2 rfl (by decide) _ _ _ rfl ((HO.out.alloc _).alloc _) ⟨wr.heap.size + 1, 0, none⟩ 1 1 [.int .u8 b, .int .i64 n, .slice Al l.length cl] rfl rfl (newsT _ _ _ _ (by simp)) (one3 _ _ _ _ _) (by have := HLn.out; unfold maxLen; omega) (by have := HLn.out; omega) (by have := HSz.out; simp; omega) ?_; intro v5 w5 ho5 hg5 _)
            have hb5 : Below (w.heap.size + 2) wr w5 := (((Below.refl _ wr).alloc HSz.out _).alloc (by have := HSz.out; simp; omega) _).grown hg5 (by have := HSz.out; simp; omega) (fun g e => (HLt.out g e).1)
            have hnb : some wr.heap.size ≠ v9.ownBlock := fun e => by have := (HLt.out _ e.symm).2; omega
            have g0 := hg5.cell (a := ⟨wr.heap.size, 0, none⟩) (cell_al (cell_new rfl rfl rfl : (wr.alloc (.cells #[.int .u8 p.1.bed, .int .i64 p.1.at_, .slice A2 p.1.loops.length c2] 92)).cell? ⟨wr.heap.size, 0, none⟩ = some (.int .u8 p.1.bed)) _) hnb
            have g1 := hg5.cell (a := ⟨wr.heap.size, 1, none⟩) (cell_al (cell_new rfl rfl rfl : (wr.alloc (.cells #[.int .u8 p.1.bed, .int .i64 p.1.at_, .slice A2 p.1.loops.length c2] 92)).cell? ⟨wr.heap.size, 1, none⟩ = some (.int .i64 p.1.at_)) _) hnb
            have g2 := hg5.cell (a := ⟨wr.heap.size, 2, none⟩) (cell_al (cell_new rfl rfl rfl : (wr.alloc (.cells #[.int .u8 p.1.bed, .int .i64 p.1.at_, .slice A2 p.1.loops.length c2] 92)).cell? ⟨wr.heap.size, 2, none⟩ = some (.slice A2 p.1.loops.length c2)) _) hnb
            have HO4 := Lib.hid ho5
            have HSz5 := Lib.hid hb5.size
            have HB5 := Lib.hid hb5
            have HLt5 : Hid (∀ g, v5.ownBlock = some g → w.heap.size + 2 ≤ g ∧ g < w5.heap.size) := fun g e => HO4.out.lt g e
            clear hg5 ho5 hb5 hnb c0 c1 c2' c3 d0 d1 d2
            go_wp2_with (at_builtin; refine wpList_append_own _ rfl _ _ 44 rfl (w.heap.size + 2) 92 i0 (.agg #[.int .u8 0, .int .i64 0, .slice none 0 0]) 3 40 Tryz.underlying44 hi hz0 hz1 hz2 rfl (by decide) _ _ _ rfl (HO4.out.alloc _) ⟨w5.heap.size, 0, none⟩ 1 1 [.int .u8 p.1.bed, .int .i64 p.1.at_, .slice A2 p.1.loops.length c2] rfl rfl (newsT _ _ _ _ (by simp)) (one3 _ _ _ _ _) (by have := HLn.out; unfold maxLen; omega) (by have := HLn.out; omega) (by have := HSz.out; have := HSz5.out; simp; omega) ?_; intro v6 w6 ho6 hg6 _)
            have hb6 : Below (w.heap.size + 2) wr w6 := HB5.out.trans (((Below.refl _ w5).alloc (by have := HSz.out; have := HSz5.out; omega) _).grown hg6 (by have := HSz.out; have := HSz5.out; simp; omega) (fun g e => (HLt5.out g e).1))
            have HO5 := Lib.hid (HFin.out _ _ ho6)
            have HP5 := Lib.hid (HP.out.to hb6)
            clear ho6 hb6 hg6
            go_wp2
            go_roundw
            case rel => exact ⟨k + 1, v6, by omega, by go_num, by rw [HDn.out], rfl, HO5.out, HP5.out⟩
            case measure => simp [intOf]; omega
          · have t1 : (p.1.bed != b) = true := by simp; omega
            have t3 : decide (b < p.1.bed) = true := by simp; omega
            clear hk2 hbe
            go_upto_region 9 with (at_builtin; refine wpList_append_own _ rfl _ _ 44 rfl (w.heap.size + 2) 92 i0 (.agg #[.int .u8 0, .int .i64 0, .slice none 0 0]) 3 40 Tryz.underlying44 hi hz0 hz1 hz2 rfl (by decide) _ _ _ rfl ((HO.out.alloc _).alloc _) ⟨wr.heap.size + 1, 0, none⟩ 1 1 [.int .u8 b, .int .i64 n, .slice Al l.length cl] rfl rfl (newsT _ _ _ _ (by simp)) (one3 _ _ _ _ _) (by have := HLn.out; unfold maxLen; omega) (by have := HLn.out; omega) (by have := HSz.out; simp; omega) ?_; intro v5 w5 ho5 hg5 _)
            have hb5 : Below (w.heap.size + 2) wr w5 := (((Below.refl _ wr).alloc HSz.out _).alloc (by have := HSz.out; simp; omega) _).grown hg5 (by have := HSz.out; simp; omega) (fun g e => (HLt.out g e).1)
            have hnb : some wr.heap.size ≠ v9.ownBlock := fun e => by have := (HLt.out _ e.symm).2; omega
            have g0 := hg5.cell (a := ⟨wr.heap.size, 0, none⟩) (cell_al (cell_new rfl rfl rfl : (wr.alloc (.cells #[.int .u8 p.1.bed, .int .i64 p.1.at_, .slice A2 p.1.loops.length c2] 92)).cell? ⟨wr.heap.size, 0, none⟩ = some (.int .u8 p.1.bed)) _) hnb
            have g1 := hg5.cell (a := ⟨wr.heap.size, 1, none⟩) (cell_al (cell_new rfl rfl rfl : (wr.alloc (.cells #[.int .u8 p.1.bed, .int .i64 p.1.at_, .slice A2 p.1.loops.length c2] 92)).cell? ⟨wr.heap.size, 1, none⟩ = some (.int .i64 p.1.at_)) _) hnb
            have g2 := hg5.cell (a := ⟨wr.heap.size, 2, none⟩) (cell_al (cell_new rfl rfl rfl : (wr.alloc (.cells #[.int .u8 p.1.bed, .int .i64 p.1.at_, .slice A2 p.1.loops.length c2] 92)).cell? ⟨wr.heap.size, 2, none⟩ = some (.slice A2 p.1.loops.length c2)) _) hnb
            have HO4 := Lib.hid ho5
            have HSz5 := Lib.hid hb5.size
            have HB5 := Lib.hid hb5
            have HLt5 : Hid (∀ g, v5.ownBlock = some g → w.heap.size + 2 ≤ g ∧ g < w5.heap.size) := fun g e => HO4.out.lt g e
            clear hg5 ho5 hb5 hnb c0 c1 c2' c3 d0 d1 d2
            go_wp2_with (at_builtin; refine wpList_append_own _ rfl _ _ 44 rfl (w.heap.size + 2) 92 i0 (.agg #[.int .u8 0, .int .i64 0, .slice none 0 0]) 3 40 Tryz.underlying44 hi hz0 hz1 hz2 rfl (by decide) _ _ _ rfl (HO4.out.alloc _) ⟨w5.heap.size, 0, none⟩ 1 1 [.int .u8 p.1.bed, .int .i64 p.1.at_, .slice A2 p.1.loops.length c2] rfl rfl (newsT _ _ _ _ (by simp)) (one3 _ _ _ _ _) (by have := HLn.out; unfold maxLen; omega) (by have := HLn.out; omega) (by have := HSz.out; have := HSz5.out; simp; omega) ?_; intro v6 w6 ho6 hg6 _)
            have hb6 : Below (w.heap.size + 2) wr w6 := HB5.out.trans (((Below.refl _ w5).alloc (by have := HSz.out; have := HSz5.out; omega) _).grown hg6 (by have := HSz.out; have := HSz5.out; simp; omega) (fun g e => (HLt5.out g e).1))
            have HO5 := Lib.hid (HFin.out _ _ ho6)
            have HP5 := Lib.hid (HP.out.to hb6)
            clear ho6 hb6 hg6
            go_wp2
            go_roundw
            case rel => exact ⟨k + 1, v6, by omega, by go_num, by rw [HDn.out], rfl, HO5.out, HP5.out⟩
            case measure => simp [intOf]; omega
    case neg =>
      have hke : hv.length ≤ k := by omega
      obtain ⟨HE1, HE2⟩ := out_end (b := b) (n := n) (l := l) (vl := vl) hke
      have HSz := Lib.hid HP.out.sz
      have HLt : Hid (∀ g, v9.ownBlock = some g → w.heap.size + 2 ≤ g ∧ g < wr.heap.size) := fun g e => HO.out.lt g e
      clear HS HV
      cases hdn : dnV b n l hv k with
      | true =>
        have HE : Hid (outV b n l vl hv k = putV b n l vl hv) := HE1 hdn
        have ho := HO.out
        rw [HE.out] at ho
        obtain ⟨Ao, co, rfl, -⟩ := own_slice ho
        obtain ⟨k0, k1, k2, k3, HR⟩ := rput_end HP.out ho HVl.out
        have HR2 := Lib.hid HR
        have HK := Lib.hid (show _ ∧ _ ∧ _ ∧ _ from ⟨k0, k1, k2, k3⟩)
        obtain ⟨z0, z1, z2, z3⟩ := HP.out.out
        have f0 := HP.out.frz
        have f1 := HP.out.frz2
        have l0 := lt_of_cell c0
        have l1 := lt_of_cell z0
        clear HE1 HE2 hdn ho k0 k1 k2 k3 HR
        go_wp2
        exact rput_close HK.out.1 HK.out.2.1 HK.out.2.2.1 HK.out.2.2.2 rfl HR2.out
      | false =>
        obtain ⟨hl1, hE⟩ := HE2 hdn
        have HXs : Hid (xsV b n l vl = [(⟨b, n, l⟩, vl)]) := by show xsV b n l vl = _; unfold xsV; rw [if_neg hl1]
        have HXc : Hid (hookCells ((⟨b, n, l⟩ : Hk), vl) = [.int .u8 b, .int .i64 n, .slice Al l.length cl]) := by show hookCells ((⟨b, n, l⟩ : Hk), vl) = _; unfold hookCells; rw [HVl.out]
        have HFin : Hid (∀ (W : World) (v : Value), W.ownsRow (w.heap.size + 2) 92 3 v ((outV b n l vl hv k).length + 1) (((outV b n l vl hv k).map hookCells).flatten ++ [.int .u8 b, .int .i64 n, .slice Al l.length cl]) → W.ownsRow (w.heap.size + 2) 92 3 v (putV b n l vl hv).length ((putV b n l vl hv).map hookCells).flatten) := fun W v h => by
          rw [← hE, HXs.out, flat_snocH, List.length_append, HXc.out]
          exact h
        clear HE1 HE2 hdn hE hl1 HXs HXc
        go_upto_region 14 with (at_builtin; refine wpList_append_own _ rfl _ _ 44 rfl (w.heap.size + 2) 92 i0 (.agg #[.int .u8 0, .int .i64 0, .slice none 0 0]) 3 40 Tryz.underlying44 hi hz0 hz1 hz2 rfl (by decide) _ _ _ rfl (HO.out.alloc _) ⟨wr.heap.size, 0, none⟩ 1 1 [.int .u8 b, .int .i64 n, .slice Al l.length cl] rfl rfl (newsT _ _ _ _ (by simp)) (one3 _ _ _ _ _) (by have := HLn.out; unfold maxLen; omega) (by have := HLn.out; omega) (by have := HSz.out; simp; omega) ?_; intro v5 w5 ho5 hg5 _)
        have hb5 : Below (w.heap.size + 2) wr w5 := ((Below.refl _ wr).alloc HSz.out _).grown hg5 (by have := HSz.out; simp; omega) (fun g e => (HLt.out g e).1)
        have hp5 := HP.out.to hb5
        have ho := HFin.out _ _ ho5
        obtain ⟨Ao, co, rfl, -⟩ := own_slice ho
        obtain ⟨k0, k1, k2, k3, HR⟩ := rput_end hp5 ho HVl.out
        have HR2 := Lib.hid HR
        have HK := Lib.hid (show _ ∧ _ ∧ _ ∧ _ from ⟨k0, k1, k2, k3⟩)
        clear c0 c1 c2' c3
        obtain ⟨c0, c1, c2', c3⟩ := hp5.st
        obtain ⟨z0, z1, z2, z3⟩ := hp5.out
        have f0 := hp5.frz
        have f1 := hp5.frz2
        have l0 := lt_of_cell c0
        have l1 := lt_of_cell z0
        clear ho k0 k1 k2 k3 HR hp5 hb5 ho5 hg5 HP HO
        go_wp2
        exact rput_close HK.out.1 HK.out.2.1 HK.out.2.2.1 HK.out.2.2.2 rfl HR2.out
end Go.Proofs.YthedmiilkeclaaaGreat
