/- Layer 34: planned and full of IntarsiaNames, walked. -/
import Derived.Test.YthedmiilkeclaaaGreatKRp
import Derived.Test.YthedmiilkeclaaaGreatKNs
import Derived.Test.YthedmiilkeclaaaGreatKRi
namespace Go.Proofs.YthedmiilkeclaaaGreat
open Go.RowKit Go.Shelf Go.Sort
open Go.Proofs.YthedmiilkeclaaaGreat.I34
set_option maxRecDepth 1000000

theorem four_lit {w : World} {T : TypeId} (A : Option Addr) (c : Nat) (hc : 16 ≤ c) (h : SlI w w.heap.size A rowN) :
    SlRows (w.alloc (.cells #[.slice A 16 c, .slice A 16 c, .slice A 16 c, .slice A 16 c] T)) (w.alloc (.cells #[.slice A 16 c, .slice A 16 c, .slice A 16 c, .slice A 16 c] T)).heap.size (some ⟨w.heap.size, 0, none⟩) [rowN, rowN, rowN, rowN] := by
  refine rows_lit _ _ (by simp) fun j row hj => ?_
  have hj4 : j < 4 := by have := (List.getElem?_eq_some_iff.1 hj).1; simpa using this
  rcases (by omega : j = 0 ∨ j = 1 ∨ j = 2 ∨ j = 3) with rfl | rfl | rfl | rfl
  all_goals
    have e : row = rowN := by simpa using hj.symm
    subst e
    exact ⟨A, c, rfl, hc, h⟩
abbrev fourO (A : Option Addr) (c : Nat) : Obj := .cells #[.slice A 16 c, .slice A 16 c, .slice A 16 c, .slice A 16 c] 22
set_option maxHeartbeats 4000000 in
theorem planned_any (A : Option Addr) (c : Nat) (w : World) (hc : 16 ≤ c) (h : SlI w w.heap.size A rowN) :
    Calls Tryz.prog 36 #[.slice A 16 c] w fun e w' => e = .returned (.int .i64 0) ∧ Below w.heap.size w w' := by
  have hr := rplan_walk (some ⟨w.heap.size, 0, none⟩) 4 [rowN, rowN, rowN, rowN] 1 (w.alloc (fourO A c)) (four_lit A c hc h) four_len four_chk out_len out_wf out_run
  have HR : Hid (Calls Tryz.prog 50 #[.slice (some ⟨w.heap.size, 0, none⟩) 4 4, .int .i64 1] (w.alloc (.cells #[.slice A 16 c, .slice A 16 c, .slice A 16 c, .slice A 16 c] 22)) fun e w' => ∃ a n c', e = .returned (.tuple #[.slice a n c', .int .i64 0]) ∧ Below (w.alloc (fourO A c)).heap.size (w.alloc (fourO A c)) w') := hr
  have HAl := Lib.hid ((Below.refl w.heap.size w).alloc (Nat.le_refl _) (fourO A c))
  clear h hc hr
  go_enter Tryz.func36, Tryz.ntmps36
  go_wp2_with ((go_at_call 50; refine HR.out.mono ?_; rintro e w2 ⟨a, n, c', rfl, hb⟩))
  go_ret
  exact ⟨rfl, HAl.out.trans (hb.mono HAl.out.size)⟩

/-- A row of 101 numbers. -/
def pxF (g : Nat) (F : Nat → Int) : Own := ⟨3, 1, 101, .slice (some ⟨g, 0, none⟩) 101 101, (List.range 101).map fun k => .int .i64 (F k)⟩
theorem pxF_at {w : World} {B g : Nat} {F : Nat → Int} (h : (pxF g F).lies w B) : (∀ k, k < 101 → w.cell? ⟨g, k, none⟩ = some (.int .i64 (F k))) ∧ (∀ k, w.frozen? ⟨g, k, none⟩ = false) ∧ B ≤ g ∧ g < w.heap.size := by
  have h0 : w.ownsRow B 3 1 (.slice (some ⟨g, 0, none⟩) 101 101) 101 ((List.range 101).map fun k => Value.int .i64 (F k)) := h
  have hl := World.ownsRow.lt h0 g rfl
  refine ⟨fun k hk => ?_, fun k => World.ownsRow.frozenAt h0 k, hl.1, hl.2⟩
  rw [World.ownsRow.cellAt h0 k (by omega), List.getElem?_map, List.getElem?_range hk]
  rfl
theorem pxF_set {w : World} {B g : Nat} {F : Nat → Int} {L : List Own} (h : Owns w B (pxF g F :: L)) (k : Nat) (q : Int) : Owns (w.setCell ⟨g, k, none⟩ (.int .i64 q)) B (pxF g (fun j => if j = k then q else F j) :: L) := by
  have h0 : w.ownsRow B 3 1 (.slice (some ⟨g, 0, none⟩) 101 101) 101 ((List.range 101).map fun k => Value.int .i64 (F k)) := h.head
  obtain ⟨h1, h2⟩ := World.ownsRow.stored h0 k (.int .i64 q)
  have e : ((List.range 101).map fun k => Value.int .i64 (F k)).set k (.int .i64 q) = (List.range 101).map fun j => Value.int .i64 (if j = k then q else F j) := by
    apply List.ext_getElem (by simp)
    intro j h1 h2
    rw [List.getElem_set]
    simp only [List.getElem_map, List.getElem_range]
    by_cases hj : k = j
    · subst hj; simp
    · rw [if_neg hj, if_neg (fun h => hj h.symm)]
  rw [e] at h1
  exact h.turn (o' := pxF g (fun j => if j = k then q else F j)) h2 h1 (fun j hj => Or.inl hj)
theorem pxF_new {w : World} {B : Nat} {L : List Own} (h : Owns w B L) (hB : B ≤ w.heap.size) : Owns (w.alloc (zr 101)) B (pxF w.heap.size (fun _ => 0) :: L) := by
  refine h.add ((Below.refl _ w).alloc (Nat.le_refl _) _) hB ?_
  have h1 := World.ownsRow_lit (e := 3) (base := w.heap.size) (size := 1) w (madeCells #[Value.int .i64 0] 101) 101 (Nat.le_refl _) (by unfold maxLen; omega) (by rw [size_madeCells, Nat.mul_one])
  rw [toList_madeCells_one] at h1
  unfold pxF Own.lies
  have e : ((List.range 101).map fun _ => Value.int .i64 0) = List.replicate 101 (Value.int .i64 0) := by rw [List.map_const', List.length_range]
  show World.ownsRow _ _ _ _ _ _ ((List.range 101).map fun _ => Value.int .i64 0)
  rw [e]
  exact h1
theorem fill_next (k : Nat) : (fun j => if j = k then 1 else if j < k then (1 : Int) else 0) = fun j => if j < k + 1 then (1 : Int) else 0 := by
  funext j
  by_cases e : j = k
  · rw [if_pos e, if_pos (by omega)]
  · rw [if_neg e]
    by_cases h : j < k
    · rw [if_pos h, if_pos (by omega)]
    · rw [if_neg h, if_neg (by omega)]
theorem rows_take {W : World} {B : Nat} {A : Option Addr} {n m : Nat} {r : List Int} (h : SlRows W B A (List.replicate n r)) (hm : m ≤ n) : SlRows W B A (List.replicate m r) := fun hne => by
  have hn : List.replicate n r ≠ [] := fun e => hne (by
    have : n = 0 := by simpa using congrArg List.length e
    have : m = 0 := by omega
    subst this; rfl)
  obtain ⟨b, off, e, hb, hc⟩ := h hn
  refine ⟨b, off, e, hb, fun j row hj => hc j row ?_⟩
  have hjm : j < m := by have := (List.getElem?_eq_some_iff.1 hj).1; simpa using this
  rw [List.getElem?_replicate, if_pos (by omega)]
  rw [List.getElem?_replicate, if_pos hjm] at hj
  exact hj
/-- An error alone. -/
def EOut (w : World) (x : Int) (e : Ending) (w' : World) : Prop := ∃ a n c, e = .returned (.tuple #[.slice a n c, .int .i64 x]) ∧ Below w.heap.size w w'
theorem plan_e {A : Option Addr} {c : Nat} {p : List (List Int)} {limit x : Int} {W : World} (h : SlRows W W.heap.size A p) (hrl : ∀ row ∈ p, row.length ≤ 4611686018427387904) (hx : (planE p limit).2 = x) :
    Calls Tryz.prog 5 #[.slice A p.length c, .int .i64 limit] W fun e w' => EOut W x e w' :=
  Calls.mono (plan_any A c p limit W h hrl) fun e w' ⟨a, c', he, _, hb⟩ => ⟨a, (planE p limit).1.length, c', by rw [he, hx], hb⟩
theorem wide_rl (n : Nat) : ∀ row ∈ List.replicate n wideN, row.length ≤ 4611686018427387904 := fun row h => by
  rw [List.eq_of_mem_replicate h]
  show 101 ≤ _
  omega
theorem plan_20 {A : Option Addr} {c : Nat} {W : World} (h : SlRows W W.heap.size A (List.replicate 20 wideN)) : Calls Tryz.prog 5 #[.slice A 20 c, .int .i64 1] W fun e w' => EOut W 4 e w' := by
  have h1 := plan_e (c := c) (p := List.replicate 20 wideN) (limit := 1) (x := 4) h (wide_rl 20) wide_many
  rw [List.length_replicate] at h1
  exact h1
theorem plan_19 {A : Option Addr} {c : Nat} {W : World} (h : SlRows W W.heap.size A (List.replicate 19 wideN)) : Calls Tryz.prog 5 #[.slice A 19 c, .int .i64 1] W fun e w' => ∃ a c, e = .returned (.tuple #[.slice a 1920 c, .int .i64 0]) ∧ Below W.heap.size W w' := by
  have h1 := plan_any A c (List.replicate 19 wideN) 1 W h (wide_rl 19)
  have hl := wide_len
  rw [wide_plan, List.length_replicate] at h1
  generalize progI (List.replicate 19 wideN) 1 = L at h1 hl
  refine Calls.mono h1 ?_
  rintro e w' ⟨a, c', he, _, hb⟩
  refine ⟨a, c', ?_, hb⟩
  rw [he]
  dsimp only
  rw [hl]
set_option maxHeartbeats 32000000 in
theorem full_any (w : World) : Calls Tryz.prog 13 #[] w fun e w' => e = .returned (.bool true) ∧ Below w.heap.size w w' := by
  have HX : Hid (SlI (w.alloc (.cells #[.int .i64 6, .int .i64 1, .int .i64 6, .int .i64 2, .int .i64 6, .int .i64 3, .int .i64 6, .int .i64 4, .int .i64 6, .int .i64 5, .int .i64 6, .int .i64 1, .int .i64 2, .int .i64 3, .int .i64 4, .int .i64 5] 3)) (w.alloc (.cells #[.int .i64 6, .int .i64 1, .int .i64 6, .int .i64 2, .int .i64 6, .int .i64 3, .int .i64 6, .int .i64 4, .int .i64 6, .int .i64 5, .int .i64 6, .int .i64 1, .int .i64 2, .int .i64 3, .int .i64 4, .int .i64 5] 3)).heap.size (some ⟨w.heap.size, 0, none⟩) rowN ∧ Below w.heap.size w (w.alloc (.cells #[.int .i64 6, .int .i64 1, .int .i64 6, .int .i64 2, .int .i64 6, .int .i64 3, .int .i64 6, .int .i64 4, .int .i64 6, .int .i64 5, .int .i64 6, .int .i64 1, .int .i64 2, .int .i64 3, .int .i64 4, .int .i64 5] 3))) :=
    ⟨ints_lit _ rowN rfl, (Below.refl _ _).alloc (Nat.le_refl _) _⟩
  have hmk : ∀ W, (Instr.makeSlice 22 (.int .i64 101) (.int .i64 101)).run Tryz.prog W = .ok (.slice (some ⟨W.heap.size, 0, none⟩) 101 101) (W.alloc (zr 101)) := fun W => mk_row 101 (by omega) W
  go_enter Tryz.func13, Tryz.ntmps13
  go_upto_region 2 with fail
  refine abs_world (Q := fun W => Code.wp _ _ _ _ W) (F := fun W => SlI W W.heap.size (some ⟨w.heap.size, 0, none⟩) rowN ∧ Below w.heap.size w W) _ HX.out ?_
  clear HX
  obtain ⟨g, hg⟩ : ∃ g, g = w.heap.size := ⟨_, rfl⟩
  rw [← hg]
  rintro W1 ⟨hs1, hb1⟩
  rw [hg] at hb1
  clear hg
  have hp := plan_e (c := 4) (four_lit (T := 22) (some ⟨g, 0, none⟩) 16 (Nat.le_refl _) hs1) four_len plan_five
  have HP : Hid (Calls Tryz.prog 5 #[.slice (some ⟨W1.heap.size, 0, none⟩) 4 4, .int .i64 1] (W1.alloc (.cells #[.slice (some ⟨g, 0, none⟩) 16 16, .slice (some ⟨g, 0, none⟩) 16 16, .slice (some ⟨g, 0, none⟩) 16 16, .slice (some ⟨g, 0, none⟩) 16 16] 22)) fun e w' => EOut (W1.alloc (fourO (some ⟨g, 0, none⟩) 16)) 0 e w') := hp
  have HAl := Lib.hid ((Below.refl W1.heap.size W1).alloc (Nat.le_refl _) (fourO (some ⟨g, 0, none⟩) 16))
  have HS1 := Lib.hid hs1
  have HB1 := Lib.hid hb1
  clear hp hs1 hb1
  go_upto_region 3 with ((go_at_call 5; refine HP.out.mono ?_; rintro e w2 ⟨a2, n2, c2, rfl, hb2⟩))
  have hbb := HAl.out.trans (hb2.mono HAl.out.size)
  refine abs_world (Q := fun W => Code.wp _ _ _ _ W) (F := fun W => SlI W W.heap.size (some ⟨g, 0, none⟩) rowN ∧ Below w.heap.size w W) _ ⟨(HS1.out.below hbb).more hbb.size, HB1.out.trans (hbb.mono HB1.out.size)⟩ ?_
  clear hbb hb2 HP HAl HS1 HB1
  rintro W2 ⟨hs2, hb2⟩
  have HS2 := Lib.hid hs2
  have HB2 := Lib.hid hb2
  have HX : Hid (Owns (W2.alloc (zr 101)) W2.heap.size [pxF W2.heap.size (fun _ => 0)] ∧ Below W2.heap.size W2 (W2.alloc (zr 101))) := ⟨pxF_new Owns.nil (Nat.le_refl _), (Below.refl _ _).alloc (Nat.le_refl _) _⟩
  clear hs2 hb2
  go_upto_region 4 with fail
  refine abs_world (Q := fun W => Code.wp _ _ _ _ W) (F := fun W => Owns W W2.heap.size [pxF W2.heap.size (fun _ => 0)] ∧ Below W2.heap.size W2 W) _ HX.out ?_
  clear HX hmk
  obtain ⟨gw, hgw⟩ : ∃ gw, gw = W2.heap.size := ⟨_, rfl⟩
  rw [show pxF W2.heap.size (fun _ => 0) = pxF gw (fun _ => 0) by rw [hgw]]
  rw [show (Value.slice (some ⟨W2.heap.size, 0, none⟩) 101 101) = Value.slice (some ⟨gw, 0, none⟩) 101 101 by rw [hgw]]
  clear hgw
  rintro W3 ⟨hO3, hb3⟩
  have HO3 := Lib.hid hO3
  have HB3 := Lib.hid hb3
  clear hO3 hb3
  go_wp2
  go_loopw [5] (fun s5 wr => ∃ k : Nat, k ≤ 101 ∧ s5 = .int .i64 (k : Int) ∧ Hid (Owns wr W2.heap.size [pxF gw (fun j => if j < k then 1 else 0)]) ∧ Hid (Below W2.heap.size W2 wr)) (fun s5 _ => 101 - (intOf s5).toNat)
  case atStart => exact ⟨0, by omega, rfl, HO3.out, HB3.out⟩
  case round =>
    obtain ⟨k, hk, rfl, HO, HB⟩ := hrel
    clear HO3 HB3
    obtain ⟨f1, f2, f3, f4⟩ := pxF_at (HO.out.all (pxF gw (fun j => if j < k then 1 else 0)) (by simp))
    by_cases hlt : k < 101
    case pos =>
      have hc := f1 k hlt
      have hfz := f2 k
      have HO4 := pxF_set HO.out k 1
      rw [fill_next] at HO4
      have HO5 := Lib.hid HO4
      have HB5 := Lib.hid (HB.out.setCell (p := ⟨gw, k, none⟩) f3 (.int .i64 1))
      clear HO4 HO HB f1 f2 f3
      go_wp2
      go_roundw
      case rel => exact ⟨k + 1, by omega, by go_num, HO5.out, HB5.out⟩
      case measure => simp [intOf]; omega
    case neg =>
      obtain rfl : k = 101 := by omega
      obtain ⟨W4, hW4⟩ : ∃ W4 : World, W4 = wr := ⟨_, rfl⟩
      rw [← hW4] at HO HB f1 f4 ⊢
      clear hW4
      have hwd : SlI W4 W4.heap.size (some ⟨gw, 0, none⟩) wideN := fun _ => ⟨gw, 0, rfl, f4, fun j z hz => by
        have hj : j < 101 := by have := (List.getElem?_eq_some_iff.1 hz).1; simpa [wideN] using this
        rw [Nat.zero_add, f1 j hj, if_pos hj]
        have e : z = 1 := List.eq_of_mem_replicate (List.mem_of_getElem? hz)
        rw [e]⟩
      have HWd := Lib.hid hwd
      have HGl : Hid (gw < W4.heap.size) := f4
      have HS4 : Hid (SlI W4 W4.heap.size (some ⟨g, 0, none⟩) rowN) := (HS2.out.below HB.out).more HB.out.size
      have HB4 : Hid (Below w.heap.size w W4) := HB2.out.trans (HB.out.mono HB2.out.size)
      clear hwd f1 f2 f3 f4 HO HB HS2 HB2 hk hlt
      rw [show (((101 : Nat) : Nat) : Int) = 101 from rfl]
      go_wp2
      go_loopw [6, 7] (fun s6 s7 wr => ∃ i : Nat, i ≤ 20 ∧ s7 = .int .i64 (i : Int) ∧ ∃ vs, Hid (RowsO wr W4.heap.size s6 (List.replicate i wideN) vs) ∧ Hid (Below W4.heap.size W4 wr)) (fun _ s7 _ => 20 - (intOf s7).toNat)
      case atStart => exact ⟨0, by omega, rfl, [], RowsO.new _ _, Below.refl _ _⟩
      case round =>
        obtain ⟨i, hi, rfl, vs, HR, HB⟩ := hrel
        obtain ⟨W5, hW5⟩ : ∃ W5 : World, W5 = wr := ⟨_, rfl⟩
        rw [← hW5] at HR HB ⊢
        clear hW5
        obtain ⟨a6, c6, rfl⟩ := HR.out.form
        by_cases hlt : i < 20
        case pos =>
          obtain ⟨A', c', w', hrun, hpu, hbp⟩ := HR.out.push HB.out.size (by simp; omega) (A := some ⟨gw, 0, none⟩) (row := wideN) (C := 101) (by simp [wideN]) (fun _ => ⟨gw, 0, rfl, Nat.lt_of_lt_of_le HGl.out HB.out.size, fun e => by
            have h1 := (HR.out.lt e).1
            have h2 := HGl.out
            omega, fun j z hz => by
            obtain ⟨b, off, e, hbl, hc⟩ := HWd.out (by simp [wideN])
            cases e
            exact (bcell HB.out HGl.out _).trans (hc j z hz)⟩)
          have hrl : (List.replicate i wideN).length = i := List.length_replicate ..
          have hsn : List.replicate i wideN ++ [wideN] = List.replicate (i + 1) wideN := List.replicate_succ'.symm
          rw [hsn] at hpu
          rw [hrl] at hrun hpu ⊢
          have hr9 : (Builtin.append_ #[23, 23] 23 #[.slice a6 i c6, .slice (some ⟨W5.heap.size, 0, none⟩) 1 1]).run Tryz.prog (W5.alloc (.cells #[.slice (some ⟨gw, 0, none⟩) 101 101] 22)) = .ok (.slice A' (i + 1) c') w' := hrun
          have HP := Lib.hid hpu
          have HBP := Lib.hid (HB.out.trans hbp)
          clear hrun hpu hbp hsn hrl HR HB
          go_wp2_with (at_builtin; refine wpList_append_run _ rfl _ _ _ _ rfl _ _ (by rfl) (by rfl) hr9 ?_)
          go_roundw
          case rel => exact ⟨i + 1, by omega, by go_num, _, HP.out, HBP.out⟩
          case measure => simp [intOf]; omega
        case neg =>
          obtain rfl : i = 20 := by omega
          have hc20 : 20 ≤ c6 := by
            rcases HR.out.row.2 with ⟨e1, h2⟩ | ⟨g1, cap1, cur1, hv, hg1, hh1, hn1, -⟩
            · exact absurd h2 (by simp)
            · cases hv
              simpa using hn1
          have hsr := HR.out.rows
          have hrl : (List.replicate 20 wideN).length = 20 := List.length_replicate ..
          have HS5 : Hid (SlI W5 W5.heap.size (some ⟨g, 0, none⟩) rowN) := (HS4.out.below HB.out).more HB.out.size
          have HB5 : Hid (Below w.heap.size w W5) := HB4.out.trans (HB.out.mono HB4.out.size)
          have HP : Hid (Calls Tryz.prog 5 #[.slice a6 20 c6, .int .i64 1] W5 fun e w' => EOut W5 4 e w') := plan_20 hsr
          have HSR := Lib.hid hsr
          rw [hrl]
          clear hsr hrl HR HB HS4 HB4 HWd HGl hi hlt
          rw [show (((20 : Nat) : Nat) : Int) = 20 from rfl]
          go_upto_region 14 with ((go_at_call 5; refine HP.out.mono ?_; rintro e w6 ⟨a7, n7, c7, rfl, hb6⟩))
          refine abs_world (Q := fun W => Code.wp _ _ _ _ W) (F := fun W => SlRows W W.heap.size a6 (List.replicate 20 wideN) ∧ SlI W W.heap.size (some ⟨g, 0, none⟩) rowN ∧ Below w.heap.size w W) _ ⟨(HSR.out.below hb6).more hb6.size, (HS5.out.below hb6).more hb6.size, HB5.out.trans (hb6.mono HB5.out.size)⟩ ?_
          clear hb6 HP HSR HS5 HB5
          rintro W7 ⟨hr7, hs7, hb7⟩
          have HP7 : Hid (Calls Tryz.prog 5 #[.slice a6 19 c6, .int .i64 1] W7 fun e w' => ∃ a c, e = .returned (.tuple #[.slice a 1920 c, .int .i64 0]) ∧ Below W7.heap.size W7 w') := by
            exact plan_19 (rows_take hr7 (by omega))
          have HS7 := Lib.hid hs7
          have HB7 := Lib.hid hb7
          clear hr7 hs7 hb7
          go_upto_region 15 with ((go_at_call 5; refine HP7.out.mono ?_; rintro e w8 ⟨a8, c8, rfl, hb8⟩))
          refine abs_world (Q := fun W => Code.wp _ _ _ _ W) (F := fun W => SlI W W.heap.size (some ⟨g, 0, none⟩) rowN ∧ Below w.heap.size w W) _ ⟨(HS7.out.below hb8).more hb8.size, HB7.out.trans (hb8.mono HB7.out.size)⟩ ?_
          clear hb8 HP7 HS7 HB7
          rintro W9 ⟨hs9, hb9⟩
          have HPl := Lib.hid (planned_any (some ⟨g, 0, none⟩) 16 W9 (Nat.le_refl _) hs9)
          have HB9 := Lib.hid hb9
          clear hs9 hb9
          go_wp2_with ((go_at_call 36; refine HPl.out.mono ?_; rintro e w10 ⟨rfl, hb10⟩))
          go_ret
          exact ⟨rfl, HB9.out.trans (hb10.mono HB9.out.size)⟩
end Go.Proofs.YthedmiilkeclaaaGreat
