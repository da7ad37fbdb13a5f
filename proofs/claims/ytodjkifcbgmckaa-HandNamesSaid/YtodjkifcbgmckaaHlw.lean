/- Layer 29: SameMoves, at two lists of one content. Layer 29: the chapter's example: what it answers. Layer 29: the chapter's example holds: alive. -/
import Derived.Test.YtodjkifcbgmckaaHsm
import Derived.Test.YtodjkifcbgmckaaHof2
import Derived.Test.YtodjkifcbgmckaaHfi
import Derived.Test.YtodjkifcbgmckaaHw
import Derived.Test.YtodjkifcbgmckaaHwk
import Derived.Test.YtodjkifcbgmckaaReps
namespace Go.Proofs.Ytodjkifcbgmckaa
open Go.RowKit Go.Shelf
set_option maxRecDepth 100000

end Go.Proofs.Ytodjkifcbgmckaa
namespace Go.Proofs.Ytodjkifcbgmckaa
open Go.RowKit Go.Shelf Go.Sort
set_option maxRecDepth 100000

abbrev brd29 : Brd := ⟨[2, 0, 1], [(0, 1), (0, 2)]⟩
theorem al_of : ofE ⟨6, false, 1, 2⟩ = (brd29, 0) := by rfl
theorem al_plan : planE brd29 [1] = ([0, -1, -1], 0) := by rfl
theorem al_none : planE brd29 [-1] = ([], 6) := by rfl
theorem al_work : workE brd29 [1] [0, -1, -1] = ([⟨true, 0⟩, ⟨false, -1⟩, ⟨false, -1⟩, ⟨false, 0⟩], 0) := by rfl
theorem sl_lit {W W' : World} {cs : Array Value} {t : TypeId} (l : List Int) (e : W' = W.alloc (.cells cs t)) (hc : cs = (intV l).toArray) : SlI W' W'.heap.size (some ⟨W.heap.size, 0, none⟩) l := fun _ => by
  subst hc
  refine ⟨W.heap.size, 0, rfl, by subst e; simp, fun j z hz => ?_⟩
  rw [Nat.zero_add]
  refine cell_new e rfl ?_
  unfold intV
  simp [hz]
theorem pr_lit {W W' : World} {cs : Array Value} {t : TypeId} (l : List (Int × Int)) (e : W' = W.alloc (.cells cs t)) (hc : cs = (prCells l).toArray) : SlPr W' W'.heap.size (some ⟨W.heap.size, 0, none⟩) l := fun _ => by
  subst hc
  refine ⟨W.heap.size, 0, rfl, by subst e; simp, fun j z hz i v hv => ?_⟩
  rw [Nat.zero_add]
  refine cell_new e rfl ?_
  have := flat_at (sz := 2) (zs := l.map prC) (fun cs hcs => by obtain ⟨p, -, rfl⟩ := List.mem_map.1 hcs; rfl) hz hv
  simpa [prCells] using this
theorem mv_lit {W W' : World} {cs : Array Value} {t : TypeId} (l : List Mv) (e : W' = W.alloc (.cells cs t)) (hc : cs = ((l.map Mv.cells).flatten).toArray) : SlMv W' W'.heap.size (some ⟨W.heap.size, 0, none⟩) l := fun _ => by
  subst hc
  refine ⟨W.heap.size, 0, rfl, by subst e; simp, fun j z hz i v hv => ?_⟩
  rw [Nat.zero_add]
  refine cell_new e rfl ?_
  have := flat_at (sz := 2) (zs := l.map Mv.cells) (fun cs hcs => by obtain ⟨p, -, rfl⟩ := List.mem_map.1 hcs; rfl) hz hv
  simpa using this
theorem cable_any (w : World) : Calls Try.prog 50 #[] w fun e w' => e = .returned (.agg #[.int .u8 6, .bool false, .int .i64 1, .int .i64 2]) ∧ Below w.heap.size w w' := by
  have c0 : (w.alloc (.cells #[.int .u8 6, .bool false, .int .i64 1, .int .i64 2] 35)).cell? ⟨w.heap.size, 0, none⟩ = some (.int .u8 6) := cell_new rfl rfl rfl
  have c1 : (w.alloc (.cells #[.int .u8 6, .bool false, .int .i64 1, .int .i64 2] 35)).cell? ⟨w.heap.size, 1, none⟩ = some (.bool false) := cell_new rfl rfl rfl
  have c2 : (w.alloc (.cells #[.int .u8 6, .bool false, .int .i64 1, .int .i64 2] 35)).cell? ⟨w.heap.size, 2, none⟩ = some (.int .i64 1) := cell_new rfl rfl rfl
  have c3 : (w.alloc (.cells #[.int .u8 6, .bool false, .int .i64 1, .int .i64 2] 35)).cell? ⟨w.heap.size, 3, none⟩ = some (.int .i64 2) := cell_new rfl rfl rfl
  have HB := Lib.hid ((Below.refl _ w).alloc (Nat.le_refl _) (.cells #[.int .u8 6, .bool false, .int .i64 1, .int .i64 2] 35))
  go_enter Try.func50, Try.ntmps50
  go_wp2
  refine bodyPost_ret (v := .agg #[.int .u8 6, .bool false, .int .i64 1, .int .i64 2]) ?_ rfl ⟨rfl, HB.out⟩
  simp [results, Try.results50, go_sem, c0, c1, c2, c3]
end Go.Proofs.Ytodjkifcbgmckaa
namespace Go.Proofs.Ytodjkifcbgmckaa
open Go.RowKit Go.Shelf Go.Sort
set_option maxRecDepth 100000

theorem brd_open29 {w w' : World} {e : Ending} (h : brdOut (brd29, 0) w e w') : ∃ A F c fc, e = .returned (.tuple #[.agg #[.slice A 3 c, .slice F 2 fc], .int .i64 0]) ∧ SlI w' w'.heap.size A [2, 0, 1] ∧ SlPr w' w'.heap.size F [(0, 1), (0, 2)] ∧ Below w.heap.size w w' := brd_open h
theorem sameA (A : Option Addr) (c : Nat) (W : World) (h : SlI W W.heap.size A [2, 0, 1]) : Calls Try.prog 27 #[.slice A 3 c, .slice (some ⟨W.heap.size, 0, none⟩) 3 3] (W.alloc (.cells #[.int .i64 2, .int .i64 0, .int .i64 1] 3)) fun e w' => e = .returned (.bool true) ∧ Below W.heap.size W w' := by
  have hb := (Below.refl W.heap.size W).alloc (Nat.le_refl _) (.cells #[.int .i64 2, .int .i64 0, .int .i64 1] 3)
  exact (sameI_any A (some ⟨W.heap.size, 0, none⟩) c 3 [2, 0, 1] _ ((h.below hb).more hb.size) (sl_lit [2, 0, 1] rfl rfl) (by decide)).mono fun e w' ⟨h1, m, h2⟩ => ⟨h1, by rw [h2]; exact below_drewP hb _⟩
theorem sameB (A : Option Addr) (c : Nat) (W : World) (h : SlI W W.heap.size A [0, -1, -1]) : Calls Try.prog 27 #[.slice A 3 c, .slice (some ⟨W.heap.size, 0, none⟩) 3 3] (W.alloc (.cells #[.int .i64 0, .int .i64 (-1), .int .i64 (-1)] 3)) fun e w' => e = .returned (.bool true) ∧ Below W.heap.size W w' := by
  have hb := (Below.refl W.heap.size W).alloc (Nat.le_refl _) (.cells #[.int .i64 0, .int .i64 (-1), .int .i64 (-1)] 3)
  exact (sameI_any A (some ⟨W.heap.size, 0, none⟩) c 3 [0, -1, -1] _ ((h.below hb).more hb.size) (sl_lit [0, -1, -1] rfl rfl) (by decide)).mono fun e w' ⟨h1, m, h2⟩ => ⟨h1, by rw [h2]; exact below_drewP hb _⟩
theorem samePL (A : Option Addr) (c : Nat) (W : World) (h : SlPr W W.heap.size A [(0, 1), (0, 2)]) : Calls Try.prog 36 #[.slice A 2 c, .slice (some ⟨W.heap.size, 0, none⟩) 2 2] (W.alloc (.cells #[.int .i64 0, .int .i64 1, .int .i64 0, .int .i64 2] 66)) fun e w' => e = .returned (.bool true) ∧ Below W.heap.size W w' := by
  have hb := (Below.refl W.heap.size W).alloc (Nat.le_refl _) (.cells #[.int .i64 0, .int .i64 1, .int .i64 0, .int .i64 2] 66)
  exact (samePr_any A (some ⟨W.heap.size, 0, none⟩) c 2 [(0, 1), (0, 2)] _ ((h.below hb).more hb.size) (pr_lit [(0, 1), (0, 2)] rfl rfl) (by decide)).mono fun e w' ⟨h1, m, h2⟩ => ⟨h1, by rw [h2]; exact below_drewP hb _⟩
abbrev mvs29 : List Mv := [⟨true, 0⟩, ⟨false, -1⟩, ⟨false, -1⟩, ⟨false, 0⟩]
/-- The example's braid in a box. -/
structure Al (w : World) (pb : Nat) (A F : Option Addr) (c fc : Nat) (W : World) : Prop where
  lo : Below w.heap.size w W
  c0 : W.cell? ⟨pb, 0, none⟩ = some (.slice A 3 c)
  c1 : W.cell? ⟨pb, 1, none⟩ = some (.slice F 2 fc)
  tz : SlI W W.heap.size A [2, 0, 1]
  fr : SlPr W W.heap.size F [(0, 1), (0, 2)]
theorem Al.below {w W W' : World} {pb : Nat} {A F : Option Addr} {c fc : Nat} (h : Al w pb A F c fc W) (hb : Below W.heap.size W W') : Al w pb A F c fc W' :=
  ⟨h.lo.trans (hb.mono h.lo.size), (bcell hb (lt_of_cell h.c0) _).trans h.c0, (bcell hb (lt_of_cell h.c1) _).trans h.c1, (h.tz.below hb).more hb.size, (h.fr.below hb).more hb.size⟩
set_option maxHeartbeats 16000000 in
theorem alive29_any (w : World) : Calls Try.prog 29 #[] w fun e w' => e = .returned (.bool true) ∧ Below w.heap.size w w' := by
  have HCb := Lib.hid (cable_any w)
  have HOf : Hid (∀ W, Calls Try.prog 15 #[.agg #[.int .u8 6, .bool false, .int .i64 1, .int .i64 2]] W fun e w' => brdOut (brd29, 0) W e w') := fun W => by
    have h := hof_any ⟨6, false, 1, 2⟩ (by unfold Stc.wf; decide) W
    rw [al_of] at h
    exact h
  go_enter Try.func29, Try.ntmps29
  go_upto_region 2 with (first
    | (go_at_call 50; refine HCb.out.mono ?_; rintro e w1 ⟨rfl, hb1⟩)
    | (go_at_call 15; refine (HOf.out _).mono ?_; intro e w2 ho; obtain ⟨A, F, c, fc, rfl, hs2, hp2, hb2⟩ := brd_open29 ho; clear ho))
  have hbA := (Below.refl _ w2).alloc (Nat.le_refl _) (.cells #[.slice A 3 c, .slice F 2 fc] 26)
  have HAl : Hid (Al w w2.heap.size A F c fc (w2.alloc (.cells #[.slice A 3 c, .slice F 2 fc] 26))) := ⟨(hb1.trans (hb2.mono hb1.size)).trans (hbA.mono (hb1.trans (hb2.mono hb1.size)).size), cell_new rfl rfl rfl, cell_new rfl rfl rfl, (hs2.below hbA).more hbA.size, (hp2.below hbA).more hbA.size⟩
  refine abs_world (Q := fun W => Code.wp _ _ _ _ W) (F := Al w w2.heap.size A F c fc) _ HAl.out ?_
  obtain ⟨pb, hpb⟩ : ∃ pb, pb = w2.heap.size := ⟨_, rfl⟩
  rw [← hpb]
  clear HAl hs2 hp2 hb1 hb2 hbA HCb HOf hpb
  intro W2 hA2
  obtain ⟨y0, y1⟩ := And.intro hA2.c0 hA2.c1
  have y0' := cell_al y0 (.cells #[.int .i64 1] 3)
  have hbn := (Below.refl _ W2).alloc (Nat.le_refl _) (.cells #[.int .i64 1] 3)
  have HPl : Hid (Calls Try.prog 21 #[.agg #[.slice A 3 c, .slice F 2 fc], .slice (some ⟨W2.heap.size, 0, none⟩) 1 1] (W2.alloc (.cells #[.int .i64 1] 3)) fun e w' => ∃ A' c', e = .returned (.tuple #[.slice A' 3 c', .int .i64 0]) ∧ rowL w' (W2.alloc (.cells #[.int .i64 1] 3)).heap.size A' c' [0, -1, -1] ∧ Below (W2.alloc (.cells #[.int .i64 1] 3)).heap.size (W2.alloc (.cells #[.int .i64 1] 3)) w') := by
    have h := hplan_any A F c fc brd29 (by decide) (some ⟨W2.heap.size, 0, none⟩) 1 [1] (by decide) (W2.alloc (.cells #[.int .i64 1] 3)) (hA2.below hbn).tz (hA2.below hbn).fr (sl_lit [1] rfl rfl)
    rw [al_plan] at h
    exact h
  have HA2 := Lib.hid hA2
  have HBn := Lib.hid hbn
  clear hA2 hbn
  go_upto_region 3 with ((go_at_call 21; refine HPl.out.mono ?_; rintro e w3 ⟨Ap, cp, rfl, hr3, hb3⟩))
  have hb23 := HBn.out.trans (hb3.mono HBn.out.size)
  refine abs_world (Q := fun W => Code.wp _ _ _ _ W) (F := fun W => Al w pb A F c fc W ∧ SlI W W.heap.size Ap [0, -1, -1] ∧ 3 ≤ cp) _ ⟨HA2.out.below hb23, rowL_sl hr3, rowL_cap hr3⟩ ?_
  clear hb23 hr3 hb3 HBn HA2 HPl y0 y1 y0'
  rintro W3 ⟨hA3, hp3, hcp⟩
  obtain ⟨y0, y1⟩ := And.intro hA3.c0 hA3.c1
  have hbn := (Below.refl _ W3).alloc (Nat.le_refl _) (.cells #[.int .i64 1] 3)
  have HWk : Hid (Calls Try.prog 25 #[.agg #[.slice A 3 c, .slice F 2 fc], .slice (some ⟨W3.heap.size, 0, none⟩) 1 1, .slice Ap 3 cp] (W3.alloc (.cells #[.int .i64 1] 3)) fun e w' => ∃ A' c', e = .returned (.tuple #[.slice A' 4 c', .int .i64 0]) ∧ rowM w' (W3.alloc (.cells #[.int .i64 1] 3)).heap.size A' c' mvs29 ∧ Below (W3.alloc (.cells #[.int .i64 1] 3)).heap.size (W3.alloc (.cells #[.int .i64 1] 3)) w') := by
    have h := hwork_any A F c fc brd29 (by decide) (some ⟨W3.heap.size, 0, none⟩) 1 [1] (by decide) Ap cp [0, -1, -1] hcp (by decide) (W3.alloc (.cells #[.int .i64 1] 3)) (hA3.below hbn).tz (hA3.below hbn).fr (sl_lit [1] rfl rfl) ((hp3.below hbn).more hbn.size)
    rw [al_work] at h
    exact h
  have HA3 := Lib.hid hA3
  have HP3 := Lib.hid hp3
  have HBn := Lib.hid hbn
  clear hA3 hp3 hbn
  go_upto_region 4 with ((go_at_call 25; refine HWk.out.mono ?_; rintro e w4 ⟨Am, cm, rfl, hr4, hb4⟩))
  have hb34 := HBn.out.trans (hb4.mono HBn.out.size)
  refine abs_world (Q := fun W => Code.wp _ _ _ _ W) (F := fun W => Al w pb A F c fc W ∧ SlI W W.heap.size Ap [0, -1, -1] ∧ SlMv W W.heap.size Am mvs29) _ ⟨HA3.out.below hb34, (HP3.out.below hb34).more hb34.size, rowM_sl hr4⟩ ?_
  clear hb34 hr4 hb4 HBn HA3 HP3 HWk y0 y1
  rintro W4 ⟨hA4, hp4, hm4⟩
  obtain ⟨y0, y1⟩ := And.intro hA4.c0 hA4.c1
  have hbn := (Below.refl _ W4).alloc (Nat.le_refl _) (.cells #[.int .i64 (-1)] 3)
  have HPl : Hid (Calls Try.prog 21 #[.agg #[.slice A 3 c, .slice F 2 fc], .slice (some ⟨W4.heap.size, 0, none⟩) 1 1] (W4.alloc (.cells #[.int .i64 (-1)] 3)) fun e w' => ∃ A' c', e = .returned (.tuple #[.slice A' 0 c', .int .i64 6]) ∧ rowL w' (W4.alloc (.cells #[.int .i64 (-1)] 3)).heap.size A' c' [] ∧ Below (W4.alloc (.cells #[.int .i64 (-1)] 3)).heap.size (W4.alloc (.cells #[.int .i64 (-1)] 3)) w') := by
    have h := hplan_any A F c fc brd29 (by decide) (some ⟨W4.heap.size, 0, none⟩) 1 [-1] (by decide) (W4.alloc (.cells #[.int .i64 (-1)] 3)) (hA4.below hbn).tz (hA4.below hbn).fr (sl_lit [-1] rfl rfl)
    rw [al_none] at h
    exact h
  have HA4 := Lib.hid hA4
  have HP4 := Lib.hid hp4
  have HM4 := Lib.hid hm4
  have HBn := Lib.hid hbn
  clear hA4 hp4 hm4 hbn
  go_upto_region 5 with ((go_at_call 21; refine HPl.out.mono ?_; rintro e w5 ⟨A5, c5, rfl, hr5, hb5⟩))
  have hb45 := HBn.out.trans (hb5.mono HBn.out.size)
  refine abs_world (Q := fun W => Code.wp _ _ _ _ W) (F := fun W => Al w pb A F c fc W ∧ SlI W W.heap.size Ap [0, -1, -1] ∧ SlMv W W.heap.size Am mvs29) _ ⟨HA4.out.below hb45, (HP4.out.below hb45).more hb45.size, SlS.more (HM4.out.below hb45) hb45.size⟩ ?_
  clear hb45 hr5 hb5 HBn HA4 HP4 HM4 HPl y0 y1
  rintro W5 ⟨hA5, hp5, hm5⟩
  have hbm := (Below.refl _ W5).alloc (Nat.le_refl _) (.cells #[.bool true, .int .i64 0, .bool false, .int .i64 (-1), .bool false, .int .i64 (-1), .bool false, .int .i64 0] 69)
  have HX : Hid (Al w pb A F c fc (W5.alloc (.cells #[.bool true, .int .i64 0, .bool false, .int .i64 (-1), .bool false, .int .i64 (-1), .bool false, .int .i64 0] 69)) ∧ SlI (W5.alloc (.cells #[.bool true, .int .i64 0, .bool false, .int .i64 (-1), .bool false, .int .i64 (-1), .bool false, .int .i64 0] 69)) (W5.alloc (.cells #[.bool true, .int .i64 0, .bool false, .int .i64 (-1), .bool false, .int .i64 (-1), .bool false, .int .i64 0] 69)).heap.size Ap [0, -1, -1] ∧ SlMv (W5.alloc (.cells #[.bool true, .int .i64 0, .bool false, .int .i64 (-1), .bool false, .int .i64 (-1), .bool false, .int .i64 0] 69)) (W5.alloc (.cells #[.bool true, .int .i64 0, .bool false, .int .i64 (-1), .bool false, .int .i64 (-1), .bool false, .int .i64 0] 69)).heap.size Am mvs29 ∧ SlMv (W5.alloc (.cells #[.bool true, .int .i64 0, .bool false, .int .i64 (-1), .bool false, .int .i64 (-1), .bool false, .int .i64 0] 69)) (W5.alloc (.cells #[.bool true, .int .i64 0, .bool false, .int .i64 (-1), .bool false, .int .i64 (-1), .bool false, .int .i64 0] 69)).heap.size (some ⟨W5.heap.size, 0, none⟩) mvs29) := ⟨hA5.below hbm, (hp5.below hbm).more hbm.size, SlS.more (hm5.below hbm) hbm.size, mv_lit mvs29 rfl rfl⟩
  clear hA5 hp5 hm5 hbm
  go_upto_region 6 with fail
  refine abs_world (Q := fun W => Code.wp _ _ _ _ W) (F := fun W => Al w pb A F c fc W ∧ SlI W W.heap.size Ap [0, -1, -1] ∧ SlMv W W.heap.size Am mvs29 ∧ SlMv W W.heap.size (some ⟨W5.heap.size, 0, none⟩) mvs29) _ HX.out ?_
  clear HX
  obtain ⟨mb, hmb⟩ : ∃ mb, mb = W5.heap.size := ⟨_, rfl⟩
  rw [← hmb]
  clear hmb
  rintro W6 ⟨hA6, hp6, hm6, hl6⟩
  obtain ⟨y0, y1⟩ := And.intro hA6.c0 hA6.c1
  have HA6 := Lib.hid hA6
  have HP6 := Lib.hid hp6
  have HM6 := Lib.hid hm6
  have HL6 := Lib.hid hl6
  have HY1 := Lib.hid (fun W (h : Below W6.heap.size W6 W) => (bcell h (lt_of_cell y1) _).trans y1)
  clear hA6 hp6 hm6 hl6
  go_wp2_with (first
    | (go_at_call_of 27 (Value.slice A 3 c); refine (sameA A c _ HA6.out.tz).mono ?_; rintro e w7 ⟨rfl, hb7⟩; have z1 := HY1.out w7 hb7)
    | (go_at_call 36; refine (samePL F fc _ ((HA6.out.fr.below hb7).more hb7.size)).mono ?_; rintro e w8 ⟨rfl, hb8⟩; have hb78 := hb7.trans (hb8.mono hb7.size))
    | (go_at_call_of 27 (Value.slice Ap 3 cp); refine (sameB Ap cp _ ((HP6.out.below hb78).more hb78.size)).mono ?_; rintro e w9 ⟨rfl, hb9⟩; have hb79 := hb78.trans (hb9.mono hb78.size))
    | (go_at_call 28; refine (sameMv_any Am (some ⟨mb, 0, none⟩) cm 4 mvs29 w9 (SlS.more (HM6.out.below hb79) hb79.size) (SlS.more (HL6.out.below hb79) hb79.size) (by decide)).mono ?_; rintro e w10 ⟨rfl, m, rfl⟩))
  go_ret
  exact ⟨rfl, below_drewP (HA6.out.lo.trans (hb79.mono HA6.out.lo.size)) _⟩
end Go.Proofs.Ytodjkifcbgmckaa
