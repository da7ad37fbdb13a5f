/- IntarsiaNames, walked. -/
import Derived.Test.YthedmiilkeclaaaGreatKNf
import Derived.Test.YthedmiilkeclaaaGreatKRg
import Derived.Test.YthedmiilkeclaaaGreatKSs
import Derived.Test.YthedmiilkeclaaaGreatKPs
namespace Go.Proofs.YthedmiilkeclaaaGreat
open Go.RowKit Go.Shelf Go.Sort
open Go.Proofs.YthedmiilkeclaaaGreat.I34
set_option maxRecDepth 1000000

/-- The bad pictures as they lie. -/
def PicAt (W : World) (bb : Nat) : Prop := bb < W.heap.size ∧ ∀ (j : Nat) (p : List (List Int)), badP[j]? = some p → ∃ A c, W.cell? ⟨bb, j, none⟩ = some (.slice A p.length c) ∧ SlRows W W.heap.size A p
theorem PicAt.to {W W' : World} {bb : Nat} (h : PicAt W bb) (hb : Below W.heap.size W W') : PicAt W' bb :=
  ⟨Nat.lt_of_lt_of_le h.1 hb.size, fun j p hj => by
    obtain ⟨A, c, h1, h2⟩ := h.2 j p hj
    exact ⟨A, c, (bcell hb h.1 _).trans h1, (h2.below hb).more hb.size⟩⟩
theorem al_bn (W : World) (o : Obj) : Below W.heap.size W (W.alloc o) := (Below.refl _ _).alloc (Nat.le_refl _) o
theorem rows_one {w : World} {T : TypeId} (A : Option Addr) (n : Nat) (r : List Int) (hn : r.length = n) (h : SlI w w.heap.size A r) : SlRows (w.alloc (.cells #[.slice A n n] T)) (w.alloc (.cells #[.slice A n n] T)).heap.size (some ⟨w.heap.size, 0, none⟩) [r] := by
  refine rows_lit _ _ (by simp) fun j row hj => ?_
  have hj1 : j = 0 := by have := (List.getElem?_eq_some_iff.1 hj).1; simpa using this
  subst hj1
  have e : row = r := by simpa using hj.symm
  subst e
  exact ⟨A, n, by rw [hn]; rfl, by omega, h⟩
theorem zr_sl (w : World) (n : Nat) : SlI (w.alloc (.cells (madeCells #[Value.int .i64 0] n) 3)) (w.alloc (.cells (madeCells #[Value.int .i64 0] n) 3)).heap.size (some ⟨w.heap.size, 0, none⟩) (List.replicate n 0) := by
  refine ints_lit _ _ ?_
  rw [List.map_replicate]
  apply Array.toList_inj.1
  rw [toList_madeCells_one]
abbrev pic1 (w : World) : World := w.alloc (.cells #[] 3)
abbrev pic2 (w : World) : World := (pic1 w).alloc (.cells #[.slice (some ⟨w.heap.size, 0, none⟩) 0 0] 22)
abbrev pic3 (w : World) : World := (pic2 w).alloc (.cells #[.int .i64 0] 3)
abbrev pic4 (w : World) : World := (pic3 w).alloc (.cells #[.slice (some ⟨w.heap.size + 2, 0, none⟩) 1 1] 22)
abbrev pic5 (w : World) : World := (pic4 w).alloc (.cells #[.int .i64 7] 3)
abbrev pic6 (w : World) : World := (pic5 w).alloc (.cells #[.slice (some ⟨w.heap.size + 4, 0, none⟩) 1 1] 22)
abbrev pic7 (w : World) : World := (pic6 w).alloc (.cells #[.int .i64 1, .int .i64 1] 3)
abbrev pic8 (w : World) : World := (pic7 w).alloc (.cells #[.int .i64 1] 3)
abbrev pic9 (w : World) : World := (pic8 w).alloc (.cells #[.slice (some ⟨w.heap.size + 6, 0, none⟩) 2 2, .slice (some ⟨w.heap.size + 7, 0, none⟩) 1 1] 22)
abbrev pic10 (w : World) : World := (pic9 w).alloc (.cells (madeCells #[Value.int .i64 0] 102) 3)
abbrev pic11 (w : World) : World := (pic10 w).alloc (.cells #[.slice (some ⟨w.heap.size + 9, 0, none⟩) 102 102] 22)
abbrev pic12 (w : World) : World := (pic11 w).alloc (.cells #[.slice (some ⟨w.heap.size + 1, 0, none⟩) 1 1, .slice (some ⟨w.heap.size + 3, 0, none⟩) 1 1, .slice (some ⟨w.heap.size + 5, 0, none⟩) 1 1, .slice (some ⟨w.heap.size + 8, 0, none⟩) 2 2, .slice (some ⟨w.heap.size + 10, 0, none⟩) 1 1] 23)
theorem rows_to {W W' : World} {A : Option Addr} {p : List (List Int)} (h : SlRows W W.heap.size A p) (hb : Below W.heap.size W W') : SlRows W' W'.heap.size A p := (h.below hb).more hb.size
theorem ints_to {W W' : World} {A : Option Addr} {l : List Int} (h : SlI W W.heap.size A l) (hb : Below W.heap.size W W') : SlI W' W'.heap.size A l := (h.below hb).more hb.size
theorem pics_at (w : World) : PicAt (pic12 w) (w.heap.size + 11) ∧ Below w.heap.size w (pic12 w) := by
  have z1 : (pic1 w).heap.size = w.heap.size + 1 := by simp
  have z2 : (pic2 w).heap.size = w.heap.size + 2 := by simp
  have z3 : (pic3 w).heap.size = w.heap.size + 3 := by simp
  have z4 : (pic4 w).heap.size = w.heap.size + 4 := by simp
  have z5 : (pic5 w).heap.size = w.heap.size + 5 := by simp
  have z6 : (pic6 w).heap.size = w.heap.size + 6 := by simp
  have z7 : (pic7 w).heap.size = w.heap.size + 7 := by simp
  have z8 : (pic8 w).heap.size = w.heap.size + 8 := by simp
  have z9 : (pic9 w).heap.size = w.heap.size + 9 := by simp
  have z10 : (pic10 w).heap.size = w.heap.size + 10 := by simp
  have z11 : (pic11 w).heap.size = w.heap.size + 11 := by simp
  have z12 : (pic12 w).heap.size = w.heap.size + 12 := by simp
  have i2 : SlI (pic1 w) (pic1 w).heap.size (some ⟨w.heap.size, 0, none⟩) [] := SlI.nil
  have r2 : SlRows (pic2 w) (pic2 w).heap.size (some ⟨w.heap.size + 1, 0, none⟩) [[]] := by
    have h := rows_one (T := 22) _ 0 [] rfl i2
    rw [z1] at h; exact h
  have i3 : SlI (pic3 w) (pic3 w).heap.size (some ⟨w.heap.size + 2, 0, none⟩) [0] := by
    have h := ints_lit (w := pic2 w) (T := 3) #[.int .i64 0] [0] rfl
    rw [z2] at h; exact h
  have r4 : SlRows (pic4 w) (pic4 w).heap.size (some ⟨w.heap.size + 3, 0, none⟩) [[0]] := by
    have h := rows_one (T := 22) _ 1 [0] rfl i3
    rw [z3] at h; exact h
  have i5 : SlI (pic5 w) (pic5 w).heap.size (some ⟨w.heap.size + 4, 0, none⟩) [7] := by
    have h := ints_lit (w := pic4 w) (T := 3) #[.int .i64 7] [7] rfl
    rw [z4] at h; exact h
  have r6 : SlRows (pic6 w) (pic6 w).heap.size (some ⟨w.heap.size + 5, 0, none⟩) [[7]] := by
    have h := rows_one (T := 22) _ 1 [7] rfl i5
    rw [z5] at h; exact h
  have i7 : SlI (pic7 w) (pic7 w).heap.size (some ⟨w.heap.size + 6, 0, none⟩) [1, 1] := by
    have h := ints_lit (w := pic6 w) (T := 3) #[.int .i64 1, .int .i64 1] [1, 1] rfl
    rw [z6] at h; exact h
  have i8 : SlI (pic8 w) (pic8 w).heap.size (some ⟨w.heap.size + 7, 0, none⟩) [1] := by
    have h := ints_lit (w := pic7 w) (T := 3) #[.int .i64 1] [1] rfl
    rw [z7] at h; exact h
  have r9 : SlRows (pic9 w) (pic9 w).heap.size (some ⟨w.heap.size + 8, 0, none⟩) [[1, 1], [1]] := by
    have h := rows_lit (w := pic8 w) (T := 22) #[.slice (some ⟨w.heap.size + 6, 0, none⟩) 2 2, .slice (some ⟨w.heap.size + 7, 0, none⟩) 1 1] [[1, 1], [1]] (by simp) (fun j row hj => by
      have hj2 : j < 2 := by have := (List.getElem?_eq_some_iff.1 hj).1; simpa using this
      rcases (by omega : j = 0 ∨ j = 1) with rfl | rfl
      · have e : row = [1, 1] := by simpa using hj.symm
        subst e
        exact ⟨_, 2, rfl, by decide, ints_to i7 (al_bn _ _)⟩
      · have e : row = [1] := by simpa using hj.symm
        subst e
        exact ⟨_, 1, rfl, by decide, i8⟩)
    rw [z8] at h; exact h
  have i10 : SlI (pic10 w) (pic10 w).heap.size (some ⟨w.heap.size + 9, 0, none⟩) (List.replicate 102 0) := by
    have h := zr_sl (pic9 w) 102
    rw [z9] at h; exact h
  have r11 : SlRows (pic11 w) (pic11 w).heap.size (some ⟨w.heap.size + 10, 0, none⟩) [List.replicate 102 0] := by
    have h := rows_one (T := 22) _ 102 (List.replicate 102 0) (by rw [List.length_replicate]) i10
    rw [z10] at h; exact h
  have b23 := al_bn (pic2 w) (.cells #[.int .i64 0] 3)
  have b34 := al_bn (pic3 w) (.cells #[.slice (some ⟨w.heap.size + 2, 0, none⟩) 1 1] 22)
  have b45 := al_bn (pic4 w) (.cells #[.int .i64 7] 3)
  have b56 := al_bn (pic5 w) (.cells #[.slice (some ⟨w.heap.size + 4, 0, none⟩) 1 1] 22)
  have b67 := al_bn (pic6 w) (.cells #[.int .i64 1, .int .i64 1] 3)
  have b78 := al_bn (pic7 w) (.cells #[.int .i64 1] 3)
  have b89 := al_bn (pic8 w) (.cells #[.slice (some ⟨w.heap.size + 6, 0, none⟩) 2 2, .slice (some ⟨w.heap.size + 7, 0, none⟩) 1 1] 22)
  have b90 := al_bn (pic9 w) (.cells (madeCells #[Value.int .i64 0] 102) 3)
  have b01 := al_bn (pic10 w) (.cells #[.slice (some ⟨w.heap.size + 9, 0, none⟩) 102 102] 22)
  have b12 := al_bn (pic11 w) (.cells #[.slice (some ⟨w.heap.size + 1, 0, none⟩) 1 1, .slice (some ⟨w.heap.size + 3, 0, none⟩) 1 1, .slice (some ⟨w.heap.size + 5, 0, none⟩) 1 1, .slice (some ⟨w.heap.size + 8, 0, none⟩) 2 2, .slice (some ⟨w.heap.size + 10, 0, none⟩) 1 1] 23)
  refine ⟨⟨by rw [z12]; omega, fun j p hj => ?_⟩, ?_⟩
  · have hj5 : j < 5 := by have := (List.getElem?_eq_some_iff.1 hj).1; simpa using this
    rcases (by omega : j = 0 ∨ j = 1 ∨ j = 2 ∨ j = 3 ∨ j = 4) with rfl | rfl | rfl | rfl | rfl
    · have e : p = [[]] := by simpa using hj.symm
      subst e
      exact ⟨some ⟨w.heap.size + 1, 0, none⟩, 1, cell_new rfl z11.symm rfl, rows_to (rows_to (rows_to (rows_to (rows_to (rows_to (rows_to (rows_to (rows_to (rows_to r2 b23) b34) b45) b56) b67) b78) b89) b90) b01) b12⟩
    · have e : p = [[0]] := by simpa using hj.symm
      subst e
      exact ⟨some ⟨w.heap.size + 3, 0, none⟩, 1, cell_new rfl z11.symm rfl, rows_to (rows_to (rows_to (rows_to (rows_to (rows_to (rows_to (rows_to r4 b45) b56) b67) b78) b89) b90) b01) b12⟩
    · have e : p = [[7]] := by simpa using hj.symm
      subst e
      exact ⟨some ⟨w.heap.size + 5, 0, none⟩, 1, cell_new rfl z11.symm rfl, rows_to (rows_to (rows_to (rows_to (rows_to (rows_to r6 b67) b78) b89) b90) b01) b12⟩
    · have e : p = [[1, 1], [1]] := by simpa using hj.symm
      subst e
      exact ⟨some ⟨w.heap.size + 8, 0, none⟩, 2, cell_new rfl z11.symm rfl, rows_to (rows_to (rows_to r9 b90) b01) b12⟩
    · have e : p = [List.replicate 102 0] := by simpa using hj.symm
      subst e
      exact ⟨some ⟨w.heap.size + 10, 0, none⟩, 1, cell_new rfl z11.symm rfl, rows_to r11 b12⟩
  · have q1 : Below w.heap.size w (pic1 w) := (Below.refl _ _).alloc (Nat.le_refl _) _
    have q2 : Below w.heap.size w (pic2 w) := q1.alloc (by rw [z1]; omega) _
    have q3 : Below w.heap.size w (pic3 w) := q2.alloc (by rw [z2]; omega) _
    have q4 : Below w.heap.size w (pic4 w) := q3.alloc (by rw [z3]; omega) _
    have q5 : Below w.heap.size w (pic5 w) := q4.alloc (by rw [z4]; omega) _
    have q6 : Below w.heap.size w (pic6 w) := q5.alloc (by rw [z5]; omega) _
    have q7 : Below w.heap.size w (pic7 w) := q6.alloc (by rw [z6]; omega) _
    have q8 : Below w.heap.size w (pic8 w) := q7.alloc (by rw [z7]; omega) _
    have q9 : Below w.heap.size w (pic9 w) := q8.alloc (by rw [z8]; omega) _
    have q10 : Below w.heap.size w (pic10 w) := q9.alloc (by rw [z9]; omega) _
    have q11 : Below w.heap.size w (pic11 w) := q10.alloc (by rw [z10]; omega) _
    have q12 : Below w.heap.size w (pic12 w) := q11.alloc (by rw [z11]; omega) _
    exact q12
/-- The instruction that knits, in its box. -/
structure KnAt (w W : World) (kb : Nat) : Prop where
  lo : Below w.heap.size w W
  ins : InsIn W kb nkI34
  lt : kb < W.heap.size
theorem KnAt.to {w W W' : World} {kb : Nat} (h : KnAt w W kb) (hb : Below W.heap.size W W') : KnAt w W' kb :=
  ⟨h.lo.trans (hb.mono h.lo.size), h.ins.below hb h.lt, Nat.lt_of_lt_of_le h.lt hb.size⟩
theorem nil_rows (W : World) : SlRows (W.alloc (.cells (madeCells #[Value.slice none 0 0] 101) 22)) (W.alloc (.cells (madeCells #[Value.slice none 0 0] 101) 22)).heap.size (some ⟨W.heap.size, 0, none⟩) (List.replicate 101 []) := by
  refine rows_lit _ _ (by simp) fun j row hj => ?_
  have hj1 : j < 101 := by have := (List.getElem?_eq_some_iff.1 hj).1; simpa using this
  have e : row = [] := List.eq_of_mem_replicate (List.mem_of_getElem? hj)
  subst e
  refine ⟨none, 0, ?_, Nat.le_refl _, SlI.nil⟩
  rw [← Array.getElem?_toList, toList_madeCells_one, List.getElem?_replicate, if_pos hj1]
  rfl
theorem many_check (W : World) : Calls Tryz.prog 6 #[.slice (some ⟨W.heap.size, 0, none⟩) 101 101] (W.alloc (.cells (madeCells #[Value.slice none 0 0] 101) 22)) fun e w' => e = .returned (.int .i64 4) ∧ W.alloc (.cells (madeCells #[Value.slice none 0 0] 101) 22) = w' := by
  have h := check_any (some ⟨W.heap.size, 0, none⟩) 101 (List.replicate 101 []) _ (nil_rows W) (fun row hr => by rw [List.eq_of_mem_replicate hr]; exact Nat.zero_le _)
  rw [many_chk, List.length_replicate] at h
  exact h
theorem mk_rows (W : World) : (Instr.makeSlice 23 (.int .i64 101) (.int .i64 101)).run Tryz.prog W = .ok (.slice (some ⟨W.heap.size, 0, none⟩) 101 101) (W.alloc (.cells (madeCells #[Value.slice none 0 0] 101) 22)) :=
  run_make_row' 23 22 (.slice none 0 0) 24 Tryz.underlying23 info_rowR rfl .i64 .i64 101 (by omega) (by omega) W
theorem mk_102 (W : World) : (Instr.makeSlice 22 (.int .i64 102) (.int .i64 102)).run Tryz.prog W = .ok (.slice (some ⟨W.heap.size, 0, none⟩) 102 102) (W.alloc (.cells (madeCells #[Value.int .i64 0] 102) 3)) := by
  obtain ⟨ii, hii, hii0, hii1, hii2⟩ := info_parts info_intC
  exact run_make_row 22 3 ii (.int .i64 0) Tryz.underlying22 hii hii0 hii1 rfl .i64 .i64 102 (by rw [hii2]; omega) (by omega) W
/-- A value and an error. -/
def VOut (w : World) (x : Int) (e : Ending) (w' : World) : Prop := ∃ v, e = .returned (.tuple #[v, .int .i64 x]) ∧ Below w.heap.size w w'
theorem n_floats (A : Option Addr) (c : Nat) (row colour x : Int) (W : World) (h : SlRows W W.heap.size A ex1) (hx : (flR ex1 row colour).2 = x) : Calls Tryz.prog 7 #[.slice A 1 c, .int .i64 row, .int .i64 colour] W fun e w' => VOut W x e w' :=
  Calls.mono (Floats_any A c ex1 row colour W h ex1_len) fun e w' ⟨v, he, _, hb⟩ => ⟨v, by rw [he, hx], hb⟩
theorem n_bind (A : Option Addr) (c : Nat) (W : World) (h : SlRows W W.heap.size A ex1) : Calls Tryz.prog 9 #[.slice A 1 c, .int .i64 0] W fun e w' => VOut W 2 e w' :=
  Calls.mono (Bindings_any A c ex1 0 W h ex1_len) fun e w' ⟨he, hb⟩ => ⟨.int .i64 (binR ex1 0).1, by rw [he, bin_n], hb⟩
theorem n_plan (A : Option Addr) (c : Nat) (W : World) (h : SlRows W W.heap.size A ex1) : Calls Tryz.prog 5 #[.slice A 1 c, .int .i64 41] W fun e w' => VOut W 2 e w' :=
  Calls.mono (plan_any A c ex1 41 W h ex1_len) fun e w' ⟨a, c', he, _, hb⟩ => ⟨.slice a (planE ex1 41).1.length c', by rw [he, plan_n], hb⟩
theorem n_nil (W : World) : Calls Tryz.prog 5 #[.slice none 0 0, .int .i64 1] W fun e w' => ∃ a c, e = .returned (.tuple #[.slice a 0 c, .int .i64 0]) ∧ Below W.heap.size W w' :=
  Calls.mono (plan_any none 0 [] 1 W (fun h => absurd rfl h) (fun row h => by cases h)) fun e w' ⟨a, c', he, _, hb⟩ => ⟨a, c', by rw [he, plan_nil.1, plan_nil.2], hb⟩
theorem n_show (A : Option Addr) (c n : Nat) (l : List Ins) (wv x : Int) (W : World) (hs : SlX W W.heap.size A l) (hn : l.length = n) (hl : n ≤ 4611686018427387904) (hx : showE l wv = ([], x)) : Calls Tryz.prog 10 #[.slice A n c, .int .i64 wv] W fun e w' => VOut W x e w' := by
  subst hn
  exact Calls.mono (show_any A c l wv W hs hl) fun e w' ⟨a, c', he, _, hb⟩ => ⟨.slice a (showE l wv).1.length c', by rw [he, hx], hb⟩
theorem n_showOk (A : Option Addr) (c : Nat) (W : World) (hs : SlX W W.heap.size A [nkI34, nkB34, ntI34]) : Calls Tryz.prog 10 #[.slice A 3 c, .int .i64 1] W fun e w' => ∃ a c, e = .returned (.tuple #[.slice a 1 c, .int .i64 0]) ∧ SlRows w' w'.heap.size a [[1]] ∧ Below W.heap.size W w' := by
  have h := show_any A c [nkI34, nkB34, ntI34] 1 W hs (by simp)
  rw [sh_ok] at h
  exact h
/-- Knitted so far. -/
def knK (k : Nat) : List Ins := List.replicate k nkI34 ++ List.replicate (101 - k) zeroI
theorem knK_len {k : Nat} (h : k ≤ 101) : (knK k).length = 101 := by unfold knK; rw [List.length_append, List.length_replicate, List.length_replicate]; omega
theorem knK_get {k : Nat} (h : k < 101) : (knK k)[k]? = some zeroI := by
  unfold knK
  rw [List.getElem?_append_right (by rw [List.length_replicate]; exact Nat.le_refl _), List.length_replicate, Nat.sub_self, List.getElem?_replicate, if_pos (by omega)]
theorem knK_next {k : Nat} (h : k < 101) : (knK k).set k nkI34 = knK (k + 1) := by
  unfold knK
  rw [List.set_append_right _ _ (by rw [List.length_replicate]; exact Nat.le_refl _), List.length_replicate, Nat.sub_self, show 101 - k = (101 - (k + 1)) + 1 by omega, List.replicate_succ, List.set_cons_zero, List.replicate_succ', List.append_assoc]
  rfl
theorem knK_all : knK 101 = List.replicate 101 nkI34 := by unfold knK; simp
set_option maxHeartbeats 64000000 in
theorem names_walk (w : World) : Calls Tryz.prog 3 #[] w fun e w' => e = .returned (.bool true) ∧ Below w.heap.size w w' := by
  have HX := Lib.hid (pics_at w)
  have hmk := mk_102
  go_enter Tryz.func3, Tryz.ntmps3
  go_upto_region 2 with fail
  refine abs_world (Q := fun W => Code.wp _ _ _ _ W) (F := fun W => PicAt W (w.heap.size + 11) ∧ Below w.heap.size w W) _ HX.out ?_
  clear HX hmk
  obtain ⟨bb, hbb⟩ : ∃ bb, bb = w.heap.size + 11 := ⟨_, rfl⟩
  rw [← hbb]
  clear hbb
  rintro W1 ⟨hp1, hb1⟩
  have HP1 := Lib.hid hp1
  have HB1 := Lib.hid hb1
  clear hp1 hb1
  go_wp2
  go_loopw [2] (fun s2 wr => ∃ i : Nat, i ≤ 5 ∧ s2 = .int .i64 (i : Int) ∧ Hid (PicAt wr bb) ∧ Hid (Below w.heap.size w wr)) (fun s2 _ => 5 - (intOf s2).toNat)
  case atStart => exact ⟨0, by omega, rfl, HP1.out, HB1.out⟩
  case round =>
    obtain ⟨i, hi, rfl, HP, HB⟩ := hrel
    clear HP1 HB1
    by_cases hlt : i < 5
    case pos =>
      obtain ⟨p, hp⟩ : ∃ p, badP[i]? = some p := ⟨badP[i]'hlt, List.getElem?_eq_getElem hlt⟩
      have hpm : p ∈ badP := List.mem_of_getElem? hp
      obtain ⟨A, c, hcl, hrw⟩ := HP.out.2 i p hp
      have HPl := Lib.hid (plan_e (c := c) hrw (bad_len p hpm) (bad_plan p hpm))
      have HCk : Hid (∀ W, Below wr.heap.size wr W → W.cell? ⟨bb, i, none⟩ = some (.slice A p.length c) ∧ Calls Tryz.prog 6 #[.slice A p.length c] W fun e w' => e = .returned (.int .i64 8) ∧ W = w') := fun W hb => ⟨(bcell hb HP.out.1 _).trans hcl, by
        have h := check_any A c p W ((hrw.below hb).more hb.size) (bad_len p hpm)
        rw [bad_chk p hpm] at h
        exact h⟩
      have HP2 : Hid (∀ W, Below wr.heap.size wr W → PicAt W bb ∧ Below w.heap.size w W) := fun W hb => ⟨HP.out.to hb, HB.out.trans (hb.mono HB.out.size)⟩
      obtain ⟨n, hn⟩ : ∃ n, n = p.length := ⟨_, rfl⟩
      rw [← hn] at HPl HCk hcl
      clear hrw hp hpm HP HB hn
      go_upto_region 6 with ((go_at_call 5; refine HPl.out.mono ?_; rintro e w2 ⟨a2, n2, c2, rfl, hb2⟩))
      have HB2 := Lib.hid hb2
      have hcl2 := (HCk.out w2 hb2).1
      have HC2 := Lib.hid (HCk.out w2 hb2).2
      clear hb2 HPl hcl
      go_wp2_with ((go_at_call 6; refine HC2.out.mono ?_; rintro e w3 ⟨rfl, rfl⟩))
      go_roundw
      case rel => exact ⟨i + 1, by omega, by go_num, (HP2.out w2 HB2.out).1, (HP2.out w2 HB2.out).2⟩
      case measure => simp [intOf]; omega
    case neg =>
      obtain rfl : i = 5 := by omega
      rw [show (((5 : Nat) : Nat) : Int) = 5 from rfl]
      have hX : KnAt w (wr.alloc (.cells #[.int .u8 3, .bool false, .int .u8 0, .int .i64 0, .int .i64 0, .int .i64 1, .int .i64 0] 31)) wr.heap.size := ⟨HB.out.alloc HB.out.size _, InsIn.new wr nkI34, by simp⟩
      have HX := Lib.hid hX
      clear hX HP HB hi hlt
      go_upto_region 9 with fail
      refine abs_world (Q := fun W => Code.wp _ _ _ _ W) (F := fun W => KnAt w W wr.heap.size) _ HX.out ?_
      clear HX
      obtain ⟨kb, hkb⟩ : ∃ kb, kb = wr.heap.size := ⟨_, rfl⟩
      rw [← hkb]
      clear hkb
      rintro W8 hk8
      have HK8 := Lib.hid hk8
      have hmk9 := mk_rows
      clear hk8
      go_upto_region 10 with ((go_at_call 6; refine (many_check _).mono ?_; rintro e w9 ⟨rfl, rfl⟩))
      refine abs_world (Q := fun W => Code.wp _ _ _ _ W) (F := fun W => KnAt w W kb) _ (HK8.out.to (al_bn _ _)) ?_
      clear hmk9 HK8
      intro W10 hk10
      have HK10 := Lib.hid hk10
      clear hk10
      go_wp2_with fail
      refine (ex_any _).mono ?_
      rintro e w10 ⟨g10, h10, rfl, hx10, hb10⟩
      go_wp2_with fail
      refine (n_floats _ 1 1 1 2 w10 hx10.rows fl_n1).mono ?_
      rintro e y10 ⟨v10, rfl, hc10⟩
      have HX : Hid (KnAt w y10 kb) := HK10.out.to (hb10.trans (hc10.mono hb10.size))
      clear hx10 hb10 hc10 HK10
      go_upto_region 11 with fail
      refine abs_world (Q := fun W => Code.wp _ _ _ _ W) (F := fun W => KnAt w W kb) _ HX.out ?_
      clear HX
      intro W11 hk11
      have HK11 := Lib.hid hk11
      clear hk11
      go_wp2_with fail
      refine (ex_any _).mono ?_
      rintro e w11 ⟨g11, h11, rfl, hx11, hb11⟩
      go_wp2_with fail
      refine (n_floats _ 1 0 7 2 w11 hx11.rows fl_n2).mono ?_
      rintro e y11 ⟨v11, rfl, hc11⟩
      have HX : Hid (KnAt w y11 kb) := HK11.out.to (hb11.trans (hc11.mono hb11.size))
      clear hx11 hb11 hc11 HK11
      go_upto_region 12 with fail
      refine abs_world (Q := fun W => Code.wp _ _ _ _ W) (F := fun W => KnAt w W kb) _ HX.out ?_
      clear HX
      intro W12 hk12
      have HK12 := Lib.hid hk12
      clear hk12
      go_wp2_with fail
      refine (ex_any _).mono ?_
      rintro e w12 ⟨g12, h12, rfl, hx12, hb12⟩
      go_wp2_with fail
      refine (n_bind _ 1 w12 hx12.rows).mono ?_
      rintro e y12 ⟨v12, rfl, hc12⟩
      have HX : Hid (KnAt w y12 kb) := HK12.out.to (hb12.trans (hc12.mono hb12.size))
      clear hx12 hb12 hc12 HK12
      go_upto_region 13 with fail
      refine abs_world (Q := fun W => Code.wp _ _ _ _ W) (F := fun W => KnAt w W kb) _ HX.out ?_
      clear HX
      intro W13 hk13
      have HK13 := Lib.hid hk13
      clear hk13
      go_wp2_with fail
      refine (ex_any _).mono ?_
      rintro e w13 ⟨g13, h13, rfl, hx13, hb13⟩
      go_wp2_with fail
      refine (n_plan _ 1 w13 hx13.rows).mono ?_
      rintro e y13 ⟨v13, rfl, hc13⟩
      have HX : Hid (KnAt w y13 kb) := HK13.out.to (hb13.trans (hc13.mono hb13.size))
      clear hx13 hb13 hc13 HK13
      go_upto_region 14 with fail
      refine abs_world (Q := fun W => Code.wp _ _ _ _ W) (F := fun W => KnAt w W kb) _ HX.out ?_
      clear HX
      intro W14 hk14
      have HK14 := Lib.hid hk14
      clear hk14
      go_wp2_with fail
      refine (n_nil _).mono ?_
      rintro e y14 ⟨a14, c14, rfl, hb14⟩
      have HX : Hid (KnAt w y14 kb) := HK14.out.to hb14
      clear hb14 HK14
      go_upto_region 15 with fail
      refine abs_world (Q := fun W => Code.wp _ _ _ _ W) (F := fun W => KnAt w W kb) _ HX.out ?_
      clear HX
      intro W15 hk15
      obtain ⟨x15, hm15, hp15, hb15⟩ := mk_ins W15 2001 (by omega)
      have hmk15 : (Instr.makeSlice 25 (.int .i64 2001) (.int .i64 2001)).run Tryz.prog W15 = .ok (.slice (some ⟨W15.heap.size, 0, none⟩) 2001 2001) x15 := hm15
      have HSh := Lib.hid (n_show (some ⟨W15.heap.size, 0, none⟩) 2001 2001 (List.replicate 2001 zeroI) 1 4 x15 hp15.sl (by rw [List.length_replicate]) (by omega) sh_many)
      have HK15 := Lib.hid (hk15.to hb15)
      clear hk15 hm15 hp15 hb15
      go_wp2_with fail
      refine HSh.out.mono ?_
      rintro e y15 ⟨v15, rfl, hc15⟩
      have HX : Hid (KnAt w y15 kb) := HK15.out.to hc15
      clear hc15 HK15 HSh
      go_upto_region 16 with fail
      refine abs_world (Q := fun W => Code.wp _ _ _ _ W) (F := fun W => KnAt w W kb) _ HX.out ?_
      clear HX hmk15
      intro W16 hk16
      obtain ⟨x16, hm16, hp16, hb16⟩ := mk_ins W16 1 (by omega)
      have hmk16 : (Instr.makeSlice 25 (.int .i64 1) (.int .i64 1)).run Tryz.prog W16 = .ok (.slice (some ⟨W16.heap.size, 0, none⟩) 1 1) x16 := hm16
      have HSh := Lib.hid (n_show (some ⟨W16.heap.size, 0, none⟩) 1 1 (List.replicate 1 zeroI) 1 8 x16 hp16.sl (by rw [List.length_replicate]) (by omega) sh_bad)
      have HK16 := Lib.hid (hk16.to hb16)
      clear hk16 hm16 hp16 hb16
      go_wp2_with fail
      refine HSh.out.mono ?_
      rintro e y16 ⟨v16, rfl, hc16⟩
      have HX : Hid (KnAt w y16 kb) := HK16.out.to hc16
      clear hc16 HK16 HSh
      go_upto_region 17 with fail
      refine abs_world (Q := fun W => Code.wp _ _ _ _ W) (F := fun W => KnAt w W kb) _ HX.out ?_
      clear HX hmk16
      intro W17 hk17
      have HK17 := Lib.hid hk17
      clear hk17
      go_wp2_with fail
      refine (n_show none 0 0 [] 0 2 _ (fun h => absurd rfl h) rfl (by omega) sh_arg).mono ?_
      rintro e y17 ⟨v17, rfl, hb17⟩
      have HX : Hid (KnAt w y17 kb) := HK17.out.to hb17
      clear hb17 HK17
      go_upto_region 18 with fail
      refine abs_world (Q := fun W => Code.wp _ _ _ _ W) (F := fun W => KnAt w W kb) _ HX.out ?_
      clear HX
      intro W18 hk18
      obtain ⟨k0, k1, k2, k3, k4, k5, k6⟩ := hk18.ins
      simp only [] at k0 k1 k2 k3 k4 k5 k6
      have HSh : Hid (Calls Tryz.prog 10 #[.slice (some ⟨W18.heap.size, 0, none⟩) 1 1, .int .i64 2] (W18.alloc (.cells #[.int .u8 3, .bool false, .int .u8 0, .int .i64 0, .int .i64 0, .int .i64 1, .int .i64 0] 31)) fun e w' => VOut (W18.alloc (insBox nkI34)) 26 e w') := n_show (some ⟨W18.heap.size, 0, none⟩) 1 1 [nkI34] 2 26 _ (ins_box34 W18 nkI34) rfl (by omega) sh_count
      have HK18 := Lib.hid (hk18.to (al_bn W18 (insBox nkI34)))
      clear hk18
      go_wp2_with fail
      refine HSh.out.mono ?_
      rintro e y18 ⟨v18, rfl, hb18⟩
      have HX : Hid (KnAt w y18 kb) := HK18.out.to hb18
      clear hb18 HK18 HSh k0 k1 k2 k3 k4 k5 k6
      go_upto_region 19 with fail
      refine abs_world (Q := fun W => Code.wp _ _ _ _ W) (F := fun W => KnAt w W kb) _ HX.out ?_
      clear HX
      intro W19 hk19
      obtain ⟨k0, k1, k2, k3, k4, k5, k6⟩ := hk19.ins
      simp only [] at k0 k1 k2 k3 k4 k5 k6
      have hlit : SlX (W19.alloc (.cells #[.int .u8 3, .bool false, .int .u8 0, .int .i64 0, .int .i64 0, .int .i64 1, .int .i64 0, .int .u8 3, .bool false, .int .u8 1, .int .i64 0, .int .i64 0, .int .i64 2, .int .i64 0, .int .u8 4, .bool false, .int .u8 0, .int .i64 0, .int .i64 0, .int .i64 3, .int .i64 0] 31)) _ (some ⟨W19.heap.size, 0, none⟩) [nkI34, nkB34, ntI34] := lit_ins rfl (by decide)
      have HSh := Lib.hid (n_showOk (some ⟨W19.heap.size, 0, none⟩) 3 _ hlit)
      have HK19 := Lib.hid (hk19.to (al_bn W19 (.cells #[.int .u8 3, .bool false, .int .u8 0, .int .i64 0, .int .i64 0, .int .i64 1, .int .i64 0, .int .u8 3, .bool false, .int .u8 1, .int .i64 0, .int .i64 0, .int .i64 2, .int .i64 0, .int .u8 4, .bool false, .int .u8 0, .int .i64 0, .int .i64 0, .int .i64 3, .int .i64 0] 31)))
      clear hk19 hlit
      go_wp2_with fail
      refine HSh.out.mono ?_
      rintro e y19 ⟨a19, c19, rfl, hr19, hb19⟩
      have HX : Hid (KnAt w y19 kb ∧ SlRows y19 y19.heap.size a19 [[1]]) := ⟨HK19.out.to hb19, hr19⟩
      clear hb19 hr19 HK19 HSh k0 k1 k2 k3 k4 k5 k6
      go_upto_region 20 with fail
      refine abs_world (Q := fun W => Code.wp _ _ _ _ W) (F := fun W => KnAt w W kb ∧ SlRows W W.heap.size a19 [[1]]) _ HX.out ?_
      clear HX
      rintro W20 ⟨hk20, hr20⟩
      obtain ⟨x20, hm20, hp20, hb20⟩ := mk_ins W20 101 (by omega)
      have hmk20 : (Instr.makeSlice 25 (.int .i64 101) (.int .i64 101)).run Tryz.prog W20 = .ok (.slice (some ⟨W20.heap.size, 0, none⟩) 101 101) x20 := hm20
      have HK20 := Lib.hid hk20
      have HR20 := Lib.hid hr20
      have HX : Hid (pxI x20 W20.heap.size W20.heap.size (knK 0) ∧ Below W20.heap.size W20 x20) := ⟨hp20, hb20⟩
      clear hk20 hr20 hm20 hp20 hb20
      go_upto_region 21 with fail
      refine abs_world (Q := fun W => Code.wp _ _ _ _ W) (F := fun W => pxI W W20.heap.size W20.heap.size (knK 0) ∧ Below W20.heap.size W20 W) _ HX.out ?_
      clear HX hmk20
      obtain ⟨lb, hlb⟩ : ∃ lb, lb = W20.heap.size := ⟨_, rfl⟩
      rintro W21 ⟨hp21, hb21⟩
      rw [← hlb] at hp21 hb21 ⊢
      have HP21 := Lib.hid hp21
      have HB21 := Lib.hid hb21
      have HLb := Lib.hid hlb
      have HKl : Hid (kb < lb) := by show kb < lb; rw [hlb]; exact HK20.out.lt
      have HIn : Hid (∀ W, Below lb W20 W → InsIn W kb nkI34) := fun W hb => HK20.out.ins.below hb HKl.out
      clear hp21 hb21 hlb
      go_wp2
      go_loopw [28] (fun s28 wq => ∃ k : Nat, k ≤ 101 ∧ s28 = .int .i64 (k : Int) ∧ Hid (pxI wq lb lb (knK k)) ∧ Hid (Below lb W20 wq)) (fun s28 _ => 101 - (intOf s28).toNat)
      case atStart => exact ⟨0, by omega, rfl, HP21.out, HB21.out⟩
      case round =>
        obtain ⟨k, hk, rfl, HP, HB⟩ := hrel
        clear HP21 HB21
        by_cases hlt : k < 101
        case pos =>
          obtain ⟨k0, k1, k2, k3, k4, k5, k6⟩ := HIn.out wr HB.out
          simp only [] at k0 k1 k2 k3 k4 k5 k6
          obtain ⟨y0, y1, y2, y3, y4, y5, y6⟩ := HP.out.at_ (knK_get hlt)
          have yf := HP.out.fz
          have hpp := HP.out.put (by rw [knK_len hk]; exact hlt) nkI34
          rw [knK_next hlt] at hpp
          have HP5 : Hid (pxI (((((((wr.setCell ⟨lb, k * 7, none⟩ (.int .u8 3)).setCell ⟨lb, k * 7 + 1, none⟩ (.bool false)).setCell ⟨lb, k * 7 + 2, none⟩ (.int .u8 0)).setCell ⟨lb, k * 7 + 3, none⟩ (.int .i64 0)).setCell ⟨lb, k * 7 + 4, none⟩ (.int .i64 0)).setCell ⟨lb, k * 7 + 5, none⟩ (.int .i64 1)).setCell ⟨lb, k * 7 + 6, none⟩ (.int .i64 0)) lb lb (knK (k + 1))) := hpp
          have HBs : Hid (Below lb W20 (((((((wr.setCell ⟨lb, k * 7, none⟩ (.int .u8 3)).setCell ⟨lb, k * 7 + 1, none⟩ (.bool false)).setCell ⟨lb, k * 7 + 2, none⟩ (.int .u8 0)).setCell ⟨lb, k * 7 + 3, none⟩ (.int .i64 0)).setCell ⟨lb, k * 7 + 4, none⟩ (.int .i64 0)).setCell ⟨lb, k * 7 + 5, none⟩ (.int .i64 1)).setCell ⟨lb, k * 7 + 6, none⟩ (.int .i64 0))) := ((((((HB.out.setCell (p := ⟨lb, k * 7, none⟩) (Nat.le_refl _) _).setCell (p := ⟨lb, k * 7 + 1, none⟩) (Nat.le_refl _) _).setCell (p := ⟨lb, k * 7 + 2, none⟩) (Nat.le_refl _) _).setCell (p := ⟨lb, k * 7 + 3, none⟩) (Nat.le_refl _) _).setCell (p := ⟨lb, k * 7 + 4, none⟩) (Nat.le_refl _) _).setCell (p := ⟨lb, k * 7 + 5, none⟩) (Nat.le_refl _) _).setCell (p := ⟨lb, k * 7 + 6, none⟩) (Nat.le_refl _) _
          clear hpp HP HB
          go_wp2
          go_roundw
          case rel => exact ⟨k + 1, by omega, by go_num, HP5.out, HBs.out⟩
          case measure => simp [intOf]; omega
        case neg =>
          obtain rfl : k = 101 := by omega
          rw [show (((101 : Nat) : Nat) : Int) = 101 from rfl]
          obtain ⟨W25, hW25⟩ : ∃ W25 : World, W25 = wr := ⟨_, rfl⟩
          rw [← hW25] at HP HB ⊢
          clear hW25
          have hp := HP.out
          rw [knK_all] at hp
          have HSh := Lib.hid (n_show (some ⟨lb, 0, none⟩) 101 101 (List.replicate 101 nkI34) 1 4 W25 hp.sl (by rw [List.length_replicate]) (by omega) sh_long)
          have HK25 : Hid (KnAt w W25 kb) := HK20.out.to (by rw [← HLb.out]; exact HB.out)
          have HR25 : Hid (SlRows W25 W25.heap.size a19 [[1]]) := rows_to HR20.out (by rw [← HLb.out]; exact HB.out)
          clear hp HP HB HK20 HR20 HLb HIn hk hlt
          go_wp2_with fail
          refine HSh.out.mono ?_
          rintro e y25 ⟨v25, rfl, hb25⟩
          have HX : Hid (KnAt w y25 kb ∧ SlRows y25 y25.heap.size a19 [[1]]) := ⟨HK25.out.to hb25, rows_to HR25.out hb25⟩
          clear hb25 HK25 HR25 HSh
          go_upto_region 26 with fail
          refine abs_world (Q := fun W => Code.wp _ _ _ _ W) (F := fun W => KnAt w W kb ∧ SlRows W W.heap.size a19 [[1]]) _ HX.out ?_
          clear HX
          rintro W26 ⟨hk26, hr26⟩
          have HK26 := Lib.hid hk26
          have HR26 := Lib.hid hr26
          clear hk26 hr26
          go_wp2_with fail
          refine (alive34_any _).mono ?_
          rintro e y26 ⟨rfl, hb26⟩
          have HX : Hid (KnAt w y26 kb ∧ SlRows y26 y26.heap.size a19 [[1]]) := ⟨HK26.out.to hb26, rows_to HR26.out hb26⟩
          clear hb26 HK26 HR26
          go_upto_region 27 with fail
          refine abs_world (Q := fun W => Code.wp _ _ _ _ W) (F := fun W => KnAt w W kb ∧ SlRows W W.heap.size a19 [[1]]) _ HX.out ?_
          clear HX
          rintro W27 ⟨hk27, hr27⟩
          have hl1 := al_bn W27 (.cells #[.int .i64 1] 3)
          have hs1 : SlI (W27.alloc (.cells #[.int .i64 1] 3)) (W27.alloc (.cells #[.int .i64 1] 3)).heap.size (some ⟨W27.heap.size, 0, none⟩) [1] := ints_lit _ [1] rfl
          have hs2 := rows_one (T := 22) _ 1 [1] rfl hs1
          have hl2 := al_bn (W27.alloc (.cells #[.int .i64 1] 3)) (.cells #[.slice (some ⟨W27.heap.size, 0, none⟩) 1 1] 22)
          have hbb := hl1.trans (hl2.mono hl1.size)
          have hsm := same34_any a19 (some ⟨(W27.alloc (.cells #[.int .i64 1] 3)).heap.size, 0, none⟩) c19 1 [[1]] _ (rows_to hr27 hbb) hs2 (by simp) (by simp)
          rw [World.size_alloc] at hsm
          have HSm : Hid (Calls Tryz.prog 12 #[.slice a19 1 c19, .slice (some ⟨W27.heap.size + 1, 0, none⟩) 1 1] ((W27.alloc (.cells #[.int .i64 1] 3)).alloc (.cells #[.slice (some ⟨W27.heap.size, 0, none⟩) 1 1] 22)) fun e w' => e = .returned (.bool true) ∧ Below ((W27.alloc (.cells #[.int .i64 1] 3)).alloc (.cells #[.slice (some ⟨W27.heap.size, 0, none⟩) 1 1] 22)).heap.size ((W27.alloc (.cells #[.int .i64 1] 3)).alloc (.cells #[.slice (some ⟨W27.heap.size, 0, none⟩) 1 1] 22)) w') := hsm
          have HL : Hid (Below w.heap.size w ((W27.alloc (.cells #[.int .i64 1] 3)).alloc (.cells #[.slice (some ⟨W27.heap.size, 0, none⟩) 1 1] 22))) := hk27.lo.trans (hbb.mono hk27.lo.size)
          clear hk27 hr27 hl1 hs1 hs2 hl2 hbb hsm
          go_wp2_with (first
            | (go_at_call 12; refine HSm.out.mono ?_; rintro e w28 ⟨rfl, hb28⟩)
            | (go_at_call 13; refine (full_any _).mono ?_; rintro e w29 ⟨rfl, hb29⟩))
          go_ret
          exact ⟨rfl, (HL.out.trans (hb28.mono HL.out.size)).trans (hb29.mono (HL.out.trans (hb28.mono HL.out.size)).size)⟩
end Go.Proofs.YthedmiilkeclaaaGreat
