/- TransferNames, plain. TransferNames: shifts and cells of literals in memory. TransferNames, walked: the bad shifts (regions 0 .. 6). TransferNames: the bad shifts, as region 1 lays them. TransferNames: rows that the law makes. -/
import Derived.Test.YtflpikickbellaaKOf0
import Derived.Test.YtflpikickbellaaKG11
import Derived.Test.YtflpikickbellaaKAl
import Derived.Test.YtflpikickbellaaKPlans32
namespace Go.Proofs.Ytflpikickbellaa
open Go.RowKit Go.Sort
set_option maxRecDepth 100000

abbrev nmS (t : List Int) (f : List (Int × Int)) : Sft := ⟨t, f⟩
theorem nm_b0 : sftE (nmS [-1] []) = 8 := by kernel_rfl
theorem nm_b1 : sftE (nmS [9] []) = 8 := by kernel_rfl
theorem nm_b2 : sftE (nmS [0] [(0, 0)]) = 8 := by kernel_rfl
theorem nm_b3 : sftE (nmS [0, 1] [(0, 2)]) = 8 := by kernel_rfl
theorem nm_b4 : sftE (nmS [0, 1] [(1, 0), (0, 1)]) = 8 := by kernel_rfl
theorem nm_b5 : sftE (nmS [0, 1] [(0, 1), (0, 1)]) = 8 := by kernel_rfl
theorem nm_a : sftE (nmS (List.replicate 41 0) []) = 4 := by kernel_rfl
theorem nm_b : sftE (nmS [8] []) = 0 := by kernel_rfl
theorem nm_c : ordE (nmS [1, 0] [(0, 1), (1, 0)]) = ([], 6) := by kernel_rfl
theorem nm_d : ordE (nmS [1, 0, 3, 2] [(0, 1), (3, 2)]) = ([], 6) := by kernel_rfl
theorem nm_e : ordE (nmS [0, 1] [(0, 1), (1, 0)]) = ([], 6) := by kernel_rfl
theorem nm_f : plE (nmS [0, 0, 0, 0, 0, 0, 0] []) = ([], 4) := by kernel_rfl
theorem nm_g : hldE (nmS [0, 0, 0, 0, 0, 0, 0] []) = ([], 4) := by kernel_rfl
theorem nm_n : hldE (nmS [1, 1, 1] [(2, 1)]) = ([(1, [2, 1, 0])], 0) := by kernel_rfl
theorem nm_o : ordE (nmS [2, 0, 1] [(0, 1), (0, 2)]) = ([0, 1, 2], 0) := by kernel_rfl
theorem nm_p : plE (nmS [0, 1] []) = ([], 0) := by kernel_rfl
theorem nm_h : ofE [⟨5, false, 2, 0⟩] = (⟨[], []⟩, 2) := by kernel_rfl
theorem nm_i : ofE [⟨9, false, 1, 0⟩] = (⟨[], []⟩, 2) := by kernel_rfl
theorem nm_j : ofE [⟨3, false, 0, 0⟩] = (⟨[], []⟩, 8) := by kernel_rfl
theorem nm_k : ofE (List.replicate 41 ⟨1, false, 0, 0⟩) = (⟨[], []⟩, 4) := by kernel_rfl
theorem nm_l : ofE (List.replicate 9 ⟨2, false, 0, 0⟩ ++ [⟨1, false, 0, 0⟩]) = (⟨[], []⟩, 16) := by kernel_rfl
theorem nm_x1 : allE (List.replicate 8 ⟨2, false, 0, 0⟩ ++ [⟨1, false, 0, 0⟩]) = 0 := by kernel_rfl
theorem nm_x : ofE (List.replicate 8 ⟨2, false, 0, 0⟩ ++ [⟨1, false, 0, 0⟩]) = (⟨[8], []⟩, 0) := by kernel_rfl
end Go.Proofs.Ytflpikickbellaa
namespace Go.Proofs.Ytflpikickbellaa
open Go.RowKit Go.Shelf Go.Sort
set_option maxRecDepth 100000

theorem alloc_two (W : World) (o1 o2 : Obj) : ((W.alloc o1).alloc o2).heap.size = W.heap.size + 2 := by simp
/-- A shift of two literals. -/
theorem lit_shift (W : World) (t : List Int) (f : List (Int × Int)) (ty ty' : TypeId) : SfAt (some ⟨W.heap.size, 0, none⟩) (some ⟨W.heap.size + 1, 0, none⟩) ⟨t, f⟩ ((W.alloc (.cells (intV t).toArray ty)).alloc (.cells ((f.map prC).flatten).toArray ty')) := by
  have hb := al_t (W.alloc (.cells (intV t).toArray ty)) (.cells ((f.map prC).flatten).toArray ty')
  have h1 : SlI (W.alloc (.cells (intV t).toArray ty)) (W.alloc (.cells (intV t).toArray ty)).heap.size (some ⟨W.heap.size, 0, none⟩) t := sl_lit t rfl rfl
  have h2 : SlPr ((W.alloc (.cells (intV t).toArray ty)).alloc (.cells ((f.map prC).flatten).toArray ty')) ((W.alloc (.cells (intV t).toArray ty)).alloc (.cells ((f.map prC).flatten).toArray ty')).heap.size (some ⟨(W.alloc (.cells (intV t).toArray ty)).heap.size, 0, none⟩) f := sls_lit _ (fun z hz => by obtain ⟨p, -, rfl⟩ := List.mem_map.1 hz; rfl) rfl rfl
  have e : (W.alloc (.cells (intV t).toArray ty)).heap.size = W.heap.size + 1 := by simp
  rw [e] at h2
  exact ⟨(h1.below hb).more hb.size, h2⟩
/-- A shift of one literal, without pairs. -/
theorem lit_shift0 (W : World) (t : List Int) (ty : TypeId) : SfAt (some ⟨W.heap.size, 0, none⟩) none ⟨t, []⟩ (W.alloc (.cells (intV t).toArray ty)) :=
  ⟨sl_lit t rfl rfl, SlPr.nil⟩
theorem lit_cells (W : World) (l : List Stc) (ty : TypeId) : SlT (W.alloc (.cells ((l.map Stc.cells).flatten).toArray ty)) (W.alloc (.cells ((l.map Stc.cells).flatten).toArray ty)).heap.size (some ⟨W.heap.size, 0, none⟩) l :=
  sls_lit _ (fun z hz => by obtain ⟨p, -, rfl⟩ := List.mem_map.1 hz; rfl) rfl rfl
end Go.Proofs.Ytflpikickbellaa
namespace Go.Proofs.Ytflpikickbellaa
open Go.RowKit Go.Shelf Go.Sort
set_option maxRecDepth 100000

/-- The bad shifts as they lie: six boxes of two slices. -/
structure BadA (w : World) (bb : Nat) (W : World) : Prop where
  lo : Below w.heap.size w W
  row : ∀ k, k < 6 → ∃ A c F fc s, W.cell? ⟨bb, k * 2, none⟩ = some (.slice A s.to_.length c) ∧ W.cell? ⟨bb, k * 2 + 1, none⟩ = some (.slice F s.first.length fc) ∧ SfAt A F s W ∧ sftE s = 8 ∧ s.to_.length ≤ 2 ∧ s.first.length ≤ 2
theorem BadA.to {w W W' : World} {bb : Nat} (h : BadA w bb W) (hb : Below W.heap.size W W') : BadA w bb W' := ⟨h.lo.trans (hb.mono h.lo.size), fun k hk => by
  obtain ⟨A, c, F, fc, s, h1, h2, h3, h4⟩ := h.row k hk
  exact ⟨A, c, F, fc, s, (bcell hb (lt_of_cell h1) _).trans h1, (bcell hb (lt_of_cell h2) _).trans h2, h3.to hb, h4⟩⟩
theorem bad_len (t : List Int) (f : List (Int × Int)) (h : sftE ⟨t, f⟩ = 8) (h1 : t.length ≤ 2) (h2 : f.length ≤ 2) {W W' : World} {bb k : Nat} {A F : Option Addr} {c fc : Nat} (c0 : W'.cell? ⟨bb, k * 2, none⟩ = some (.slice A t.length c)) (c1 : W'.cell? ⟨bb, k * 2 + 1, none⟩ = some (.slice F f.length fc)) (ha : SfAt A F ⟨t, f⟩ W) (hb : Below W.heap.size W W') :
    ∃ A c F fc s, W'.cell? ⟨bb, k * 2, none⟩ = some (.slice A s.to_.length c) ∧ W'.cell? ⟨bb, k * 2 + 1, none⟩ = some (.slice F s.first.length fc) ∧ SfAt A F s W' ∧ sftE s = 8 ∧ s.to_.length ≤ 2 ∧ s.first.length ≤ 2 :=
  ⟨A, c, F, fc, ⟨t, f⟩, c0, c1, ha.to hb, h, h1, h2⟩
end Go.Proofs.Ytflpikickbellaa
namespace Go.Proofs.Ytflpikickbellaa
open Go.RowKit Go.Shelf Go.Sort
set_option maxRecDepth 100000

abbrev bdO0 : Obj := Obj.cells #[.int .i64 (-1)] 3
abbrev bdO1 : Obj := Obj.cells #[.int .i64 9] 3
abbrev bdO2 : Obj := Obj.cells #[.int .i64 0] 3
abbrev bdO3 : Obj := Obj.cells #[.int .i64 0, .int .i64 0] 63
abbrev bdO4 : Obj := Obj.cells #[.int .i64 0, .int .i64 1] 3
abbrev bdO5 : Obj := Obj.cells #[.int .i64 0, .int .i64 2] 63
abbrev bdO6 : Obj := Obj.cells #[.int .i64 0, .int .i64 1] 3
abbrev bdO7 : Obj := Obj.cells #[.int .i64 1, .int .i64 0, .int .i64 0, .int .i64 1] 63
abbrev bdO8 : Obj := Obj.cells #[.int .i64 0, .int .i64 1] 3
abbrev bdO9 : Obj := Obj.cells #[.int .i64 0, .int .i64 1, .int .i64 0, .int .i64 1] 63
abbrev bdO10 (w : World) : Obj := Obj.cells #[.slice (some ⟨w.heap.size, 0, none⟩) 1 1, .slice none 0 0, .slice (some ⟨w.heap.size + 1, 0, none⟩) 1 1, .slice none 0 0, .slice (some ⟨w.heap.size + 1 + 1, 0, none⟩) 1 1, .slice (some ⟨w.heap.size + 1 + 1 + 1, 0, none⟩) 1 1, .slice (some ⟨w.heap.size + 1 + 1 + 1 + 1, 0, none⟩) 2 2, .slice (some ⟨w.heap.size + 1 + 1 + 1 + 1 + 1, 0, none⟩) 1 1, .slice (some ⟨w.heap.size + 1 + 1 + 1 + 1 + 1 + 1, 0, none⟩) 2 2, .slice (some ⟨w.heap.size + 1 + 1 + 1 + 1 + 1 + 1 + 1, 0, none⟩) 2 2, .slice (some ⟨w.heap.size + 1 + 1 + 1 + 1 + 1 + 1 + 1 + 1, 0, none⟩) 2 2, .slice (some ⟨w.heap.size + 1 + 1 + 1 + 1 + 1 + 1 + 1 + 1 + 1, 0, none⟩) 2 2] 25
abbrev bdW0 (w : World) : World := w
abbrev bdW1 (w : World) : World := (bdW0 w).alloc bdO0
abbrev bdW2 (w : World) : World := (bdW1 w).alloc bdO1
abbrev bdW3 (w : World) : World := (bdW2 w).alloc bdO2
abbrev bdW4 (w : World) : World := (bdW3 w).alloc bdO3
abbrev bdW5 (w : World) : World := (bdW4 w).alloc bdO4
abbrev bdW6 (w : World) : World := (bdW5 w).alloc bdO5
abbrev bdW7 (w : World) : World := (bdW6 w).alloc bdO6
abbrev bdW8 (w : World) : World := (bdW7 w).alloc bdO7
abbrev bdW9 (w : World) : World := (bdW8 w).alloc bdO8
abbrev bdW10 (w : World) : World := (bdW9 w).alloc bdO9
abbrev bdW11 (w : World) : World := (bdW10 w).alloc (bdO10 w)
theorem bd_below (w : World) : Below w.heap.size w (bdW11 w) := by
  have h0 := Below.refl w.heap.size w
  have h1 := h0.trans ((al_t (bdW0 w) bdO0).mono h0.size)
  have h2 := h1.trans ((al_t (bdW1 w) bdO1).mono h1.size)
  have h3 := h2.trans ((al_t (bdW2 w) bdO2).mono h2.size)
  have h4 := h3.trans ((al_t (bdW3 w) bdO3).mono h3.size)
  have h5 := h4.trans ((al_t (bdW4 w) bdO4).mono h4.size)
  have h6 := h5.trans ((al_t (bdW5 w) bdO5).mono h5.size)
  have h7 := h6.trans ((al_t (bdW6 w) bdO6).mono h6.size)
  have h8 := h7.trans ((al_t (bdW7 w) bdO7).mono h7.size)
  have h9 := h8.trans ((al_t (bdW8 w) bdO8).mono h8.size)
  have h10 := h9.trans ((al_t (bdW9 w) bdO9).mono h9.size)
  have h11 := h10.trans ((al_t (bdW10 w) (bdO10 w)).mono h10.size)
  exact h11
theorem bd_from1 (w : World) : Below (bdW1 w).heap.size (bdW1 w) (bdW11 w) := by
  have h1 := Below.refl (bdW1 w).heap.size (bdW1 w)
  have h2 := h1.trans ((al_t (bdW1 w) bdO1).mono h1.size)
  have h3 := h2.trans ((al_t (bdW2 w) bdO2).mono h2.size)
  have h4 := h3.trans ((al_t (bdW3 w) bdO3).mono h3.size)
  have h5 := h4.trans ((al_t (bdW4 w) bdO4).mono h4.size)
  have h6 := h5.trans ((al_t (bdW5 w) bdO5).mono h5.size)
  have h7 := h6.trans ((al_t (bdW6 w) bdO6).mono h6.size)
  have h8 := h7.trans ((al_t (bdW7 w) bdO7).mono h7.size)
  have h9 := h8.trans ((al_t (bdW8 w) bdO8).mono h8.size)
  have h10 := h9.trans ((al_t (bdW9 w) bdO9).mono h9.size)
  have h11 := h10.trans ((al_t (bdW10 w) (bdO10 w)).mono h10.size)
  exact h11
theorem bd_from2 (w : World) : Below (bdW2 w).heap.size (bdW2 w) (bdW11 w) := by
  have h2 := Below.refl (bdW2 w).heap.size (bdW2 w)
  have h3 := h2.trans ((al_t (bdW2 w) bdO2).mono h2.size)
  have h4 := h3.trans ((al_t (bdW3 w) bdO3).mono h3.size)
  have h5 := h4.trans ((al_t (bdW4 w) bdO4).mono h4.size)
  have h6 := h5.trans ((al_t (bdW5 w) bdO5).mono h5.size)
  have h7 := h6.trans ((al_t (bdW6 w) bdO6).mono h6.size)
  have h8 := h7.trans ((al_t (bdW7 w) bdO7).mono h7.size)
  have h9 := h8.trans ((al_t (bdW8 w) bdO8).mono h8.size)
  have h10 := h9.trans ((al_t (bdW9 w) bdO9).mono h9.size)
  have h11 := h10.trans ((al_t (bdW10 w) (bdO10 w)).mono h10.size)
  exact h11
theorem bd_from3 (w : World) : Below (bdW3 w).heap.size (bdW3 w) (bdW11 w) := by
  have h3 := Below.refl (bdW3 w).heap.size (bdW3 w)
  have h4 := h3.trans ((al_t (bdW3 w) bdO3).mono h3.size)
  have h5 := h4.trans ((al_t (bdW4 w) bdO4).mono h4.size)
  have h6 := h5.trans ((al_t (bdW5 w) bdO5).mono h5.size)
  have h7 := h6.trans ((al_t (bdW6 w) bdO6).mono h6.size)
  have h8 := h7.trans ((al_t (bdW7 w) bdO7).mono h7.size)
  have h9 := h8.trans ((al_t (bdW8 w) bdO8).mono h8.size)
  have h10 := h9.trans ((al_t (bdW9 w) bdO9).mono h9.size)
  have h11 := h10.trans ((al_t (bdW10 w) (bdO10 w)).mono h10.size)
  exact h11
theorem bd_from4 (w : World) : Below (bdW4 w).heap.size (bdW4 w) (bdW11 w) := by
  have h4 := Below.refl (bdW4 w).heap.size (bdW4 w)
  have h5 := h4.trans ((al_t (bdW4 w) bdO4).mono h4.size)
  have h6 := h5.trans ((al_t (bdW5 w) bdO5).mono h5.size)
  have h7 := h6.trans ((al_t (bdW6 w) bdO6).mono h6.size)
  have h8 := h7.trans ((al_t (bdW7 w) bdO7).mono h7.size)
  have h9 := h8.trans ((al_t (bdW8 w) bdO8).mono h8.size)
  have h10 := h9.trans ((al_t (bdW9 w) bdO9).mono h9.size)
  have h11 := h10.trans ((al_t (bdW10 w) (bdO10 w)).mono h10.size)
  exact h11
theorem bd_from5 (w : World) : Below (bdW5 w).heap.size (bdW5 w) (bdW11 w) := by
  have h5 := Below.refl (bdW5 w).heap.size (bdW5 w)
  have h6 := h5.trans ((al_t (bdW5 w) bdO5).mono h5.size)
  have h7 := h6.trans ((al_t (bdW6 w) bdO6).mono h6.size)
  have h8 := h7.trans ((al_t (bdW7 w) bdO7).mono h7.size)
  have h9 := h8.trans ((al_t (bdW8 w) bdO8).mono h8.size)
  have h10 := h9.trans ((al_t (bdW9 w) bdO9).mono h9.size)
  have h11 := h10.trans ((al_t (bdW10 w) (bdO10 w)).mono h10.size)
  exact h11
theorem bd_from6 (w : World) : Below (bdW6 w).heap.size (bdW6 w) (bdW11 w) := by
  have h6 := Below.refl (bdW6 w).heap.size (bdW6 w)
  have h7 := h6.trans ((al_t (bdW6 w) bdO6).mono h6.size)
  have h8 := h7.trans ((al_t (bdW7 w) bdO7).mono h7.size)
  have h9 := h8.trans ((al_t (bdW8 w) bdO8).mono h8.size)
  have h10 := h9.trans ((al_t (bdW9 w) bdO9).mono h9.size)
  have h11 := h10.trans ((al_t (bdW10 w) (bdO10 w)).mono h10.size)
  exact h11
theorem bd_from7 (w : World) : Below (bdW7 w).heap.size (bdW7 w) (bdW11 w) := by
  have h7 := Below.refl (bdW7 w).heap.size (bdW7 w)
  have h8 := h7.trans ((al_t (bdW7 w) bdO7).mono h7.size)
  have h9 := h8.trans ((al_t (bdW8 w) bdO8).mono h8.size)
  have h10 := h9.trans ((al_t (bdW9 w) bdO9).mono h9.size)
  have h11 := h10.trans ((al_t (bdW10 w) (bdO10 w)).mono h10.size)
  exact h11
theorem bd_from8 (w : World) : Below (bdW8 w).heap.size (bdW8 w) (bdW11 w) := by
  have h8 := Below.refl (bdW8 w).heap.size (bdW8 w)
  have h9 := h8.trans ((al_t (bdW8 w) bdO8).mono h8.size)
  have h10 := h9.trans ((al_t (bdW9 w) bdO9).mono h9.size)
  have h11 := h10.trans ((al_t (bdW10 w) (bdO10 w)).mono h10.size)
  exact h11
theorem bd_from9 (w : World) : Below (bdW9 w).heap.size (bdW9 w) (bdW11 w) := by
  have h9 := Below.refl (bdW9 w).heap.size (bdW9 w)
  have h10 := h9.trans ((al_t (bdW9 w) bdO9).mono h9.size)
  have h11 := h10.trans ((al_t (bdW10 w) (bdO10 w)).mono h10.size)
  exact h11
theorem bd_from10 (w : World) : Below (bdW10 w).heap.size (bdW10 w) (bdW11 w) := by
  have h10 := Below.refl (bdW10 w).heap.size (bdW10 w)
  have h11 := h10.trans ((al_t (bdW10 w) (bdO10 w)).mono h10.size)
  exact h11
theorem bd_size0 (w : World) : (bdW0 w).heap.size = w.heap.size := by simp [bdW0]
theorem bd_size1 (w : World) : (bdW1 w).heap.size = w.heap.size + 1 := by simp [bdW0, bdW1]
theorem bd_size2 (w : World) : (bdW2 w).heap.size = w.heap.size + 1 + 1 := by simp [bdW0, bdW1, bdW2]
theorem bd_size3 (w : World) : (bdW3 w).heap.size = w.heap.size + 1 + 1 + 1 := by simp [bdW0, bdW1, bdW2, bdW3]
theorem bd_size4 (w : World) : (bdW4 w).heap.size = w.heap.size + 1 + 1 + 1 + 1 := by simp [bdW0, bdW1, bdW2, bdW3, bdW4]
theorem bd_size5 (w : World) : (bdW5 w).heap.size = w.heap.size + 1 + 1 + 1 + 1 + 1 := by simp [bdW0, bdW1, bdW2, bdW3, bdW4, bdW5]
theorem bd_size6 (w : World) : (bdW6 w).heap.size = w.heap.size + 1 + 1 + 1 + 1 + 1 + 1 := by simp [bdW0, bdW1, bdW2, bdW3, bdW4, bdW5, bdW6]
theorem bd_size7 (w : World) : (bdW7 w).heap.size = w.heap.size + 1 + 1 + 1 + 1 + 1 + 1 + 1 := by simp [bdW0, bdW1, bdW2, bdW3, bdW4, bdW5, bdW6, bdW7]
theorem bd_size8 (w : World) : (bdW8 w).heap.size = w.heap.size + 1 + 1 + 1 + 1 + 1 + 1 + 1 + 1 := by simp [bdW0, bdW1, bdW2, bdW3, bdW4, bdW5, bdW6, bdW7, bdW8]
theorem bd_size9 (w : World) : (bdW9 w).heap.size = w.heap.size + 1 + 1 + 1 + 1 + 1 + 1 + 1 + 1 + 1 := by simp [bdW0, bdW1, bdW2, bdW3, bdW4, bdW5, bdW6, bdW7, bdW8, bdW9]
theorem bd_size10 (w : World) : (bdW10 w).heap.size = w.heap.size + 1 + 1 + 1 + 1 + 1 + 1 + 1 + 1 + 1 + 1 := by simp [bdW0, bdW1, bdW2, bdW3, bdW4, bdW5, bdW6, bdW7, bdW8, bdW9, bdW10]
theorem bad_new (w : World) : BadA w (w.heap.size + 1 + 1 + 1 + 1 + 1 + 1 + 1 + 1 + 1 + 1) (bdW11 w) := by
  refine ⟨bd_below w, fun k hk => ?_⟩
  have hz := bd_size10 w
  match k, hk with
  | 0, _ =>
    have ha := lit_shift0 (bdW0 w) [-1] 3
    rw [bd_size0] at ha
    exact bad_len [-1] [] nm_b0 (by decide) (by decide) (cell_new rfl hz.symm rfl) (cell_new rfl hz.symm rfl) ha (bd_from1 w)
  | 1, _ =>
    have ha := lit_shift0 (bdW1 w) [9] 3
    rw [bd_size1] at ha
    exact bad_len [9] [] nm_b1 (by decide) (by decide) (cell_new rfl hz.symm rfl) (cell_new rfl hz.symm rfl) ha (bd_from2 w)
  | 2, _ =>
    have ha := lit_shift (bdW2 w) [0] [(0, 0)] 3 63
    rw [bd_size2] at ha
    exact bad_len [0] [(0, 0)] nm_b2 (by decide) (by decide) (cell_new rfl hz.symm rfl) (cell_new rfl hz.symm rfl) ha (bd_from4 w)
  | 3, _ =>
    have ha := lit_shift (bdW4 w) [0, 1] [(0, 2)] 3 63
    rw [bd_size4] at ha
    exact bad_len [0, 1] [(0, 2)] nm_b3 (by decide) (by decide) (cell_new rfl hz.symm rfl) (cell_new rfl hz.symm rfl) ha (bd_from6 w)
  | 4, _ =>
    have ha := lit_shift (bdW6 w) [0, 1] [(1, 0), (0, 1)] 3 63
    rw [bd_size6] at ha
    exact bad_len [0, 1] [(1, 0), (0, 1)] nm_b4 (by decide) (by decide) (cell_new rfl hz.symm rfl) (cell_new rfl hz.symm rfl) ha (bd_from8 w)
  | 5, _ =>
    have ha := lit_shift (bdW8 w) [0, 1] [(0, 1), (0, 1)] 3 63
    rw [bd_size8] at ha
    exact bad_len [0, 1] [(0, 1), (0, 1)] nm_b5 (by decide) (by decide) (cell_new rfl hz.symm rfl) (cell_new rfl hz.symm rfl) ha (bd_from10 w)
end Go.Proofs.Ytflpikickbellaa
namespace Go.Proofs.Ytflpikickbellaa
open Go.RowKit Go.Shelf Go.Sort
set_option maxRecDepth 100000

theorem mk_shift0 (w : World) (n : Nat) (hn : n ≤ 1000000) : ∃ w', (Instr.makeSlice 22 (.int .i64 (n : Int)) (.int .i64 (n : Int))).run Try.prog w = .ok (.slice (some ⟨w.heap.size, 0, none⟩) n n) w' ∧ SfAt (some ⟨w.heap.size, 0, none⟩) none ⟨List.replicate n 0, []⟩ w' ∧ Below w.heap.size w w' := by
  obtain ⟨i1, hi', hz0', hz1', hz2'⟩ := info_parts info_int'
  obtain ⟨w3, hmr, hob, hgb⟩ := run_make_full (P := Try.prog) w w.heap.size 22 3 i1 (.int .i64 0) 1 Try.underlying22 hi' hz0' hz1' .i64 .i64 n (by rw [hz2']; omega) (by unfold maxLen; omega) (Nat.le_refl _)
  have hb := (Below.refl w.heap.size w).grown hgb (Nat.le_refl _) (fun k e => by cases e)
  refine ⟨w3, hmr, ⟨?_, SlPr.nil⟩, hb⟩
  have e : (madeCells (Value.int .i64 0).cells (n * 1)).toList = (List.replicate n (0 : Int)).map (Value.int .i64) := by
    rw [Nat.mul_one, List.map_replicate]
    exact toList_madeCells_one _ _
  rw [e] at hob
  have ho : (pxJ (.slice (some ⟨w.heap.size, 0, none⟩) n n) (List.replicate n 0)).lies w3 w.heap.size := by
    unfold pxJ Own.lies
    rw [List.length_replicate]
    exact hob
  have hO : Owns w3 w.heap.size [pxJ (.slice (some ⟨w.heap.size, 0, none⟩) n n) (List.replicate n 0)] := ⟨fun o h => by rw [List.mem_singleton.1 h]; exact ho, List.pairwise_singleton _ _⟩
  exact pxJ_sl hO
theorem flat_set {sz : Nat} {v : Value} : ∀ {zs : List (List Value)}, (∀ cs ∈ zs, cs.length = sz) → ∀ {i j : Nat} {cs : List Value}, zs[i]? = some cs → j < sz → zs.flatten.set (i * sz + j) v = (zs.set i (cs.set j v)).flatten
  | [], _, _, _, _, h, _ => by simp at h
  | c :: zs, hl, 0, j, cs, h, hj => by
    simp at h; subst h
    have hc := hl c List.mem_cons_self
    rw [List.flatten_cons, Nat.zero_mul, Nat.zero_add, List.set_append_left _ _ (by omega), List.set_cons_zero, List.flatten_cons]
  | c :: zs, hl, i + 1, j, cs, h, hj => by
    have hc := hl c List.mem_cons_self
    have ih := flat_set (v := v) (fun x hx => hl x (List.mem_cons_of_mem _ hx)) (show zs[i]? = some cs by simpa using h) hj
    rw [List.flatten_cons, List.set_append_right _ _ (by rw [hc, Nat.add_mul]; omega), hc, show (i + 1) * sz + j - sz = i * sz + j by rw [Nat.add_mul]; omega, ih, List.set_cons_succ, List.flatten_cons]
theorem cells_fourT (l : List Stc) : ∀ cs ∈ l.map Stc.cells, cs.length = 4 := fun cs h => by
  obtain ⟨s, _, rfl⟩ := List.mem_map.1 h
  rfl
theorem info_stcT : (Try.prog.info? 66).map (fun i => (i.zero, i.size, i.bytes)) = some (some (.agg #[.int .u8 0, .bool false, .int .i64 0, .int .i64 0]), 4, 24) := by kernel_rfl
def pxT (g n : Nat) (l : List Stc) : Own := ⟨66, 4, n, .slice (some ⟨g, 0, none⟩) n n, (l.map Stc.cells).flatten⟩
def kindN (n : Nat) (kd : Int) (i : Nat) : List Stc := List.replicate i ⟨kd, false, 0, 0⟩ ++ List.replicate (n - i) ⟨0, false, 0, 0⟩
/-- A row of stitches that the law makes and fills. -/
structure FarA (W1 : World) (g n : Nat) (l : List Stc) (W : World) : Prop where
  own : Owns W W1.heap.size [pxT g n l]
  len : l.length = n
  lo : Below W1.heap.size W1 W
theorem FarA.to {W1 W W' : World} {g n : Nat} {l : List Stc} (h : FarA W1 g n l W) (hb : Below W.heap.size W W') : FarA W1 g n l W' := ⟨h.own.to hb, h.len, h.lo.trans (hb.mono h.lo.size)⟩
theorem FarA.sl {W1 W : World} {g n : Nat} {l : List Stc} (h : FarA W1 g n l W) : SlT W W.heap.size (some ⟨g, 0, none⟩) l := by
  have h0 : W.ownsRow W1.heap.size 66 4 (.slice (some ⟨g, 0, none⟩) n n) n (l.map Stc.cells).flatten := h.own.head
  exact SlS.of_own (cells_fourT l) (by rw [List.length_map, h.len]) h0
theorem FarA.put {W1 W : World} {g n : Nat} {l : List Stc} (h : FarA W1 g n l W) {i : Nat} {s : Stc} (hi : l[i]? = some s) (kd : Int) : W.cell? ⟨g, i * 4, none⟩ = some (.int .u8 s.kind) ∧ W.frozen? ⟨g, i * 4, none⟩ = false ∧ FarA W1 g n (l.set i ⟨kd, s.purl, s.a, s.b⟩) (W.setCell ⟨g, i * 4, none⟩ (.int .u8 kd)) := by
  have h0 : W.ownsRow W1.heap.size 66 4 (.slice (some ⟨g, 0, none⟩) n n) n (l.map Stc.cells).flatten := h.own.head
  have hil := (List.getElem?_eq_some_iff.1 hi).1
  have hz : (l.map Stc.cells)[i]? = some s.cells := by rw [List.getElem?_map, hi]; rfl
  have hf := flat_at (cells_fourT l) hz (i := 0) (v := .int .u8 s.kind) rfl
  rw [Nat.add_zero] at hf
  have hlt := (List.getElem?_eq_some_iff.1 hf).1
  rw [flat_len (cells_fourT l), List.length_map, h.len] at hlt
  obtain ⟨h1, h2⟩ := World.ownsRow.stored h0 (i * 4) (.int .u8 kd)
  have e := flat_set (v := Value.int .u8 kd) (cells_fourT l) hz (j := 0) (by decide)
  rw [Nat.add_zero] at e
  rw [e, show (l.map Stc.cells).set i (s.cells.set 0 (.int .u8 kd)) = (l.set i ⟨kd, s.purl, s.a, s.b⟩).map Stc.cells by rw [List.map_set]; rfl] at h1
  refine ⟨(h0.cellAt _ hlt).trans hf, h0.frozenAt _, ⟨h.own.turn (o' := pxT g n (l.set i ⟨kd, s.purl, s.a, s.b⟩)) h2 h1 (fun k hk => Or.inl hk), by rw [List.length_set]; exact h.len, h.lo.setCell (p := ⟨g, i * 4, none⟩) ((World.ownsRow.lt h0 g rfl).1) _⟩⟩
theorem mk_far (w : World) (n : Nat) (hn : n ≤ 1000000) (e : (madeCells (Value.agg #[.int .u8 0, .bool false, .int .i64 0, .int .i64 0]).cells (n * 4)).toList = ((List.replicate n (⟨0, false, 0, 0⟩ : Stc)).map Stc.cells).flatten) : ∃ w', (Instr.makeSlice 47 (.int .i64 (n : Int)) (.int .i64 (n : Int))).run Try.prog w = .ok (.slice (some ⟨w.heap.size, 0, none⟩) n n) w' ∧ FarA w w.heap.size n (List.replicate n ⟨0, false, 0, 0⟩) w' := by
  obtain ⟨i1, hi', hz0', hz1', hz2'⟩ := info_parts info_stcT
  obtain ⟨w3, hmr, hob, hgb⟩ := run_make_full (P := Try.prog) w w.heap.size 47 66 i1 (.agg #[.int .u8 0, .bool false, .int .i64 0, .int .i64 0]) 4 Try.underlying47 hi' hz0' hz1' .i64 .i64 n (by rw [hz2']; omega) (by unfold maxLen; omega) (Nat.le_refl _)
  have hb := (Below.refl w.heap.size w).grown hgb (Nat.le_refl _) (fun k e => by cases e)
  refine ⟨w3, hmr, Owns.nil.add hb (Nat.le_refl _) ?_, List.length_replicate, hb⟩
  rw [e] at hob
  exact hob
theorem far_41 : (madeCells (Value.agg #[.int .u8 0, .bool false, .int .i64 0, .int .i64 0]).cells (41 * 4)).toList = ((List.replicate 41 (⟨0, false, 0, 0⟩ : Stc)).map Stc.cells).flatten := by kernel_rfl
theorem far_10 : (madeCells (Value.agg #[.int .u8 0, .bool false, .int .i64 0, .int .i64 0]).cells (10 * 4)).toList = ((List.replicate 10 (⟨0, false, 0, 0⟩ : Stc)).map Stc.cells).flatten := by kernel_rfl
theorem kindN_zero (n : Nat) (kd : Int) : kindN n kd 0 = List.replicate n ⟨0, false, 0, 0⟩ := by unfold kindN; simp
theorem kindN_at {n i : Nat} {kd : Int} (hi : i < n) : (kindN n kd i)[i]? = some ⟨0, false, 0, 0⟩ := by
  unfold kindN
  rw [List.getElem?_append_right (by simp), List.length_replicate, Nat.sub_self, List.getElem?_replicate, if_pos (by omega)]
theorem kindN_set {n i : Nat} {kd : Int} (hi : i < n) : (kindN n kd i).set i ⟨kd, false, 0, 0⟩ = kindN n kd (i + 1) := by
  unfold kindN
  rw [List.set_append_right _ _ (by simp), List.length_replicate, Nat.sub_self, show n - i = (n - (i + 1)) + 1 by omega, List.replicate_succ, List.set_cons_zero, List.replicate_succ', List.append_assoc]
  rfl
theorem FarA.fill {W1 W : World} {g n i : Nat} {kd : Int} (h : FarA W1 g n (kindN n kd i) W) (hi : i < n) : W.cell? ⟨g, i * 4, none⟩ = some (.int .u8 0) ∧ W.frozen? ⟨g, i * 4, none⟩ = false ∧ FarA W1 g n (kindN n kd (i + 1)) (W.setCell ⟨g, i * 4, none⟩ (.int .u8 kd)) := by
  obtain ⟨h1, h2, h3⟩ := h.put (kindN_at hi) kd
  rw [kindN_set hi] at h3
  exact ⟨h1, h2, h3⟩
end Go.Proofs.Ytflpikickbellaa
