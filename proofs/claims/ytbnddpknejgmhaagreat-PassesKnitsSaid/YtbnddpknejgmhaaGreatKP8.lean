/- slices.Clone at needles, carriers, loops and numbers: a new row. -/
import Derived.Test.YtbnddpknejgmhaaGreatKP7
namespace Go.Proofs.YtbnddpknejgmhaaGreat
open Go.RowKit Go.Shelf
set_option maxRecDepth 100000

/-- A slice value that reads as numbers. -/
def OldI (w : World) (B : Nat) (v : Value) (l : List Int) : Prop := ∃ A c, v = .slice A l.length c ∧ SlI w B A l
theorem OldI.one {w : World} {B : Nat} {v : Value} {l : List Int} (h : OldI w B v l) : v.oneCell' = true := by
  obtain ⟨A, c, rfl, _⟩ := h
  rfl
theorem choose_at {α : Type} {Q : Nat → α → Value → Prop} : ∀ {l : List α}, (∀ j x, l[j]? = some x → ∃ v, Q j x v) → ∃ hv : List (α × Value), hv.map Prod.fst = l ∧ ∀ j p, hv[j]? = some p → Q j p.1 p.2
  | [], _ => ⟨[], rfl, fun j p h => by simp at h⟩
  | a :: l, h => by
    obtain ⟨v, hv0⟩ := h 0 a rfl
    obtain ⟨hv, e, hq⟩ := choose_at (Q := fun j => Q (j + 1)) (l := l) (fun j x hx => h (j + 1) x (by simpa using hx))
    refine ⟨(a, v) :: hv, by simp [e], fun j p hp => ?_⟩
    cases j with
    | zero => simp at hp; subst hp; exact hv0
    | succ j => exact hq j p (by simpa using hp)
theorem SlHk.vals {w : World} {B : Nat} {A : Option Addr} {l : List Hk} (h : SlHk w B A l) : ∃ hv : List (Hk × Value), hv.map Prod.fst = l ∧ SlS 3 w B A (hv.map hookCells) ∧ ∀ p ∈ hv, OldI w B p.2 p.1.loops := by
  by_cases hn : l = []
  · subst hn
    exact ⟨[], rfl, SlS.nil, by simp⟩
  · obtain ⟨b, off, e, hb, hc⟩ := h hn
    obtain ⟨hv, e1, hq⟩ := choose_at (Q := fun j (r : Hk) v => w.cell? ⟨b, off + j * 3, none⟩ = some (.int .u8 r.bed) ∧ w.cell? ⟨b, off + j * 3 + 1, none⟩ = some (.int .i64 r.at_) ∧ w.cell? ⟨b, off + j * 3 + 2, none⟩ = some v ∧ OldI w B v r.loops) (l := l) (fun j r hr => by
      obtain ⟨A', C', h0, h1, h2, h3, h4⟩ := hc j r hr
      exact ⟨_, h0, h1, h2, A', C', rfl, h4⟩)
    refine ⟨hv, e1, fun _ => ⟨b, off, e, hb, fun j cs hz i v hv' => ?_⟩, fun p hp => ?_⟩
    · rw [List.getElem?_map] at hz
      cases hp : hv[j]? with
      | none => rw [hp] at hz; cases hz
      | some p =>
        rw [hp] at hz
        simp only [Option.map_some, Option.some.injEq] at hz
        subst hz
        obtain ⟨h0, h1, h2, _⟩ := hq j p hp
        match i, hv' with
        | 0, hv' => cases hv'; exact h0
        | 1, hv' => cases hv'; exact h1
        | 2, hv' => cases hv'; exact h2
    · obtain ⟨j, hj⟩ := List.mem_iff_getElem?.1 hp
      exact (hq j p hj).2.2.2
theorem SlM.vals {w : World} {B : Nat} {A : Option Addr} {l : List Mk} (h : SlM w B A l) : ∃ hv : List (Mk × Value), hv.map Prod.fst = l ∧ SlS 4 w B A (hv.map makeCells) ∧ ∀ p ∈ hv, OldI w B p.2 p.1.parents := by
  by_cases hn : l = []
  · subst hn
    exact ⟨[], rfl, SlS.nil, by simp⟩
  · obtain ⟨b, off, e, hb, hc⟩ := h hn
    obtain ⟨hv, e1, hq⟩ := choose_at (Q := fun j (r : Mk) v => w.cell? ⟨b, off + j * 4, none⟩ = some v ∧ w.cell? ⟨b, off + j * 4 + 1, none⟩ = some (.int .u8 r.bed) ∧ w.cell? ⟨b, off + j * 4 + 2, none⟩ = some (.int .i64 r.at_) ∧ w.cell? ⟨b, off + j * 4 + 3, none⟩ = some (.int .i64 r.car) ∧ OldI w B v r.parents) (l := l) (fun j r hr => by
      obtain ⟨A', C', h0, h1, h2, h3, h4, h5⟩ := hc j r hr
      exact ⟨_, h0, h1, h2, h3, A', C', rfl, h5⟩)
    refine ⟨hv, e1, fun _ => ⟨b, off, e, hb, fun j cs hz i v hv' => ?_⟩, fun p hp => ?_⟩
    · rw [List.getElem?_map] at hz
      cases hp : hv[j]? with
      | none => rw [hp] at hz; cases hz
      | some p =>
        rw [hp] at hz
        simp only [Option.map_some, Option.some.injEq] at hz
        subst hz
        obtain ⟨h0, h1, h2, h3, _⟩ := hq j p hp
        match i, hv' with
        | 0, hv' => cases hv'; exact h0
        | 1, hv' => cases hv'; exact h1
        | 2, hv' => cases hv'; exact h2
        | 3, hv' => cases hv'; exact h3
    · obtain ⟨j, hj⟩ := List.mem_iff_getElem?.1 hp
      exact (hq j p hj).2.2.2.2
theorem one4m {mv : List (Mk × Value)} (h : ∀ p ∈ mv, p.2.oneCell' = true) : ∀ v ∈ (mv.map makeCells).flatten, v.oneCell' = true := by
  intro u hu
  obtain ⟨cs, hcs, hu⟩ := List.mem_flatten.1 hu
  obtain ⟨p, hp, rfl⟩ := List.mem_map.1 hcs
  simp only [makeCells, List.mem_cons, List.not_mem_nil, or_false] at hu
  rcases hu with rfl | rfl | rfl | rfl
  · exact h p hp
  · rfl
  · rfl
  · rfl
theorem one3h {hv : List (Hk × Value)} (h : ∀ p ∈ hv, p.2.oneCell' = true) : ∀ v ∈ (hv.map hookCells).flatten, v.oneCell' = true := by
  intro u hu
  obtain ⟨cs, hcs, hu⟩ := List.mem_flatten.1 hu
  obtain ⟨p, hp, rfl⟩ := List.mem_map.1 hcs
  simp only [hookCells, List.mem_cons, List.not_mem_nil, or_false] at hu
  rcases hu with rfl | rfl | rfl
  · rfl
  · rfl
  · exact h p hp
theorem one3f (l : List Fd) : ∀ v ∈ (l.map Fd.cells).flatten, v.oneCell' = true := by
  intro u hu
  obtain ⟨cs, hcs, hu⟩ := List.mem_flatten.1 hu
  obtain ⟨p, hp, rfl⟩ := List.mem_map.1 hcs
  simp only [Fd.cells, List.mem_cons, List.not_mem_nil, or_false] at hu
  rcases hu with rfl | rfl | rfl <;> rfl
theorem intV_one' (l : List Int) : ∀ v ∈ intV l, v.oneCell' = true := by
  intro u hu
  obtain ⟨x, _, rfl⟩ := List.mem_map.1 hu
  rfl
/-- What Clone hands back: a new row. -/
def cloneOut (e0 : TypeId) (sz n : Nat) (xs : List Value) (w : World) (e : Ending) (w' : World) : Prop := ∃ A c, e = .returned (.slice A n c) ∧ (Own.mk e0 sz n (.slice A n c) xs).lies w' w.heap.size ∧ Below w.heap.size w w'
theorem cloneOut.nil (e0 : TypeId) (sz : Nat) (w : World) : cloneOut e0 sz 0 [] w (.returned (.slice none 0 0)) w := ⟨_, _, rfl, World.ownsRow_nil .., Below.refl _ _⟩

theorem cloneH_info : (Tryz.prog.info? 87).map (fun i => (i.zero, i.size, i.bytes)) = some (some (Value.agg #[.int .u8 0, .int .i64 0, .slice none 0 0]), 3, 40) := by kernel_rfl
theorem cloneH_eql (ad : Addr) (n c : Nat) (W : World) : (binOp .eql 35 (.slice (some ad) n c) (.slice none 0 0)).run Tryz.prog W = .ok (.bool false) W := by kernel_rfl
theorem cloneH_eqlN (n c : Nat) (W : World) : (binOp .eql 35 (.slice none n c) (.slice none 0 0)).run Tryz.prog W = .ok (.bool true) W := by kernel_rfl
set_option maxHeartbeats 1000000 in
theorem cloneH_any (A : Option Addr) (c n : Nat) (xs : List Value) (hxs : xs.length = n * 3) (hx1 : ∀ v ∈ xs, v.oneCell' = true) (hn : n ≤ 1000000) (w : World) (hs : 0 < n → ∃ b off, A = some ⟨b, off, none⟩ ∧ b < w.heap.size ∧ ∀ j u, xs[j]? = some u → w.cell? ⟨b, off + j, none⟩ = some u) :
    Calls Tryz.prog 57 #[.slice A n c] w fun e w' => cloneOut 87 3 n xs w e w' := by
  obtain ⟨i0, hi, hz0, hz1, hz2⟩ := info_parts cloneH_info
  cases A with
  | none =>
    have hl : n = 0 := by
      rcases Nat.eq_zero_or_pos n with e | e
      · exact e
      · obtain ⟨b, off, e, _⟩ := hs e
        cases e
    subst hl
    obtain rfl : xs = [] := List.eq_nil_of_length_eq_zero (by omega)
    have HO := Lib.hid (cloneOut.nil 87 3 w)
    have hq := cloneH_eqlN 0 c
    clear hs hxs hx1
    go_enter Tryz.func57, Tryz.ntmps57
    go_wp2
    go_ret
    exact HO.out
  | some ad =>
    have hnews : ∀ j u, xs[j]? = some u → (w.alloc (.cells #[] 87)).cell? (ad.add j) = some u := by
      intro j u hu
      have hp : 0 < n := by
        rcases Nat.eq_zero_or_pos n with e | e
        · have := (List.getElem?_eq_some_iff.1 hu).1
          rw [hxs, e] at this; omega
        · exact e
      obtain ⟨b, off, e, hB, hc⟩ := hs hp
      cases e
      rw [addr_plus]
      exact cell_al (hc j u hu) _
    have HN := Lib.hid hnews
    have HX := Lib.hid hx1
    clear hs hnews hx1
    have hq := cloneH_eql ad n c
    go_enter Tryz.func57, Tryz.ntmps57
    go_wp2_with (at_builtin; refine wpList_append_own _ rfl _ _ 35 rfl w.heap.size 87 i0 (Value.agg #[.int .u8 0, .int .i64 0, .slice none 0 0]) 3 40 Tryz.underlying35 hi hz0 hz1 hz2 rfl (by decide) _ 0 [] rfl (World.ownsRow_lit w #[] 0 (Nat.le_refl _) (by decide) rfl) ad n c xs rfl hxs HN.out HX.out (by unfold maxLen; omega) (by omega) (by simp) ?_; intro v' w1 hown' hgrow _; have HOw := Lib.hid hown'; have HG := Lib.hid hgrow; clear hown' hgrow)
    have ho := HOw.out
    rw [Nat.zero_add, List.nil_append] at ho
    have hB : Below w.heap.size w w1 := ((Below.refl _ w).alloc (Nat.le_refl _) _).grown HG.out (by simp) (fun k e => by cases e; exact Nat.le_refl _)
    obtain ⟨a2, c2, rfl, _⟩ := own_slice ho
    have HO := Lib.hid (show cloneOut 87 3 n xs w (.returned (.slice a2 n c2)) w1 from ⟨_, _, rfl, ho, hB⟩)
    clear ho hB HOw HG
    go_ret
    exact HO.out

theorem cloneF_info : (Tryz.prog.info? 90).map (fun i => (i.zero, i.size, i.bytes)) = some (some (Value.agg #[.int .i64 0, .bool false, .int .i64 0]), 3, 24) := by kernel_rfl
theorem cloneF_eql (ad : Addr) (n c : Nat) (W : World) : (binOp .eql 36 (.slice (some ad) n c) (.slice none 0 0)).run Tryz.prog W = .ok (.bool false) W := by kernel_rfl
theorem cloneF_eqlN (n c : Nat) (W : World) : (binOp .eql 36 (.slice none n c) (.slice none 0 0)).run Tryz.prog W = .ok (.bool true) W := by kernel_rfl
set_option maxHeartbeats 1000000 in
theorem cloneF_any (A : Option Addr) (c n : Nat) (xs : List Value) (hxs : xs.length = n * 3) (hx1 : ∀ v ∈ xs, v.oneCell' = true) (hn : n ≤ 1000000) (w : World) (hs : 0 < n → ∃ b off, A = some ⟨b, off, none⟩ ∧ b < w.heap.size ∧ ∀ j u, xs[j]? = some u → w.cell? ⟨b, off + j, none⟩ = some u) :
    Calls Tryz.prog 58 #[.slice A n c] w fun e w' => cloneOut 90 3 n xs w e w' := by
  obtain ⟨i0, hi, hz0, hz1, hz2⟩ := info_parts cloneF_info
  cases A with
  | none =>
    have hl : n = 0 := by
      rcases Nat.eq_zero_or_pos n with e | e
      · exact e
      · obtain ⟨b, off, e, _⟩ := hs e
        cases e
    subst hl
    obtain rfl : xs = [] := List.eq_nil_of_length_eq_zero (by omega)
    have HO := Lib.hid (cloneOut.nil 90 3 w)
    have hq := cloneF_eqlN 0 c
    clear hs hxs hx1
    go_enter Tryz.func58, Tryz.ntmps58
    go_wp2
    go_ret
    exact HO.out
  | some ad =>
    have hnews : ∀ j u, xs[j]? = some u → (w.alloc (.cells #[] 90)).cell? (ad.add j) = some u := by
      intro j u hu
      have hp : 0 < n := by
        rcases Nat.eq_zero_or_pos n with e | e
        · have := (List.getElem?_eq_some_iff.1 hu).1
          rw [hxs, e] at this; omega
        · exact e
      obtain ⟨b, off, e, hB, hc⟩ := hs hp
      cases e
      rw [addr_plus]
      exact cell_al (hc j u hu) _
    have HN := Lib.hid hnews
    have HX := Lib.hid hx1
    clear hs hnews hx1
    have hq := cloneF_eql ad n c
    go_enter Tryz.func58, Tryz.ntmps58
    go_wp2_with (at_builtin; refine wpList_append_own _ rfl _ _ 36 rfl w.heap.size 90 i0 (Value.agg #[.int .i64 0, .bool false, .int .i64 0]) 3 24 Tryz.underlying36 hi hz0 hz1 hz2 rfl (by decide) _ 0 [] rfl (World.ownsRow_lit w #[] 0 (Nat.le_refl _) (by decide) rfl) ad n c xs rfl hxs HN.out HX.out (by unfold maxLen; omega) (by omega) (by simp) ?_; intro v' w1 hown' hgrow _; have HOw := Lib.hid hown'; have HG := Lib.hid hgrow; clear hown' hgrow)
    have ho := HOw.out
    rw [Nat.zero_add, List.nil_append] at ho
    have hB : Below w.heap.size w w1 := ((Below.refl _ w).alloc (Nat.le_refl _) _).grown HG.out (by simp) (fun k e => by cases e; exact Nat.le_refl _)
    obtain ⟨a2, c2, rfl, _⟩ := own_slice ho
    have HO := Lib.hid (show cloneOut 90 3 n xs w (.returned (.slice a2 n c2)) w1 from ⟨_, _, rfl, ho, hB⟩)
    clear ho hB HOw HG
    go_ret
    exact HO.out

theorem cloneM_info : (Tryz.prog.info? 57).map (fun i => (i.zero, i.size, i.bytes)) = some (some (Value.agg #[.slice none 0 0, .int .u8 0, .int .i64 0, .int .i64 0]), 4, 48) := by kernel_rfl
theorem cloneM_eql (ad : Addr) (n c : Nat) (W : World) : (binOp .eql 37 (.slice (some ad) n c) (.slice none 0 0)).run Tryz.prog W = .ok (.bool false) W := by kernel_rfl
theorem cloneM_eqlN (n c : Nat) (W : World) : (binOp .eql 37 (.slice none n c) (.slice none 0 0)).run Tryz.prog W = .ok (.bool true) W := by kernel_rfl
set_option maxHeartbeats 1000000 in
theorem cloneM_any (A : Option Addr) (c n : Nat) (xs : List Value) (hxs : xs.length = n * 4) (hx1 : ∀ v ∈ xs, v.oneCell' = true) (hn : n ≤ 1000000) (w : World) (hs : 0 < n → ∃ b off, A = some ⟨b, off, none⟩ ∧ b < w.heap.size ∧ ∀ j u, xs[j]? = some u → w.cell? ⟨b, off + j, none⟩ = some u) :
    Calls Tryz.prog 59 #[.slice A n c] w fun e w' => cloneOut 57 4 n xs w e w' := by
  obtain ⟨i0, hi, hz0, hz1, hz2⟩ := info_parts cloneM_info
  cases A with
  | none =>
    have hl : n = 0 := by
      rcases Nat.eq_zero_or_pos n with e | e
      · exact e
      · obtain ⟨b, off, e, _⟩ := hs e
        cases e
    subst hl
    obtain rfl : xs = [] := List.eq_nil_of_length_eq_zero (by omega)
    have HO := Lib.hid (cloneOut.nil 57 4 w)
    have hq := cloneM_eqlN 0 c
    clear hs hxs hx1
    go_enter Tryz.func59, Tryz.ntmps59
    go_wp2
    go_ret
    exact HO.out
  | some ad =>
    have hnews : ∀ j u, xs[j]? = some u → (w.alloc (.cells #[] 57)).cell? (ad.add j) = some u := by
      intro j u hu
      have hp : 0 < n := by
        rcases Nat.eq_zero_or_pos n with e | e
        · have := (List.getElem?_eq_some_iff.1 hu).1
          rw [hxs, e] at this; omega
        · exact e
      obtain ⟨b, off, e, hB, hc⟩ := hs hp
      cases e
      rw [addr_plus]
      exact cell_al (hc j u hu) _
    have HN := Lib.hid hnews
    have HX := Lib.hid hx1
    clear hs hnews hx1
    have hq := cloneM_eql ad n c
    go_enter Tryz.func59, Tryz.ntmps59
    go_wp2_with (at_builtin; refine wpList_append_own _ rfl _ _ 37 rfl w.heap.size 57 i0 (Value.agg #[.slice none 0 0, .int .u8 0, .int .i64 0, .int .i64 0]) 4 48 Tryz.underlying37 hi hz0 hz1 hz2 rfl (by decide) _ 0 [] rfl (World.ownsRow_lit w #[] 0 (Nat.le_refl _) (by decide) rfl) ad n c xs rfl hxs HN.out HX.out (by unfold maxLen; omega) (by omega) (by simp) ?_; intro v' w1 hown' hgrow _; have HOw := Lib.hid hown'; have HG := Lib.hid hgrow; clear hown' hgrow)
    have ho := HOw.out
    rw [Nat.zero_add, List.nil_append] at ho
    have hB : Below w.heap.size w w1 := ((Below.refl _ w).alloc (Nat.le_refl _) _).grown HG.out (by simp) (fun k e => by cases e; exact Nat.le_refl _)
    obtain ⟨a2, c2, rfl, _⟩ := own_slice ho
    have HO := Lib.hid (show cloneOut 57 4 n xs w (.returned (.slice a2 n c2)) w1 from ⟨_, _, rfl, ho, hB⟩)
    clear ho hB HOw HG
    go_ret
    exact HO.out

theorem cloneI_info : (Tryz.prog.info? 3).map (fun i => (i.zero, i.size, i.bytes)) = some (some (Value.int .i64 0), 1, 8) := by kernel_rfl
theorem cloneI_eql (ad : Addr) (n c : Nat) (W : World) : (binOp .eql 43 (.slice (some ad) n c) (.slice none 0 0)).run Tryz.prog W = .ok (.bool false) W := by kernel_rfl
theorem cloneI_eqlN (n c : Nat) (W : World) : (binOp .eql 43 (.slice none n c) (.slice none 0 0)).run Tryz.prog W = .ok (.bool true) W := by kernel_rfl
set_option maxHeartbeats 1000000 in
theorem cloneI_any (A : Option Addr) (c n : Nat) (xs : List Value) (hxs : xs.length = n * 1) (hx1 : ∀ v ∈ xs, v.oneCell' = true) (hn : n ≤ 1000000) (w : World) (hs : 0 < n → ∃ b off, A = some ⟨b, off, none⟩ ∧ b < w.heap.size ∧ ∀ j u, xs[j]? = some u → w.cell? ⟨b, off + j, none⟩ = some u) :
    Calls Tryz.prog 60 #[.slice A n c] w fun e w' => cloneOut 3 1 n xs w e w' := by
  obtain ⟨i0, hi, hz0, hz1, hz2⟩ := info_parts cloneI_info
  cases A with
  | none =>
    have hl : n = 0 := by
      rcases Nat.eq_zero_or_pos n with e | e
      · exact e
      · obtain ⟨b, off, e, _⟩ := hs e
        cases e
    subst hl
    obtain rfl : xs = [] := List.eq_nil_of_length_eq_zero (by omega)
    have HO := Lib.hid (cloneOut.nil 3 1 w)
    have hq := cloneI_eqlN 0 c
    clear hs hxs hx1
    go_enter Tryz.func60, Tryz.ntmps60
    go_wp2
    go_ret
    exact HO.out
  | some ad =>
    have hnews : ∀ j u, xs[j]? = some u → (w.alloc (.cells #[] 3)).cell? (ad.add j) = some u := by
      intro j u hu
      have hp : 0 < n := by
        rcases Nat.eq_zero_or_pos n with e | e
        · have := (List.getElem?_eq_some_iff.1 hu).1
          rw [hxs, e] at this; omega
        · exact e
      obtain ⟨b, off, e, hB, hc⟩ := hs hp
      cases e
      rw [addr_plus]
      exact cell_al (hc j u hu) _
    have HN := Lib.hid hnews
    have HX := Lib.hid hx1
    clear hs hnews hx1
    have hq := cloneI_eql ad n c
    go_enter Tryz.func60, Tryz.ntmps60
    go_wp2_with (at_builtin; refine wpList_append_own _ rfl _ _ 43 rfl w.heap.size 3 i0 (Value.int .i64 0) 1 8 Tryz.underlying43 hi hz0 hz1 hz2 rfl (by decide) _ 0 [] rfl (World.ownsRow_lit w #[] 0 (Nat.le_refl _) (by decide) rfl) ad n c xs rfl hxs HN.out HX.out (by unfold maxLen; omega) (by omega) (by simp) ?_; intro v' w1 hown' hgrow _; have HOw := Lib.hid hown'; have HG := Lib.hid hgrow; clear hown' hgrow)
    have ho := HOw.out
    rw [Nat.zero_add, List.nil_append] at ho
    have hB : Below w.heap.size w w1 := ((Below.refl _ w).alloc (Nat.le_refl _) _).grown HG.out (by simp) (fun k e => by cases e; exact Nat.le_refl _)
    obtain ⟨a2, c2, rfl, _⟩ := own_slice ho
    have HO := Lib.hid (show cloneOut 3 1 n xs w (.returned (.slice a2 n c2)) w1 from ⟨_, _, rfl, ho, hB⟩)
    clear ho hB HOw HG
    go_ret
    exact HO.out
end Go.Proofs.YtbnddpknejgmhaaGreat
