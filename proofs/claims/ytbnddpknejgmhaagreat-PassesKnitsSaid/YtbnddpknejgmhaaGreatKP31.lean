/- The reference's layer 25: Check, Used, Gives. Layer 27: the reference's Work. -/
import Derived.Test.YtbnddpknejgmhaaGreatKP17
import Derived.Test.YtbnddpknejgmhaaGreatKP30
import Derived.Test.YtbnddpknejgmhaaGreatKP22
namespace Go.Proofs.YtbnddpknejgmhaaGreat
open Go.RowKit
set_option maxRecDepth 100000

theorem err_of {k : Int} {pl : Bool} {a b : Int} {v : Int} (q : Bool) (h : (⟨k, pl, a, b⟩ : Stc).ok = q) (hv : v = if q then 0 else 8) : (⟨k, pl, a, b⟩ : Stc).err = v := by unfold Stc.err; rw [h, hv]
set_option maxHeartbeats 4000000 in
theorem rscheck_any (s : Stc) (w : World) : Calls Tryz.prog 74 #[s.val] w fun e w' => RetE s.err w e w' := by
  obtain ⟨k, pl, a, b⟩ := s
  have hbl := Lib.hid (fun o => (Below.refl w.heap.size w).alloc (Nat.le_refl _) o)
  by_cases h : 1 ≤ k ∧ k ≤ 10
  · rcases (by omega : k = 1 ∨ k = 2 ∨ k = 3 ∨ k = 4 ∨ k = 5 ∨ k = 6 ∨ k = 7 ∨ k = 8 ∨ k = 9 ∨ k = 10) with rfl | rfl | rfl | rfl | rfl | rfl | rfl | rfl | rfl | rfl
    all_goals clear h
    all_goals cases pl
    all_goals
      go_enter Tryz.func74, Tryz.ntmps74
      go_wp2
      all_goals go_ret
      all_goals exact RetE.mk' (by (try simp only [Bool.not_eq_true', Bool.not_eq_false', beq_eq_false_iff_ne, beq_iff_eq, ne_eq, decide_eq_true_eq, decide_eq_false_iff_not] at *); simp [Stc.err, Stc.ok, formI, formT, form0] <;> omega) (hbl.out _)
  · have hn : ∀ j : Int, 1 ≤ j → j ≤ 10 → (k == j) = false := fun j h1 h2 => beq_eq_false_iff_ne.2 (by omega)
    have e1 := hn 1 (by decide) (by decide)
    have e2 := hn 2 (by decide) (by decide)
    have e3 := hn 3 (by decide) (by decide)
    have e4 := hn 4 (by decide) (by decide)
    have e5 := hn 5 (by decide) (by decide)
    have e6 := hn 6 (by decide) (by decide)
    have e7 := hn 7 (by decide) (by decide)
    have e8 := hn 8 (by decide) (by decide)
    have e9 := hn 9 (by decide) (by decide)
    have e10 := hn 10 (by decide) (by decide)
    have HE : Hid ((⟨k, pl, a, b⟩ : Stc).err = 8) := by unfold Hid Stc.err Stc.ok; simp [h]
    clear hn h
    go_enter Tryz.func74, Tryz.ntmps74
    go_wp2
    all_goals go_ret
    all_goals exact RetE.mk' HE.out (hbl.out _)
set_option maxHeartbeats 2000000 in
theorem rused_any (s : Stc) (ho : s.ok = true) (w : World) : Calls Tryz.prog 36 #[s.val] w fun e w' => RetE (usesS s) w e w' := by
  have hr := ok_rng ho
  have hk : 1 ≤ s.kind ∧ s.kind ≤ 10 := by
    unfold Stc.ok at ho
    simp only [Bool.and_eq_true, decide_eq_true_eq] at ho
    exact ho.1
  clear ho
  obtain ⟨k, pl, a, b⟩ := s
  have hbl := Lib.hid (fun o => (Below.refl w.heap.size w).alloc (Nat.le_refl _) o)
  have hw : IntKind.i64.wrap (a + b) = a + b := IntWalk.i64_in _ (by simp only at hr; omega)
  simp only at hk
  clear hr
  rcases (by omega : k = 1 ∨ k = 2 ∨ k = 3 ∨ k = 4 ∨ k = 5 ∨ k = 6 ∨ k = 7 ∨ k = 8 ∨ k = 9 ∨ k = 10) with rfl | rfl | rfl | rfl | rfl | rfl | rfl | rfl | rfl | rfl
  all_goals clear hk
  all_goals
    go_enter Tryz.func36, Tryz.ntmps36
    go_wp2
    go_ret
    exact RetE.mk' (by simp [usesS, loopsI, formI, formT, form0]) (hbl.out _)
set_option maxHeartbeats 2000000 in
theorem rgives_any (s : Stc) (ho : s.ok = true) (w : World) : Calls Tryz.prog 75 #[s.val] w fun e w' => RetE (makesS s) w e w' := by
  have hr := ok_rng ho
  have hk : 1 ≤ s.kind ∧ s.kind ≤ 10 := by
    unfold Stc.ok at ho
    simp only [Bool.and_eq_true, decide_eq_true_eq] at ho
    exact ho.1
  clear ho
  obtain ⟨k, pl, a, b⟩ := s
  have hbl := Lib.hid (fun o => (Below.refl w.heap.size w).alloc (Nat.le_refl _) o)
  have hw : IntKind.i64.wrap (a + b) = a + b := IntWalk.i64_in _ (by simp only at hr; omega)
  simp only at hk
  clear hr
  rcases (by omega : k = 1 ∨ k = 2 ∨ k = 3 ∨ k = 4 ∨ k = 5 ∨ k = 6 ∨ k = 7 ∨ k = 8 ∨ k = 9 ∨ k = 10) with rfl | rfl | rfl | rfl | rfl | rfl | rfl | rfl | rfl | rfl
  all_goals clear hk
  all_goals
    go_enter Tryz.func75, Tryz.ntmps75
    go_wp2
    go_ret
    exact RetE.mk' (by simp [makesS, loopsI, formI, formT, form0]) (hbl.out _)
end Go.Proofs.YtbnddpknejgmhaaGreat
namespace Go.Proofs.YtbnddpknejgmhaaGreat
open Go.RowKit Go.Shelf Go.Sort
set_option maxRecDepth 100000

theorem info_stW : (Tryz.prog.info? 51).map (fun i => (i.zero, i.size, i.bytes)) = some (some (.agg #[.int .u8 0, .bool false, .int .i64 0, .int .i64 0]), 4, 24) := by kernel_rfl
theorem cells_fourW (l : List Stc) : ∀ cs ∈ l.map Stc.cells, cs.length = 4 := fun cs h => by
  obtain ⟨s, _, rfl⟩ := List.mem_map.1 h
  rfl
/-- A row of stitches that a call owns. -/
def pxS (v : Value) (l : List Stc) : Own := ⟨51, 4, l.length, v, (l.map Stc.cells).flatten⟩
theorem pxS_is {w : World} {B n : Nat} {v : Value} {l : List Stc} (h : (pxS v l).lies w B) (hn : l.length = n) : ∃ a c, v = .slice a n c := by
  subst hn
  obtain ⟨a, c, e, -⟩ := own_slice h
  exact ⟨a, c, e⟩
theorem pxS_sl {w : World} {B n c : Nat} {a : Option Addr} {l : List Stc} (h : (pxS (.slice a n c) l).lies w B) : SlT w w.heap.size a l := by
  have h0 : w.ownsRow B 51 4 (.slice a n c) l.length (l.map Stc.cells).flatten := h
  obtain ⟨a', c', e, -⟩ := own_slice h0
  cases e
  exact SlS.of_own (cells_fourW l) (by rw [List.length_map]) h0
theorem pxS_at {w : World} {B n : Nat} {v : Value} {l : List Stc} (h : (pxS v l).lies w B) {k : Nat} {s : Stc} (hk : l[k]? = some s) (hn : l.length = n) : ∃ g c, v = .slice (some ⟨g, 0, none⟩) n c := by
  have h0 : w.ownsRow B 51 4 v l.length (l.map Stc.cells).flatten := h
  have h1 := (List.getElem?_eq_some_iff.1 hk).1
  subst hn
  rcases h0.2 with ⟨-, e⟩ | ⟨g, cap, cur, hv, -⟩
  · omega
  · exact ⟨g, cap, hv⟩
theorem pxS_cell {w : World} {B n g c : Nat} {l : List Stc} (h : (pxS (.slice (some ⟨g, 0, none⟩) n c) l).lies w B) {k : Nat} {s : Stc} (hk : l[k]? = some s) : StcAt w g (k * 4) s := by
  have h0 : w.ownsRow B 51 4 (.slice (some ⟨g, 0, none⟩) n c) l.length (l.map Stc.cells).flatten := h
  obtain ⟨a', c', e', -⟩ := own_slice h0
  cases e'
  have hz : (l.map Stc.cells)[k]? = some s.cells := by rw [List.getElem?_map, hk]; rfl
  have hx : ∀ i x, s.cells[i]? = some x → w.cell? ⟨g, k * 4 + i, none⟩ = some x := fun i x hi => by
    have h4 := flat_at (cells_fourW l) hz hi
    have h5 := (List.getElem?_eq_some_iff.1 h4).1
    rw [flat_len (cells_fourW l), List.length_map] at h5
    exact (h0.cellAt _ h5).trans h4
  exact ⟨hx 0 _ rfl, hx 1 _ rfl, hx 2 _ rfl, hx 3 _ rfl⟩
/-- What Seen hands back: a row of its own. -/
def SnPost (l : List Stc) (w : World) (e : Ending) (w' : World) : Prop := ∃ v, e = .returned v ∧ (pxS v l).lies w' w.heap.size ∧ Below w.heap.size w w'
set_option maxHeartbeats 1000000 in
theorem rseen_plain (A : Option Addr) (c : Nat) (l : List Stc) (hl : l.length ≤ 1000) (w : World) (hs : SlT w w.heap.size A l) :
    Calls Tryz.prog 13 #[.agg #[.bool false, .slice A l.length c]] w fun e w' => SnPost l w e w' := by
  obtain ⟨i0, hi, hz0, hz1, hz2⟩ := info_parts info_stW
  have hb0 := al_t w (.cells #[.bool false, .slice A l.length c] 55)
  have hb1 := hb0.trans ((al_t (w.alloc (.cells #[.bool false, .slice A l.length c] 55)) (.cells #[] 51)).mono hb0.size)
  have e : ((w.alloc (.cells #[.bool false, .slice A l.length c] 55)).alloc (.cells #[] 51)).heap[w.heap.size + 1]? = some (.cells #[] 51 (0, 0)) := by
    have h := Array.getElem?_push_size (xs := (w.alloc (.cells #[.bool false, .slice A l.length c] 55)).heap) (x := Obj.cells #[] 51)
    rw [World.size_alloc] at h
    exact h
  have ho : ((w.alloc (.cells #[.bool false, .slice A l.length c] 55)).alloc (.cells #[] 51)).ownsRow w.heap.size 51 4 (.slice (some ⟨w.heap.size + 1, 0, none⟩) 0 0) 0 [] :=
    own_of_whole (sz := 4) e (by omega) (Nat.le_refl _) (by decide) rfl
  have hs1 := (hs.below hb1).more hb1.size
  obtain ⟨A', c', w', hr, ho', hg, -⟩ := run_app_any Tryz.underlying52 hi hz0 hz1 hz2 rfl (by decide) ho A l.length c (l.map Stc.cells).flatten (by rw [flat_len (cells_fourW l), List.length_map]) (fun e => by
    subst e
    cases l with
    | nil => rfl
    | cons x l => obtain ⟨b, off, e, -⟩ := hs (by simp); cases e) (fun ad e j u hu => by
    subst e
    have hne : l.map Stc.cells ≠ [] := fun e => by rw [e] at hu; simp at hu
    obtain ⟨b, off, e, -, -⟩ := hs1 hne
    cases e
    exact SlS.flat (cells_fourW l) hs1 j u hu) (fun u hu => by
    obtain ⟨cs, hcs, huc⟩ := List.mem_flatten.1 hu
    obtain ⟨s, -, rfl⟩ := List.mem_map.1 hcs
    simp only [Stc.cells, List.mem_cons, List.not_mem_nil, or_false] at huc
    rcases huc with rfl | rfl | rfl | rfl <;> rfl) (by unfold maxLen; omega) (by omega) hb1.size
  rw [Nat.zero_add] at hr ho'
  rw [List.nil_append] at ho'
  have HP : Hid (SnPost l w (.returned (.slice A' l.length c')) w') := ⟨_, rfl, ho', hb1.trans (Below.of_grown hg hb1.size (fun k e => (World.ownsRow.lt ho k e).1))⟩
  obtain ⟨n, hn⟩ : ∃ n, n = l.length := ⟨_, rfl⟩
  rw [← hn] at hr HP ⊢
  clear hs hs1 ho ho' hg hb0 hb1 e hn hl
  go_enter Tryz.func13, Tryz.ntmps13
  go_wp2_with (at_builtin; refine wpList_append_run _ rfl _ _ _ _ rfl _ _ (by rfl) (by rfl) hr ?_)
  go_ret
  exact HP.out
end Go.Proofs.YtbnddpknejgmhaaGreat
