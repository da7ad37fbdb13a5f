/- Layer 31: a pass in memory; begin. -/
import Derived.Test.YtbnddpknejgmhaaPass2
namespace Go.Proofs.Ytbnddpknejgmhaa
open Go.RowKit
set_option maxRecDepth 100000

/-- Block pb is a pass: its first instruction a, its last l, its racking; block mb: its set. -/
structure PassAt (w : World) (pb mb n : Nat) (a l : Ins) (rack : Int) (U : List Hook) : Prop where
  first : InsAt w pb 0 a
  last : InsAt w pb 7 l
  rack : w.cell? ⟨pb, 14, none⟩ = some (.int .i64 rack)
  used : w.cell? ⟨pb, 15, none⟩ = some (.map (some mb))
  set_ : HookSet w mb n U
  thawed : ∀ k, w.frozen? ⟨pb, k, none⟩ = false

theorem thawed_new (w : World) (cs : Array Value) (t : TypeId) (k : Nat) {b : Nat} (hb : b = w.heap.size) : (w.alloc (.cells cs t)).frozen? ⟨b, k, none⟩ = false := by
  subst hb
  have e : (w.alloc (.cells cs t)).heap[w.heap.size]? = some (.cells cs t) := Array.getElem?_push_size
  simp only [World.frozen?, e]
  simp
  try omega
theorem grown_ins {w w' : World} {mb : Nat} (h : w.grownBy w' (some mb)) {b o : Nat} {i : Ins} (hne : b ≠ mb) (hi : InsAt w b o i) : InsAt w' b o i := by
  obtain ⟨h0, h1, h2, h3, h4, h5, h6⟩ := hi
  exact ⟨grown_cell h hne h0, grown_cell h hne h1, grown_cell h hne h2, grown_cell h hne h3, grown_cell h hne h4, grown_cell h hne h5, grown_cell h hne h6⟩
theorem grown_thawed {w w' : World} {mb : Nat} (h : w.grownBy w' (some mb)) {b k : Nat} (hne : b ≠ mb) (hl : b < w.heap.size) (hi : w.frozen? ⟨b, k, none⟩ = false) : w'.frozen? ⟨b, k, none⟩ = false := by
  have := h.block b hl (by simpa using hne)
  simp only [World.frozen?] at hi ⊢
  rw [this]; exact hi
theorem PassAt.below {w w' : World} {pb mb n B : Nat} {a l : Ins} {rack : Int} {U : List Hook} (h : PassAt w pb mb n a l rack U) (hb : Below B w w') (h1 : pb < B) (h2 : mb < B) : PassAt w' pb mb n a l rack U := by
  refine ⟨h.first.below hb h1, h.last.below hb h1, (bcell hb h1 _).trans h.rack, (bcell hb h1 _).trans h.used, h.set_.below hb h2, fun k => ?_⟩
  have e := hb.block pb h1
  have := h.thawed k
  simp only [World.frozen?] at this ⊢
  rw [e]; exact this

theorem begin_set (w : World) (o : Obj) (cs : Array Value) (t : TypeId) (hcs : cs[15]? = some (.map (some (w.heap.size + 1)))) :
    (((w.alloc o).alloc (.map #[] 0)).alloc (.cells cs t)).cell? ⟨w.heap.size + 2, 15, none⟩ = some (.map (some (w.heap.size + 1))) ∧
    HookSet (((w.alloc o).alloc (.map #[] 0)).alloc (.cells cs t)) (w.heap.size + 1) 0 [] := by
  constructor
  · have e : (((w.alloc o).alloc (.map #[] 0)).alloc (.cells cs t)).heap[((w.alloc o).alloc (.map #[] 0)).heap.size]? = some (.cells cs t) := Array.getElem?_push_size
    have e2 : ((w.alloc o).alloc (.map #[] 0)).heap.size = w.heap.size + 2 := by simp
    rw [e2] at e
    simp only [World.cell?, e]
    exact hcs
  · have h := HookSet.made (w.alloc o)
    have e1 : (w.alloc o).heap.size = w.heap.size + 1 := by simp
    rw [e1] at h
    exact h.below (B := w.heap.size + 2) ((Below.refl _ _).alloc (by simp) _) (by omega)
theorem cell_of_new (w : World) (cs : Array Value) (t : TypeId) {b o : Nat} {v : Value} (hb : b = w.heap.size) (h : cs[o]? = some v) : (w.alloc (.cells cs t)).cell? ⟨b, o, none⟩ = some v := by
  subst hb
  have e : (w.alloc (.cells cs t)).heap[w.heap.size]? = some (.cells cs t) := Array.getElem?_push_size
  simp only [World.cell?, e]
  exact h

set_option maxHeartbeats 1000000 in
theorem begin_any (rack : Int) (i : Ins) (hi : i.fit) (w : World) :
    Calls Try.prog 44 #[.int .i64 rack, i.val] w fun e w' =>
      ∃ pb mb, e = .returned (.pointer (some ⟨pb, 0, none⟩)) ∧ w.heap.size ≤ pb ∧ w.heap.size ≤ mb ∧ pb ≠ mb ∧ PassAt w' pb mb (hooks i).length i i rack (hooks i).reverse ∧ Below w.heap.size w w' := by
  have hmm := @run_makeMap Try.prog
  have hcall := Lib.hid (fun o cs hcs => use_any i hi (w.heap.size + 2) (w.heap.size + 1) 0 [] (((w.alloc o).alloc (.map #[] 0)).alloc (.cells cs 94)) (begin_set w o cs _ hcs).1 (begin_set w o cs _ hcs).2 (by unfold maxLen; omega))
  clear hi
  go_enter Try.func44, Try.ntmps44
  go_wp2_with (go_at_call 60; refine (hcall.out _ _ rfl).mono ?_; rintro e w1 ⟨rfl, hs1, hg⟩)
  go_ret
  have hne : w.heap.size + 2 ≠ w.heap.size + 1 := by omega
  refine ⟨_, w.heap.size + 1, rfl, by omega, by omega, hne, ⟨grown_ins hg hne ?_, grown_ins hg hne ?_, grown_cell hg hne ?_, grown_cell hg hne ?_, ?_, fun k => grown_thawed hg hne (by simp) ?_⟩, ?_⟩
  · exact ⟨cell_of_new _ _ _ (by simp) rfl, cell_of_new _ _ _ (by simp) rfl, cell_of_new _ _ _ (by simp) rfl, cell_of_new _ _ _ (by simp) rfl, cell_of_new _ _ _ (by simp) rfl, cell_of_new _ _ _ (by simp) rfl, cell_of_new _ _ _ (by simp) rfl⟩
  · exact ⟨cell_of_new _ _ _ (by simp) rfl, cell_of_new _ _ _ (by simp) rfl, cell_of_new _ _ _ (by simp) rfl, cell_of_new _ _ _ (by simp) rfl, cell_of_new _ _ _ (by simp) rfl, cell_of_new _ _ _ (by simp) rfl, cell_of_new _ _ _ (by simp) rfl⟩
  · exact cell_of_new _ _ _ (by simp) rfl
  · exact cell_of_new _ _ _ (by simp) rfl
  · have := hs1
    rw [Nat.zero_add, List.append_nil] at this
    exact this
  · exact thawed_new _ _ _ _ (by simp)
  · refine Below.grown (row := some (w.heap.size + 1)) ((((Below.refl _ _).alloc (Nat.le_refl _) _).alloc (by simp) _).alloc (by simp; omega) _) hg (by simp; omega) (fun k e => ?_)
    cases e; omega
end Go.Proofs.Ytbnddpknejgmhaa
