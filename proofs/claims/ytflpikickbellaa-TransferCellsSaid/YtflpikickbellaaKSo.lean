/- Layer 32: slices.SortFunc at the pairs of Of. -/
import Derived.Test.YtflpikickbellaaKG5
import Derived.Test.YtflpikickbellaaKOf0
import Derived.Test.YtflpikickbellaaShelfF
import Derived.BigQuiet
import Derived.ChangeKeysEq
import Derived.Sort.OwnSorted
namespace Go.Proofs.Ytflpikickbellaa
open Go.RowKit Go.Shelf Go.Lib Go.Sort
set_option maxRecDepth 100000

theorem two_grow (W : World) (A B : Obj) (n : Nat) : ∃ q os', ((W.alloc A).alloc B).drewN n = grow (W.drewN q) os' := ⟨n, #[A] ++ #[B], by rw [alloc_eq_grow, alloc_eq_grow, grow_grow]; rfl⟩
set_option maxHeartbeats 2000000 in
theorem of1_any (x y : Int × Int) (W : World) :
    Calls Try.prog 53 #[.agg (prC x).toArray, .agg (prC y).toArray] W fun e w' => e = .returned (.int .i64 (cmpP x y)) ∧ ∃ q os', w' = grow (W.drewN q) os' := by
  obtain ⟨a, b⟩ := x
  obtain ⟨c, d⟩ := y
  have g0 : ((W.alloc (.cells #[.int .i64 a, .int .i64 b] 63)).alloc (.cells #[.int .i64 c, .int .i64 d] 63)).cell? ⟨W.heap.size, 0, none⟩ = some (.int .i64 a) := cell_al (cell_new rfl rfl rfl) _
  have g1 : ((W.alloc (.cells #[.int .i64 a, .int .i64 b] 63)).alloc (.cells #[.int .i64 c, .int .i64 d] 63)).cell? ⟨W.heap.size, 1, none⟩ = some (.int .i64 b) := cell_al (cell_new rfl rfl rfl) _
  have g2 : ((W.alloc (.cells #[.int .i64 a, .int .i64 b] 63)).alloc (.cells #[.int .i64 c, .int .i64 d] 63)).cell? ⟨W.heap.size + 1, 0, none⟩ = some (.int .i64 c) := cell_new rfl (by simp) rfl
  have g3 : ((W.alloc (.cells #[.int .i64 a, .int .i64 b] 63)).alloc (.cells #[.int .i64 c, .int .i64 d] 63)).cell? ⟨W.heap.size + 1, 1, none⟩ = some (.int .i64 d) := cell_new rfl (by simp) rfl
  have HC : Hid (∀ n, Calls Try.prog 50 #[.slice (some ⟨W.heap.size, 0, none⟩) 2 2, .slice (some ⟨W.heap.size + 1, 0, none⟩) 2 2] (((W.alloc (.cells #[.int .i64 a, .int .i64 b] 63)).alloc (.cells #[.int .i64 c, .int .i64 d] 63)).drewN n) fun e w' =>
      e = .returned (.int .i64 (cmpP (a, b) (c, d))) ∧ ∃ m, w' = (((W.alloc (.cells #[.int .i64 a, .int .i64 b] 63)).alloc (.cells #[.int .i64 c, .int .i64 d] 63)).drewN n).drewN m) := fun n =>
    (scmp_any W.heap.size 0 2 (W.heap.size + 1) 0 2 (a, b) (c, d) (((W.alloc (.cells #[.int .i64 a, .int .i64 b] 63)).alloc (.cells #[.int .i64 c, .int .i64 d] 63)).drewN n) g0 g1 g2 g3).mono fun e w' h => ⟨h.1, 0, h.2⟩
  obtain ⟨z, hz⟩ : ∃ z, z = cmpP (a, b) (c, d) := ⟨_, rfl⟩
  rw [← hz] at HC ⊢
  clear hz
  go_enter Try.func53, Try.ntmps53
  go_wp2
  go_quiet ((go_at_call 50; exact Calls.quiet_of (HC.out _)))
  go_wp2
  go_ret
  exact ⟨rfl, two_grow W _ _ _⟩
theorem swo_cmp : SWO (ltOf cmpP) := by
  have e : ∀ p q : Int × Int, (ltOf cmpP p q = true ↔ p.1 < q.1 ∨ (p.1 = q.1 ∧ p.2 < q.2)) := fun p q => by
    unfold ltOf
    have h := cmpP_ge p q
    have h2 : decide (cmpP p q < 0) = !(decide (0 ≤ cmpP p q)) := by
      by_cases hc : cmpP p q < 0
      · rw [decide_eq_true hc, decide_eq_false (by omega)]; rfl
      · rw [decide_eq_false hc, decide_eq_true (by omega)]; rfl
    rw [h2, h, Bool.not_not]
    unfold ltP
    simp
  have e2 : ∀ p q : Int × Int, (ltOf cmpP p q = false ↔ ¬ (p.1 < q.1 ∨ (p.1 = q.1 ∧ p.2 < q.2))) := fun p q => by rw [← e, Bool.not_eq_true]
  refine ⟨fun x => (e2 x x).2 (by omega), fun x y z h1 h2 => (e x z).2 ?_, fun x y z h1 h2 => (e2 x z).2 ?_⟩
  · have := (e x y).1 h1; have := (e y z).1 h2; omega
  · have := (e2 x y).1 h1; have := (e2 y z).1 h2; omega
theorem tot_cmp (x y : Int × Int) (h1 : ltOf cmpP x y = false) (h2 : ltOf cmpP y x = false) : x = y := by
  have e : ∀ p q : Int × Int, ltOf cmpP p q = false → ¬ (p.1 < q.1 ∨ (p.1 = q.1 ∧ p.2 < q.2)) := fun p q h hc => by
    unfold ltOf at h
    rw [decide_eq_false_iff_not] at h
    have h3 := cmpP_ge p q
    rw [decide_eq_true (by omega)] at h3
    have : ltP p q = true := by unfold ltP; simp; omega
    rw [this] at h3
    cases h3
  have a1 := e x y h1
  have a2 := e y x h2
  obtain ⟨x1, x2⟩ := x
  obtain ⟨y1, y2⟩ := y
  simp only at a1 a2
  rw [Prod.mk.injEq]
  omega
theorem one2 (p : Int × Int) : ∀ v ∈ prC p, v.oneCell' = true := by
  intro u hu
  simp only [List.mem_cons, List.not_mem_nil, or_false] at hu
  rcases hu with rfl | rfl <;> rfl
theorem holds_pr {w : World} {B g n cap : Nat} {l : List (Int × Int)} (hn : n = l.length) (h : w.ownsRow B 63 2 (.slice (some ⟨g, 0, none⟩) n cap) n (l.map prC).flatten) : HoldsK prC 2 w g 0 l.toArray := by
  intro j hj
  rw [size_flatK, List.size_toArray] at hj
  have hcell := h.cellAt (g := g) j (by omega)
  rw [Nat.zero_add]
  refine ⟨?_, ?_⟩
  · rw [hcell]
    have hq : j / 2 < l.length := by omega
    have h1 : (l.map prC)[j / 2]? = some (prC l[j / 2]) := by rw [List.getElem?_map, List.getElem?_eq_getElem hq]; rfl
    have hm : j % 2 < 2 := Nat.mod_lt _ (by omega)
    have h2 : (prC l[j / 2])[j % 2]? = some ((prC l[j / 2])[j % 2]'(by show j % 2 < 2; exact hm)) := List.getElem?_eq_getElem _
    have h3 := flat_at (cells_two l) h1 h2
    rw [show j / 2 * 2 + j % 2 = j by omega] at h3
    rw [h3, get_flatK _ _ _ _ (by rw [List.size_toArray]; exact hj)]
    have e : l.toArray[j / 2]! = l[j / 2] := by rw [getElem!_pos _ _ (by rw [List.size_toArray]; exact hq)]; rfl
    have e2 : (prC l[j / 2])[j % 2]! = (prC l[j / 2])[j % 2]'(by show j % 2 < 2; exact hm) := getElem!_pos (prC l[j / 2]) (j % 2) (by show j % 2 < 2; exact hm)
    rw [e, e2]
    rfl
  · rcases h.2 with ⟨hv, _⟩ | ⟨g', cap', cur, hv, _, hh, _⟩
    · cases hv
    · cases hv
      simp only [World.frozen?, hh]
      simp
theorem grown_sortK {w : World} {g n : Nat} {os : Array Obj} (d : Array (Int × Int)) : w.grownBy (sortWorldK prC 2 w g 0 n d os) (some g) := by
  unfold sortWorldK putRowK
  refine ⟨rfl, rfl, rfl, by simp [grow, putRow, mapBlock, Sort.ahead], fun k hk hne => ?_⟩
  rw [heap_grow_old _ _ (by simpa [putRow, mapBlock, Sort.ahead] using hk)]
  have : g ≠ k := fun e => hne (by rw [e])
  simp [putRow, mapBlock, Sort.ahead, Array.getElem?_modify, this]
set_option maxHeartbeats 1000000 in
/-- slices.SortFunc at a row of pairs that the call owns. -/
theorem sortPr_any (B : Nat) (A : Option Addr) (c : Nat) (l : List (Int × Int)) (hl : l.length ≤ 100000) (w : World) (h : (pxP (.slice A l.length c) l).lies w B) :
    Calls Try.prog 52 #[.slice A l.length c, .func (.func 53) #[] #[]] w fun e w' => e = .returned (.tuple #[]) ∧ SlPr w' w'.heap.size A (sortP l) ∧ w.grownBy w' (Value.slice A l.length c).ownBlock := by
  have h0 : w.ownsRow B 63 2 (.slice A l.length c) l.length (l.map prC).flatten := h
  have hsl : (sortP l).length = l.length := by unfold sortP; exact List.length_mergeSort l
  by_cases hz : l = []
  · subst hz
    have := AnyF.slices_SortFunc_none Try.sortPr A c (.func (.func 53) #[] #[]) w
    refine Calls.mono this ?_
    rintro e w' ⟨rfl, rfl⟩
    have e : sortP [] = [] := by unfold sortP; simp
    rw [e]
    exact ⟨rfl, SlPr.nil, ⟨rfl, rfl, rfl, Nat.le_refl _, fun _ _ _ => rfl⟩⟩
  · have hp : 0 < l.length := List.length_pos_iff.2 hz
    obtain ⟨g, rfl, hg⟩ : ∃ g, A = some ⟨g, 0, none⟩ ∧ g < w.heap.size := by
      rcases h0.2 with ⟨-, e⟩ | ⟨g, cap, cur, hv, -, hh, -⟩
      · omega
      · cases hv; exact ⟨g, rfl, (Array.getElem?_eq_some_iff.1 hh).1⟩
    have hH := holds_pr rfl h0
    have hc := AnyQ.slices_SortFunc_total Try.sortPr 2 (fun w => by kernel_rfl) (fun w => by kernel_rfl) prC (fun _ => rfl) one2 cmpP swo_cmp 53 #[] g 0 c l.toArray w
      (enters_of Try.func53 (by kernel_rfl) rfl) (fun _ _ _ _ x y => of1_any x y _) hH hg (by rw [List.size_toArray]; omega) tot_cmp
    rw [List.size_toArray] at hc
    refine Calls.mono hc ?_
    rintro e w' ⟨rfl, n, os, rfl⟩
    have he : (l.toArray.toList.mergeSort fun x y => !(ltOf cmpP) y x) = sortP l := rfl
    rw [he]
    refine ⟨rfl, fun hne => ?_, grown_sortK _⟩
    have hK : HoldsK prC 2 (putRowK prC 2 (Sort.ahead w n) g 0 (sortP l).toArray) g 0 (sortP l).toArray := holdsK_putRowK _ _ _ _ _ l.toArray _ (Go.Sort.holdsK_ahead _ _ _ _ _ _ _ hH) (by simp [hsl])
    have hgs : g < (putRowK prC 2 (Sort.ahead w n) g 0 (sortP l).toArray).heap.size := by simpa [putRowK, putRow, mapBlock, Sort.ahead] using hg
    have hcell : ∀ o, (sortWorldK prC 2 w g 0 n (sortP l).toArray os).cell? ⟨g, o, none⟩ = (putRowK prC 2 (Sort.ahead w n) g 0 (sortP l).toArray).cell? ⟨g, o, none⟩ := fun o => World.cell?_of_block (a := ⟨g, o, none⟩) (heap_grow_old _ _ hgs)
    refine ⟨g, 0, rfl, Nat.lt_of_lt_of_le hg (grown_sortK (os := os) (n := n) (sortP l).toArray).size, fun j cs hz2 i v hv => ?_⟩
    rw [List.getElem?_map] at hz2
    cases hr : (sortP l)[j]? with
    | none => rw [hr] at hz2; cases hz2
    | some x =>
      rw [hr] at hz2
      simp only [Option.map_some, Option.some.injEq] at hz2
      subst hz2
      have hj := (List.getElem?_eq_some_iff.1 hr).1
      have hi : i < 2 := (List.getElem?_eq_some_iff.1 hv).1
      have := (hK (j * 2 + i) (by rw [size_flatK]; simp; omega)).1
      rw [get_flatK _ _ _ _ (by simp; omega), show (j * 2 + i) / 2 = j by omega, show (j * 2 + i) % 2 = i by omega] at this
      rw [Nat.zero_add] at this ⊢
      rw [hcell, this]
      have e : (sortP l).toArray[j]! = x := by
        rw [getElem!_pos _ _ (by simpa using hj)]
        simpa using (List.getElem?_eq_some_iff.1 hr).2
      rw [e]
      have e2 : (prC x)[i]! = (prC x)[i]'(by show i < 2; exact hi) := getElem!_pos (prC x) i (by show i < 2; exact hi)
      rw [e2]
      exact congrArg some (List.getElem?_eq_some_iff.1 hv).2
end Go.Proofs.Ytflpikickbellaa
