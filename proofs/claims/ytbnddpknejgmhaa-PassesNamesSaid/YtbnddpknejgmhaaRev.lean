/- slices.Reverse at instructions, by the shelf's contract. -/
import Derived.Test.YtbnddpknejgmhaaFlat
import Derived.Shelf.SlicesQ.Reverse
namespace Go.Proofs.Ytbnddpknejgmhaa
open Go.RowKit Go.Shelf Go.Lib Go.Sort
set_option maxRecDepth 100000

def renR : Ren := { f := fun x => match x with | 35 => 36 | n => n, t := fun x => match x with | 22 => 22 | 23 => 50 | 3 => 3 | 4 => 4 | 0 => 0 | n => n, g := fun x => x }
theorem layR : Go.Proofs.SlLaysE0.n35 Try.prog renR := {
  mixed := by kernel_rfl
  f35 := ⟨Try.f36.name, by decide, Try.func36.trans rfl⟩
  t0 := Try.underlying0
  a0 := Try.isAgg0
  z0 := Try.sizeOf0
  v0 := Try.zeroValue0
  t3 := Try.underlying3
  a3 := Try.isAgg3
  z3 := Try.sizeOf3
  v3 := Try.zeroValue3
  t4 := Try.underlying4
  a4 := Try.isAgg4
  z4 := Try.sizeOf4
  v4 := Try.zeroValue4
  t22 := Try.underlying22
  a22 := Try.isAgg22
  z22 := Try.sizeOf22
  v22 := Try.zeroValue22 }

theorem cells7 (l : List Ins) : ∀ cs ∈ l.map Ins.cells, cs.length = 7 := by
  intro cs h
  obtain ⟨s, _, rfl⟩ := List.mem_map.1 h
  rfl
theorem one7' (s : Ins) : ∀ v ∈ s.cells, v.oneCell' = true := by
  intro u hu
  simp only [Ins.cells, List.mem_cons, List.not_mem_nil, or_false] at hu
  rcases hu with rfl | rfl | rfl | rfl | rfl | rfl | rfl <;> rfl
theorem one7 (l : List Ins) : ∀ u ∈ (l.map Ins.cells).flatten, u.oneCell' = true := by
  intro u hu
  obtain ⟨cs, hcs, hu⟩ := List.mem_flatten.1 hu
  obtain ⟨s, _, rfl⟩ := List.mem_map.1 hcs
  exact one7' s u hu
instance : Inhabited Ins := ⟨⟨0, false, 0, 0, 0, 0, 0⟩⟩
/-- A row of the call's own holds its instructions, none frozen. -/
theorem holds_own {w : World} {B g n cap : Nat} {t : TypeId} {l : List Ins} (hn : n = l.length) (h : w.ownsRow B t 7 (.slice (some ⟨g, 0, none⟩) n cap) n (l.map Ins.cells).flatten) : HoldsK Ins.cells 7 w g 0 l.toArray := by
  intro j hj
  rw [size_flatK, List.size_toArray] at hj
  have hlen : (l.map Ins.cells).flatten.length = l.length * 7 := by rw [flat_len (cells7 l), List.length_map]
  have hcell := h.cellAt (g := g) j (by omega)
  rw [Nat.zero_add]
  refine ⟨?_, ?_⟩
  · rw [hcell]
    have hq : j / 7 < l.length := by omega
    have h1 : (l.map Ins.cells)[j / 7]? = some l[j / 7].cells := by rw [List.getElem?_map, List.getElem?_eq_getElem hq]; rfl
    have hm : j % 7 < 7 := Nat.mod_lt _ (by omega)
    have h2 : l[j / 7].cells[j % 7]? = some (l[j / 7].cells[j % 7]'(by rw [Ins.cells_length]; exact hm)) := List.getElem?_eq_getElem _
    have h3 := flat_at (cells7 l) h1 h2
    rw [show j / 7 * 7 + j % 7 = j by omega] at h3
    rw [h3, get_flatK _ _ _ _ (by rw [List.size_toArray]; exact hj)]
    have e : l.toArray[j / 7]! = l[j / 7] := by rw [getElem!_pos _ _ (by rw [List.size_toArray]; exact hq)]; rfl
    have e2 : (l[j / 7].cells)[j % 7]! = l[j / 7].cells[j % 7]'(by rw [Ins.cells_length]; exact hm) := getElem!_pos (l[j / 7].cells) (j % 7) (by rw [Ins.cells_length]; exact hm)
    rw [e, e2]
    rfl
  · rcases h.2 with ⟨hv, _⟩ | ⟨g', cap', cur, hv, _, hh, _⟩
    · cases hv
    · cases hv
      simp only [World.frozen?, hh]
      simp
      try omega
theorem grown_mapBlock (w : World) (n blk : Nat) (f : Array Value → Array Value) : w.grownBy (mapBlock (Sort.ahead w n) blk f) (some blk) := by
  refine ⟨rfl, rfl, rfl, by simp [mapBlock, Sort.ahead], fun b _ hb => ?_⟩
  simp only [mapBlock, Sort.ahead]
  rw [Array.getElem?_modify]
  rw [if_neg (fun e => hb (by rw [e]))]
set_option maxHeartbeats 1000000 in
theorem reverse_any (g n cap B : Nat) (t : TypeId) (l : List Ins) (hn : n = l.length) (hl : l.length ≤ 9223372036854775807) (w : World) (h : w.ownsRow B t 7 (.slice (some ⟨g, 0, none⟩) n cap) n (l.map Ins.cells).flatten) :
    Calls Try.prog 36 #[.slice (some ⟨g, 0, none⟩) n cap] w fun e w' => e = .returned (.tuple #[]) ∧ SlX w' w'.heap.size (some ⟨g, 0, none⟩) l.reverse ∧ w.grownBy w' (some g) := by
  have hH := holds_own hn h
  have hg : g < w.heap.size := by
    rcases h.2 with ⟨hv, _⟩ | ⟨g', cap', cur, hv, _, hh, _⟩
    · cases hv
    · cases hv; exact (Array.getElem?_eq_some_iff.1 hh).1
  have hc := Go.Proofs.AnyQ.slices_Reverse layR 7 (fun w => by kernel_rfl) (fun w => by kernel_rfl) Ins.cells Ins.cells_length one7' g 0 cap l.toArray w hH (by rw [List.size_toArray]; exact hl)
  rw [List.size_toArray, ← hn] at hc
  refine Calls.mono hc ?_
  rintro e w' ⟨rfl, q, rfl⟩
  refine ⟨rfl, fun hne => ?_, grown_mapBlock _ _ _ _⟩
  have hK : HoldsK Ins.cells 7 (putRowK Ins.cells 7 (Sort.ahead w q) g 0 l.toArray.reverse) g 0 l.toArray.reverse := holdsK_putRowK _ _ _ _ _ l.toArray _ (Go.Sort.holdsK_ahead _ _ _ _ _ _ _ hH) (by simp)
  refine ⟨g, 0, rfl, by simpa [putRowK, putRow, mapBlock, Sort.ahead] using hg, fun j cs hz i v hv => ?_⟩
  rw [List.getElem?_map] at hz
  cases hr : l.reverse[j]? with
  | none => rw [hr] at hz; cases hz
  | some x =>
    rw [hr] at hz
    simp only [Option.map_some, Option.some.injEq] at hz
    subst hz
    have hj := (List.getElem?_eq_some_iff.1 hr).1
    have hi := (List.getElem?_eq_some_iff.1 hv).1
    rw [Ins.cells_length] at hi
    rw [List.length_reverse] at hj
    have := (hK (j * 7 + i) (by rw [size_flatK]; simp; omega)).1
    rw [get_flatK _ _ _ _ (by simp; omega), show (j * 7 + i) / 7 = j by omega, show (j * 7 + i) % 7 = i by omega] at this
    rw [Nat.zero_add] at this ⊢
    rw [this]
    have e : l.toArray.reverse[j]! = x := by
      rw [show l.toArray.reverse = l.reverse.toArray by simp, getElem!_pos _ _ (by simp; omega)]
      simpa using (List.getElem?_eq_some_iff.1 hr).2
    rw [e]
    have e2 : x.cells[i]! = x.cells[i]'(by rw [Ins.cells_length]; exact hi) := getElem!_pos x.cells i (by rw [Ins.cells_length]; exact hi)
    rw [e2]
    exact congrArg some (List.getElem?_eq_some_iff.1 hv).2
theorem reverse_none (w : World) : Calls Try.prog 36 #[.slice none 0 0] w fun e w' => e = .returned (.tuple #[]) ∧ w' = w :=
  Go.Proofs.AnyQ.slices_Reverse_empty layR none 0 w
end Go.Proofs.Ytbnddpknejgmhaa
