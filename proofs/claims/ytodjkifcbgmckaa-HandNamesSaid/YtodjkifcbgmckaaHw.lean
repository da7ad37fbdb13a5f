/- Layer 29, plain: a right plan; the moves of working it. -/
import Derived.Test.YtodjkifcbgmckaaHb0
import Derived.Test.YtodjkifcbgmckaaHs
namespace Go.Proofs.Ytodjkifcbgmckaa
open Go.RowKit Go.Shelf Go.Sort
set_option maxRecDepth 100000

def deepI (ns : List Int) (a : Int) : Int := if a < 0 then 0 else ns.getD a.toNat 0
def isFr (b : Brd) (x y : Nat) : Bool := decide (((x : Int), (y : Int)) ∈ b.fronts)
/-- The x-th loop of a plan may have what it has, behind the loops before it. -/
def okP (b : Brd) (ns plan : List Int) (x : Nat) : Bool :=
  decide (plan.getD x 0 < 0 → ∀ y, y < b.to_.length → chg b.to_ x y = false) &&
  decide (∀ y, y < x → chg b.to_ y x = true → plan.getD y 0 ≠ plan.getD x 0 ∧ isFr b y x = decide (deepI ns (plan.getD x 0) < deepI ns (plan.getD y 0)))
/-- The last loop of a plan. -/
def okL (b : Brd) (ns : List Int) (plan : List Int) : Bool := okP b ns plan (plan.length - 1)
def planOk (k n : Nat) (plan : List Int) : Bool := decide (plan.length = n) && decide (∀ a ∈ plan, -1 ≤ a ∧ a < (k : Int))
/-- What Right answers. -/
def rightE (b : Brd) (ns plan : List Int) : Bool × Int :=
  if brdE b ≠ 0 then (false, brdE b)
  else if cabB ns = false ∨ planOk ns.length b.to_.length plan = false then (false, 2)
  else (decide (∀ x, x < plan.length → okP b ns (plan.take (x + 1)) x = true), 0)
/-- What Plan answers. -/
def planE (b : Brd) (ns : List Int) : List Int × Int :=
  if brdE b ≠ 0 then ([], brdE b)
  else if cabB ns = false then ([], 2)
  else match sea ns.length (okL b ns) b.to_.length [] with
    | none => ([], 6)
    | some p => (p, 0)
/-- The needles that are tried: so many in front, so many behind. -/
def depthsL (f k : Nat) : List Int := ((List.range f).map fun (i : Nat) => (i : Int) + 1) ++ ((List.range k).map fun (i : Nat) => -((i : Int) + 1))
/-- One round of Work: the loops from left on that are slipped, the loop that is worked. -/
def workStep (plan : List Int) (x : Nat) (s : Nat × List Mv) : Nat × List Mv :=
  let last := if 0 ≤ plan.getD x 0 then x + 1 else x
  (max s.1 (x + 1), s.2 ++ (((plan.take last).drop s.1).map fun a => (⟨true, a⟩ : Mv)) ++ [⟨false, plan.getD x 0⟩])
def idxI (l : List Int) (t : Int) : Nat := l.findIdx fun x => decide (x = t)
def workL (to_ plan : List Int) : Nat → Nat × List Mv
  | 0 => (0, [])
  | t + 1 => workStep plan (idxI to_ (t : Int)) (workL to_ plan t)
/-- What Work answers. -/
def workE (b : Brd) (ns plan : List Int) : List Mv × Int :=
  if (rightE b ns plan).2 ≠ 0 then ([], (rightE b ns plan).2)
  else if (rightE b ns plan).1 = false then ([], 36)
  else ((workL b.to_ plan b.to_.length).2, 0)
/-- The reference slips one loop after the other: from left on, up to last. -/
theorem slip_one {plan : List Int} {left last : Nat} (h : left < last) (hl : last ≤ plan.length) : ((plan.take last).drop left).map (fun a => (⟨true, a⟩ : Mv)) = ⟨true, plan.getD left 0⟩ :: ((plan.take last).drop (left + 1)).map (fun a => (⟨true, a⟩ : Mv)) := by
  have hlt : left < (plan.take last).length := by rw [List.length_take]; omega
  rw [List.drop_eq_getElem_cons hlt, List.map_cons]
  congr 2
  rw [List.getElem_take, List.getD_eq_getElem?_getD, List.getElem?_eq_getElem (by omega)]
  rfl
theorem slip_nil {plan : List Int} {left last : Nat} (h : last ≤ left) : ((plan.take last).drop left).map (fun a => (⟨true, a⟩ : Mv)) = [] := by
  rw [List.drop_eq_nil_of_le (by rw [List.length_take]; omega)]
  rfl
/-- A permutation holds every number. -/
theorem idx_perm {l : List Int} (h : permB l = true) {t : Nat} (ht : t < l.length) : idxI l (t : Int) < l.length ∧ l[idxI l (t : Int)]? = some (t : Int) := by
  have hs := (sort_perm l).1 h
  have hln := sortZ_len l
  have hm : (t : Int) ∈ l := by
    have e : (sortZ l)[t]? = some (sortZ l)[t] := List.getElem?_eq_getElem (by omega)
    have := hs t _ e
    rw [← sortZ_mem, ← this]
    exact List.getElem_mem _
  have hi : idxI l (t : Int) < l.length := List.findIdx_lt_length_of_exists ⟨_, hm, by simp⟩
  refine ⟨hi, ?_⟩
  rw [List.getElem?_eq_getElem hi]
  have := List.findIdx_getElem (xs := l) (p := fun x => decide (x = (t : Int))) (w := hi)
  exact congrArg some (of_decide_eq_true this)
end Go.Proofs.Ytodjkifcbgmckaa
