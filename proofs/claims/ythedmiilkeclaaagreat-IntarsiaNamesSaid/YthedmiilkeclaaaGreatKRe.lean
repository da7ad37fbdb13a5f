/- Layer 34, plain: a pass of a colour, as the text makes it. slices.Reverse at instructions, by the shelf's contract. Layer 34, contracts: a row of instructions that a call owns; a pass of a colour. -/
import Derived.Test.YthedmiilkeclaaaGreatKRa
import Derived.Test.YthedmiilkeclaaaGreatKPa
import Derived.Test.YthedmiilkeclaaaGreatKRb
import Derived.Test.YthedmiilkeclaaaGreatKPb
import Derived.Shelf.SlicesQ.Reverse
import Derived.Deep.DeepCutAuto
namespace Go.Proofs.YthedmiilkeclaaaGreat
open Go.RowKit
open Go.Proofs.YthedmiilkeclaaaGreat.I34
set_option maxRecDepth 100000

/-- How far a needle lies behind the end that a pass comes from. -/
def distF (right : Bool) (f : Nat × Nat) (k : Nat) : Nat := if right then k - f.1 else f.2 - k
def hitB (m : Nat) (right : Bool) (k : Nat) (f : Nat × Nat) : Bool := decide (f.1 < k) && decide (k < f.2) && decide (distF right f k % m = 0)
/-- Is the needle bound by one of the floats? -/
def tuckB (fl : List (Nat × Nat)) (m : Nat) (right : Bool) (k : Nat) : Bool := fl.any (hitB m right k)
def opQ (row : List Int) (c : Int) (Q : Nat → Bool) (k : Nat) : Int := if Q k then 4 else if row.getD k 0 = c then 3 else 5
def insQ (row : List Int) (c : Int) (right : Bool) (Q : Nat → Bool) (k : Nat) : Ins := ⟨opQ row c Q k, right, 0, k, 0, c, 0⟩
def passQ (row : List Int) (c : Int) (right : Bool) (Q : Nat → Bool) : List Ins := (List.range row.length).map (insQ row c right Q)
def turnR (right : Bool) (l : List Ins) : List Ins := if right then l else l.reverse
/-- The instructions of a colour in a row. -/
def passI (row : List Int) (c : Int) (lim : Nat) (right : Bool) : List Ins := turnR right (passQ row c right (tuckB (flo row c) (lim + 1) right))
def zeroI : Ins := ⟨0, false, 0, 0, 0, 0, 0⟩
/-- The first k cells are there. -/
def passK (row : List Int) (c : Int) (right : Bool) (k : Nat) : List Ins := (List.range row.length).map fun j => if j < k then insQ row c right (fun _ => false) j else zeroI
theorem passQ_len (row : List Int) (c : Int) (right : Bool) (Q : Nat → Bool) : (passQ row c right Q).length = row.length := by simp [passQ]
theorem passK_len (row : List Int) (c : Int) (right : Bool) (k : Nat) : (passK row c right k).length = row.length := by simp [passK]
theorem passI_len (row : List Int) (c : Int) (lim : Nat) (right : Bool) : (passI row c lim right).length = row.length := by
  unfold passI turnR; split <;> simp [passQ_len]
theorem passK_zero (row : List Int) (c : Int) (right : Bool) : passK row c right 0 = List.replicate row.length zeroI := by
  unfold passK
  rw [List.map_congr_left (g := fun _ => zeroI) (fun a _ => by simp)]
  simp [List.map_const']
theorem passK_all (row : List Int) (c : Int) (right : Bool) : passK row c right row.length = passQ row c right (fun _ => false) := by
  unfold passK passQ
  apply List.map_congr_left
  intro j hj
  rw [if_pos (by simpa using hj)]
theorem passK_step {row : List Int} {c : Int} {right : Bool} {k : Nat} (_ : k < row.length) : (passK row c right k).set k (insQ row c right (fun _ => false) k) = passK row c right (k + 1) := by
  apply List.ext_getElem (by simp [passK])
  intro j h1 h2
  rw [List.getElem_set]
  simp only [passK, List.getElem_map, List.getElem_range]
  by_cases e : k = j
  · subst e; simp
  · rw [if_neg e]
    by_cases h : j < k
    · rw [if_pos h, if_pos (by omega)]
    · rw [if_neg h, if_neg (by omega)]
theorem passQ_get {row : List Int} {c : Int} {right : Bool} {Q : Nat → Bool} {k : Nat} (hk : k < row.length) : (passQ row c right Q)[k]? = some (insQ row c right Q k) := by
  unfold passQ; rw [List.getElem?_map, List.getElem?_range hk]; rfl
theorem passK_get {row : List Int} {c : Int} {right : Bool} {k j : Nat} (hj : j < row.length) (h : k ≤ j) : (passK row c right k)[j]? = some zeroI := by
  unfold passK; rw [List.getElem?_map, List.getElem?_range hj]
  simp only [Option.map_some]; rw [if_neg (by omega)]
theorem passQ_congr {row : List Int} {c : Int} {right : Bool} {Q R : Nat → Bool} (h : ∀ k, k < row.length → Q k = R k) : passQ row c right Q = passQ row c right R := by
  unfold passQ
  apply List.map_congr_left
  intro k hk
  unfold insQ opQ
  rw [h k (by simpa using hk)]
theorem passQ_set {row : List Int} {c : Int} {right : Bool} {Q : Nat → Bool} {k : Nat} (_ : k < row.length) : (passQ row c right Q).set k { insQ row c right Q k with op := 4 } = passQ row c right (fun j => Q j || decide (j = k)) := by
  apply List.ext_getElem (by simp [passQ])
  intro j h1 h2
  rw [List.getElem_set]
  simp only [passQ, List.getElem_map, List.getElem_range]
  by_cases e : k = j
  · subst e; simp [insQ, opQ]
  · rw [if_neg e]
    unfold insQ opQ
    have hd : decide (j = k) = false := decide_eq_false (fun h => e h.symm)
    simp only [hd, Bool.or_false]
/-- What the pass has bound behind some floats and, of the next one, the needles less than s steps away. -/
def tuckS (fl : List (Nat × Nat)) (m : Nat) (right : Bool) (f : Nat × Nat) (s k : Nat) : Bool := tuckB fl m right k || (hitB m right k f && decide (distF right f k < s * m))
theorem hitB_pos {m : Nat} {right : Bool} {k : Nat} {f : Nat × Nat} (h : hitB m right k f = true) : 0 < distF right f k ∧ distF right f k % m = 0 ∧ f.1 < k ∧ k < f.2 := by
  unfold hitB at h
  rw [Bool.and_eq_true, Bool.and_eq_true, decide_eq_true_iff, decide_eq_true_iff, decide_eq_true_iff] at h
  refine ⟨?_, h.2, h.1.1, h.1.2⟩
  unfold distF
  split <;> omega
theorem tuckS_one (fl : List (Nat × Nat)) (m : Nat) (right : Bool) (f : Nat × Nat) (k : Nat) : tuckS fl m right f 1 k = tuckB fl m right k := by
  unfold tuckS
  cases h : hitB m right k f with
  | false => simp
  | true =>
    obtain ⟨h1, h2, -, -⟩ := hitB_pos h
    have : ¬ distF right f k < 1 * m := fun hlt => by
      rw [Nat.one_mul] at hlt
      rw [Nat.mod_eq_of_lt hlt] at h2; omega
    rw [decide_eq_false this, Bool.and_false, Bool.or_false]
theorem mul_between {d s m : Nat} (hd : d % m = 0) (h1 : s * m ≤ d) (h2 : d < (s + 1) * m) : d = s * m := by
  have hm : 0 < m := by
    rcases Nat.eq_zero_or_pos m with e | e
    · subst e; simp at h2
    · exact e
  have h3 : d / m = s := by
    apply Nat.le_antisymm
    · exact Nat.le_of_lt_succ ((Nat.div_lt_iff_lt_mul hm).2 h2)
    · exact (Nat.le_div_iff_mul_le hm).2 h1
  have := Nat.div_add_mod d m
  rw [hd, h3, Nat.mul_comm] at this
  omega
/-- The step at the needle that lies s steps away. -/
theorem tuckS_step {fl : List (Nat × Nat)} {m : Nat} {right : Bool} {f : Nat × Nat} {s q : Nat} (hm : 0 < m) (h1 : f.1 < q) (h2 : q < f.2) (hq : distF right f q = s * m) (k : Nat) : tuckS fl m right f (s + 1) k = (tuckS fl m right f s k || decide (k = q)) := by
  unfold tuckS
  by_cases e : k = q
  · subst e
    have : hitB m right k f = true := by
      unfold hitB
      rw [hq, decide_eq_true h1, decide_eq_true h2, decide_eq_true (Nat.mul_mod_left s m)]; rfl
    rw [this, hq, decide_eq_true (show s * m < (s + 1) * m by rw [Nat.add_mul]; omega)]; simp
  · rw [decide_eq_false e, Bool.or_false]
    cases hh : hitB m right k f with
    | false => simp
    | true =>
      obtain ⟨h3, h4, h5, h6⟩ := hitB_pos hh
      have hne : distF right f k ≠ s * m := fun he => e (by
        rw [← hq] at he
        unfold distF at he
        split at he <;> omega)
      have : decide (distF right f k < (s + 1) * m) = decide (distF right f k < s * m) := by
        rw [decide_eq_decide]
        constructor
        · intro hlt
          apply Nat.lt_of_not_le
          intro hge
          exact hne (mul_between h4 hge hlt)
        · intro hlt; rw [Nat.add_mul]; omega
      rw [this]
theorem tuckS_all {fl : List (Nat × Nat)} {m : Nat} {right : Bool} {f : Nat × Nat} {s : Nat} (h : f.2 - f.1 ≤ s * m) (k : Nat) : tuckS fl m right f s k = tuckB (fl ++ [f]) m right k := by
  unfold tuckS
  have e : tuckB (fl ++ [f]) m right k = (tuckB fl m right k || hitB m right k f) := by unfold tuckB; rw [List.any_append]; simp
  rw [e]
  cases hh : hitB m right k f with
  | false => simp
  | true =>
    obtain ⟨h1, h2, h3, h4⟩ := hitB_pos hh
    have : distF right f k < s * m := by
      have : distF right f k < f.2 - f.1 := by unfold distF; split <;> omega
      omega
    rw [decide_eq_true this, Bool.and_true]
theorem tuckB_nil (m : Nat) (right : Bool) (k : Nat) : tuckB [] m right k = false := rfl
/-- Between the ends of a float no cell has its colour. -/
theorem flo_gap (row : List Int) (c : Int) : ∀ K, (∀ f ∈ (floTo row c K).1, f.2 < K ∧ ∀ k, f.1 < k → k < f.2 → row.getD k 0 ≠ c) ∧ (∀ l, (floTo row c K).2 = some l → l < K ∧ ∀ k, l < k → k < K → row.getD k 0 ≠ c)
  | 0 => ⟨fun f hf => by simp [floTo] at hf, fun l h => by simp [floTo] at h⟩
  | K + 1 => by
    obtain ⟨h1, h2⟩ := flo_gap row c K
    simp only [floTo, floStep]
    by_cases e : row.getD K 0 = c
    · simp only [e, if_true]
      refine ⟨fun f hf => ?_, fun l hl => ?_⟩
      · cases hs : (floTo row c K).2 with
        | none =>
          rw [hs] at hf
          have := h1 f hf
          exact ⟨by omega, this.2⟩
        | some l =>
          rw [hs] at hf
          simp only at hf
          split at hf
          · rcases List.mem_append.1 hf with hf | hf
            · have := h1 f hf
              exact ⟨by omega, this.2⟩
            · rw [List.mem_singleton.1 hf]
              exact ⟨by show K < K + 1; omega, fun k hk1 hk2 => (h2 l hs).2 k hk1 hk2⟩
          · have := h1 f hf
            exact ⟨by omega, this.2⟩
      · have hl' : K = l := by simpa using hl
        subst hl'
        exact ⟨by omega, fun k h3 h4 => by omega⟩
    · simp only [e, if_false]
      refine ⟨fun f hf => ?_, fun l hl => ?_⟩
      · have := h1 f hf
        exact ⟨by omega, this.2⟩
      · obtain ⟨h3, h4⟩ := h2 l hl
        refine ⟨by omega, fun k hk1 hk2 => ?_⟩
        by_cases ek : k = K
        · rw [ek]; exact e
        · exact h4 k hk1 (by omega)
theorem tuck_colour {row : List Int} {c : Int} {m : Nat} {right : Bool} {k : Nat} (h : row.getD k 0 = c) : tuckB (flo row c) m right k = false := by
  cases hb : tuckB (flo row c) m right k with
  | false => rfl
  | true =>
    unfold tuckB at hb
    obtain ⟨f, hf, hh⟩ := List.any_eq_true.1 hb
    obtain ⟨-, -, h3, h4⟩ := hitB_pos hh
    exact absurd h (((flo_gap row c row.length).1 f hf).2 k h3 h4)
end Go.Proofs.YthedmiilkeclaaaGreat
namespace Go.Proofs.YthedmiilkeclaaaGreat
open Go.RowKit Go.Shelf Go.Lib Go.Sort
set_option maxRecDepth 100000

def renR : Ren := { f := fun x => match x with | 35 => 42 | n => n, t := fun x => match x with | 22 => 25 | 23 => 31 | 3 => 3 | 4 => 4 | 0 => 0 | n => n, g := fun x => x }
theorem layR : Go.Proofs.SlLaysE0.n35 Tryz.prog renR := {
  mixed := by kernel_rfl
  f35 := ⟨Tryz.f42.name, by decide, Tryz.func42.trans rfl⟩
  t0 := Tryz.underlying0
  a0 := Tryz.isAgg0
  z0 := Tryz.sizeOf0
  v0 := Tryz.zeroValue0
  t3 := Tryz.underlying3
  a3 := Tryz.isAgg3
  z3 := Tryz.sizeOf3
  v3 := Tryz.zeroValue3
  t4 := Tryz.underlying4
  a4 := Tryz.isAgg4
  z4 := Tryz.sizeOf4
  v4 := Tryz.zeroValue4
  t22 := Tryz.underlying25
  a22 := Tryz.isAgg25
  z22 := Tryz.sizeOf25
  v22 := Tryz.zeroValue25 }

theorem cells7 (l : List Ins) : ∀ cs ∈ l.map Ins.cells, cs.length = 7 := by
  intro cs h
  obtain ⟨s, _, rfl⟩ := List.mem_map.1 h
  rfl
theorem one7' (s : Ins) : ∀ v ∈ s.cells, v.oneCell' = true := by
  intro u hu
  simp only [Ins.cells, List.mem_cons, List.not_mem_nil, or_false] at hu
  rcases hu with rfl | rfl | rfl | rfl | rfl | rfl | rfl <;> rfl
theorem one7 (l : List Ins) : ∀ u ∈ (l.map Ins.cells).flatten, u.oneCell' = true := by
  intro u hu
  obtain ⟨cs, hcs, hu⟩ := List.mem_flatten.1 hu
  obtain ⟨s, _, rfl⟩ := List.mem_map.1 hcs
  exact one7' s u hu
instance : Inhabited Ins := ⟨⟨0, false, 0, 0, 0, 0, 0⟩⟩
/-- A row of the call's own holds its instructions, none frozen. -/
theorem holds_own {w : World} {B g n cap : Nat} {t : TypeId} {l : List Ins} (hn : n = l.length) (h : w.ownsRow B t 7 (.slice (some ⟨g, 0, none⟩) n cap) n (l.map Ins.cells).flatten) : HoldsK Ins.cells 7 w g 0 l.toArray := by
  intro j hj
  rw [size_flatK, List.size_toArray] at hj
  have hlen : (l.map Ins.cells).flatten.length = l.length * 7 := by rw [flat_len (cells7 l), List.length_map]
  have hcell := h.cellAt (g := g) j (by omega)
  rw [Nat.zero_add]
  refine ⟨?_, ?_⟩
  · rw [hcell]
    have hq : j / 7 < l.length := by omega
    have h1 : (l.map Ins.cells)[j / 7]? = some l[j / 7].cells := by rw [List.getElem?_map, List.getElem?_eq_getElem hq]; rfl
    have hm : j % 7 < 7 := Nat.mod_lt _ (by omega)
    have h2 : l[j / 7].cells[j % 7]? = some (l[j / 7].cells[j % 7]'(by rw [Ins.cells_length]; exact hm)) := List.getElem?_eq_getElem _
    have h3 := flat_at (cells7 l) h1 h2
    rw [show j / 7 * 7 + j % 7 = j by omega] at h3
    rw [h3, get_flatK _ _ _ _ (by rw [List.size_toArray]; exact hj)]
    have e : l.toArray[j / 7]! = l[j / 7] := by rw [getElem!_pos _ _ (by rw [List.size_toArray]; exact hq)]; rfl
    have e2 : (l[j / 7].cells)[j % 7]! = l[j / 7].cells[j % 7]'(by rw [Ins.cells_length]; exact hm) := getElem!_pos (l[j / 7].cells) (j % 7) (by rw [Ins.cells_length]; exact hm)
    rw [e, e2]
    rfl
  · rcases h.2 with ⟨hv, _⟩ | ⟨g', cap', cur, hv, _, hh, _⟩
    · cases hv
    · cases hv
      simp only [World.frozen?, hh]
      simp
      try omega
theorem grown_mapBlock (w : World) (n blk : Nat) (f : Array Value → Array Value) : w.grownBy (mapBlock (Sort.ahead w n) blk f) (some blk) := by
  refine ⟨rfl, rfl, rfl, by simp [mapBlock, Sort.ahead], fun b _ hb => ?_⟩
  simp only [mapBlock, Sort.ahead]
  rw [Array.getElem?_modify]
  rw [if_neg (fun e => hb (by rw [e]))]
set_option maxHeartbeats 1000000 in
theorem reverse_any (g n cap B : Nat) (t : TypeId) (l : List Ins) (hn : n = l.length) (hl : l.length ≤ 9223372036854775807) (w : World) (h : w.ownsRow B t 7 (.slice (some ⟨g, 0, none⟩) n cap) n (l.map Ins.cells).flatten) :
    Calls Tryz.prog 42 #[.slice (some ⟨g, 0, none⟩) n cap] w fun e w' => e = .returned (.tuple #[]) ∧ SlX w' w'.heap.size (some ⟨g, 0, none⟩) l.reverse ∧ w.grownBy w' (some g) := by
  have hH := holds_own hn h
  have hg : g < w.heap.size := by
    rcases h.2 with ⟨hv, _⟩ | ⟨g', cap', cur, hv, _, hh, _⟩
    · cases hv
    · cases hv; exact (Array.getElem?_eq_some_iff.1 hh).1
  have hc := Go.Proofs.AnyQ.slices_Reverse layR 7 (fun w => by kernel_rfl) (fun w => by kernel_rfl) Ins.cells Ins.cells_length one7' g 0 cap l.toArray w hH (by rw [List.size_toArray]; exact hl)
  rw [List.size_toArray, ← hn] at hc
  refine Calls.mono hc ?_
  rintro e w' ⟨rfl, q, rfl⟩
  refine ⟨rfl, fun hne => ?_, grown_mapBlock _ _ _ _⟩
  have hK : HoldsK Ins.cells 7 (putRowK Ins.cells 7 (Sort.ahead w q) g 0 l.toArray.reverse) g 0 l.toArray.reverse := holdsK_putRowK _ _ _ _ _ l.toArray _ (Go.Sort.holdsK_ahead _ _ _ _ _ _ _ hH) (by simp)
  refine ⟨g, 0, rfl, by simpa [putRowK, putRow, mapBlock, Sort.ahead] using hg, fun j cs hz i v hv => ?_⟩
  rw [List.getElem?_map] at hz
  cases hr : l.reverse[j]? with
  | none => rw [hr] at hz; cases hz
  | some x =>
    rw [hr] at hz
    simp only [Option.map_some, Option.some.injEq] at hz
    subst hz
    have hj := (List.getElem?_eq_some_iff.1 hr).1
    have hi := (List.getElem?_eq_some_iff.1 hv).1
    rw [Ins.cells_length] at hi
    rw [List.length_reverse] at hj
    have := (hK (j * 7 + i) (by rw [size_flatK]; simp; omega)).1
    rw [get_flatK _ _ _ _ (by simp; omega), show (j * 7 + i) / 7 = j by omega, show (j * 7 + i) % 7 = i by omega] at this
    rw [Nat.zero_add] at this ⊢
    rw [this]
    have e : l.toArray.reverse[j]! = x := by
      rw [show l.toArray.reverse = l.reverse.toArray by simp, getElem!_pos _ _ (by simp; omega)]
      simpa using (List.getElem?_eq_some_iff.1 hr).2
    rw [e]
    have e2 : x.cells[i]! = x.cells[i]'(by rw [Ins.cells_length]; exact hi) := getElem!_pos x.cells i (by rw [Ins.cells_length]; exact hi)
    rw [e2]
    exact congrArg some (List.getElem?_eq_some_iff.1 hv).2
theorem reverse_none (w : World) : Calls Tryz.prog 42 #[.slice none 0 0] w fun e w' => e = .returned (.tuple #[]) ∧ w' = w :=
  Go.Proofs.AnyQ.slices_Reverse_empty layR none 0 w
end Go.Proofs.YthedmiilkeclaaaGreat
namespace Go.Proofs.YthedmiilkeclaaaGreat
open Go.RowKit Go.Shelf
open Go.Proofs.YthedmiilkeclaaaGreat.I34
set_option maxRecDepth 100000

theorem info_ins34 : (Tryz.prog.info? 31).map (fun i => (i.zero, i.size, i.bytes)) = some (some (.agg #[.int .u8 0, .bool false, .int .u8 0, .int .i64 0, .int .i64 0, .int .i64 0, .int .i64 0]), 7, 40) := by kernel_rfl
theorem flat_set {m : Nat} {j : Nat} (v : Value) (hj : j < m) : ∀ (L : List (List Value)) (k : Nat), (∀ cs ∈ L, cs.length = m) → k < L.length → L.flatten.set (k * m + j) v = (L.set k ((L.getD k []).set j v)).flatten
  | [], k, _, h => absurd h (Nat.not_lt_zero k)
  | a :: t, 0, hc, _ => by
    have ha := hc a List.mem_cons_self
    show (a ++ t.flatten).set (0 * m + j) v = (a.set j v) ++ t.flatten
    rw [Nat.zero_mul, Nat.zero_add, List.set_append_left _ _ (by omega)]
  | a :: t, k + 1, hc, hk => by
    have ha := hc a List.mem_cons_self
    have ih := flat_set v hj t k (fun cs h => hc cs (List.mem_cons_of_mem _ h)) (by simpa using hk)
    show (a ++ t.flatten).set ((k + 1) * m + j) v = a ++ (t.set k ((t.getD k []).set j v)).flatten
    rw [List.set_append_right _ _ (by rw [ha, Nat.add_mul]; omega), ← ih, ha]
    congr 2
    rw [Nat.add_mul]; omega
/-- A row of instructions in a block of the call's own. -/
def pxI (w : World) (B g : Nat) (l : List Ins) : Prop := w.ownsRow B 31 7 (.slice (some ⟨g, 0, none⟩) l.length l.length) l.length (l.map Ins.cells).flatten
theorem pxI.lt {w : World} {B g : Nat} {l : List Ins} (h : pxI w B g l) : B ≤ g ∧ g < w.heap.size := World.ownsRow.lt h g rfl
theorem pxI.fz {w : World} {B g : Nat} {l : List Ins} (h : pxI w B g l) (k : Nat) : w.frozen? ⟨g, k, none⟩ = false := World.ownsRow.frozenAt h k
theorem ins_cells_all (l : List Ins) : ∀ cs ∈ l.map Ins.cells, cs.length = 7 := fun cs h => by
  obtain ⟨s, _, rfl⟩ := List.mem_map.1 h
  rfl
theorem pxI.cell {w : World} {B g : Nat} {l : List Ins} (h : pxI w B g l) {k : Nat} {i : Ins} (hk : l[k]? = some i) {j : Nat} {v : Value} (hj : i.cells[j]? = some v) : w.cell? ⟨g, k * 7 + j, none⟩ = some v := by
  have hl := (List.getElem?_eq_some_iff.1 hk).1
  have hj7 := (List.getElem?_eq_some_iff.1 hj).1
  rw [Ins.cells_length] at hj7
  have hc := World.ownsRow.cellAt h (k * 7 + j) (by omega)
  rw [hc]
  exact flat_at (ins_cells_all l) (by rw [List.getElem?_map, hk]; rfl) hj
theorem pxI.at_ {w : World} {B g : Nat} {l : List Ins} (h : pxI w B g l) {k : Nat} {i : Ins} (hk : l[k]? = some i) : w.cell? ⟨g, k * 7, none⟩ = some (.int .u8 i.op) ∧ w.cell? ⟨g, k * 7 + 1, none⟩ = some (.bool i.right) ∧ w.cell? ⟨g, k * 7 + 2, none⟩ = some (.int .u8 i.bed) ∧ w.cell? ⟨g, k * 7 + 3, none⟩ = some (.int .i64 i.at_) ∧ w.cell? ⟨g, k * 7 + 4, none⟩ = some (.int .i64 i.to_) ∧ w.cell? ⟨g, k * 7 + 5, none⟩ = some (.int .i64 i.car) ∧ w.cell? ⟨g, k * 7 + 6, none⟩ = some (.int .i64 i.rack) :=
  ⟨h.cell hk (j := 0) rfl, h.cell hk (j := 1) rfl, h.cell hk (j := 2) rfl, h.cell hk (j := 3) rfl, h.cell hk (j := 4) rfl, h.cell hk (j := 5) rfl, h.cell hk (j := 6) rfl⟩
theorem pxI.stored {w : World} {B g : Nat} {l : List Ins} (h : pxI w B g l) {k : Nat} {i i' : Ins} (hk : l[k]? = some i) (j : Nat) (hj : j < 7) (v : Value) (hv : i.cells.set j v = i'.cells) : pxI (w.setCell ⟨g, k * 7 + j, none⟩ v) B g (l.set k i') := by
  have hl := (List.getElem?_eq_some_iff.1 hk).1
  have h2 := (World.ownsRow.stored h (k * 7 + j) v).1
  have e : ((l.set k i').map Ins.cells).flatten = (l.map Ins.cells).flatten.set (k * 7 + j) v := by
    rw [flat_set v hj _ k (ins_cells_all l) (by rw [List.length_map]; exact hl), List.map_set]
    congr 2
    rw [List.getD_eq_getElem?_getD, List.getElem?_map, hk]
    exact hv.symm
  unfold pxI
  rw [e, List.length_set]
  exact h2
theorem pxI.op {w : World} {B g : Nat} {l : List Ins} (h : pxI w B g l) {k : Nat} {i : Ins} (hk : l[k]? = some i) (x : Int) : pxI (w.setCell ⟨g, k * 7, none⟩ (.int .u8 x)) B g (l.set k { i with op := x }) := h.stored hk 0 (by omega) _ rfl
theorem pxI.put {w : World} {B g : Nat} {l : List Ins} (h : pxI w B g l) {k : Nat} (hk : k < l.length) (x : Ins) : pxI (((((((w.setCell ⟨g, k * 7, none⟩ (.int .u8 x.op)).setCell ⟨g, k * 7 + 1, none⟩ (.bool x.right)).setCell ⟨g, k * 7 + 2, none⟩ (.int .u8 x.bed)).setCell ⟨g, k * 7 + 3, none⟩ (.int .i64 x.at_)).setCell ⟨g, k * 7 + 4, none⟩ (.int .i64 x.to_)).setCell ⟨g, k * 7 + 5, none⟩ (.int .i64 x.car)).setCell ⟨g, k * 7 + 6, none⟩ (.int .i64 x.rack)) B g (l.set k x) := by
  have hs : ∀ {l' : List Ins} {y : Ins}, l'.length = l.length → (l'.set k y)[k]? = some y := fun e => List.getElem?_set_self (by rw [e]; exact hk)
  have h0 := h.stored (List.getElem?_eq_getElem hk) (i' := { l[k] with op := x.op }) 0 (by omega) (.int .u8 x.op) rfl
  have h1 := h0.stored (hs rfl) (i' := { l[k] with op := x.op, right := x.right }) 1 (by omega) (.bool x.right) rfl
  have h2 := h1.stored (hs (by simp)) (i' := { l[k] with op := x.op, right := x.right, bed := x.bed }) 2 (by omega) (.int .u8 x.bed) rfl
  have h3 := h2.stored (hs (by simp)) (i' := { l[k] with op := x.op, right := x.right, bed := x.bed, at_ := x.at_ }) 3 (by omega) (.int .i64 x.at_) rfl
  have h4 := h3.stored (hs (by simp)) (i' := { l[k] with op := x.op, right := x.right, bed := x.bed, at_ := x.at_, to_ := x.to_ }) 4 (by omega) (.int .i64 x.to_) rfl
  have h5 := h4.stored (hs (by simp)) (i' := { l[k] with op := x.op, right := x.right, bed := x.bed, at_ := x.at_, to_ := x.to_, car := x.car }) 5 (by omega) (.int .i64 x.car) rfl
  have h6 := h5.stored (hs (by simp)) (i' := x) 6 (by omega) (.int .i64 x.rack) rfl
  simp only [List.set_set] at h6
  exact h6
theorem pxI.to {w w' : World} {B g : Nat} {l : List Ins} (h : pxI w B g l) (hb : Below w.heap.size w w') : pxI w' B g l := own_below h hb (Nat.le_refl _)
theorem pxI.sl {w : World} {B g : Nat} {l : List Ins} (h : pxI w B g l) : SlX w w.heap.size (some ⟨g, 0, none⟩) l := fun hne => by
  refine ⟨g, 0, rfl, h.lt.2, fun j cs hz i v hv => ?_⟩
  rw [List.getElem?_map] at hz
  cases hl : l[j]? with
  | none => rw [hl] at hz; cases hz
  | some x =>
    rw [hl] at hz
    simp only [Option.map_some, Option.some.injEq] at hz
    subst hz
    rw [Nat.zero_add]
    exact h.cell hl hv
theorem made_flat7 (n : Nat) : (madeCells (Value.agg #[.int .u8 0, .bool false, .int .u8 0, .int .i64 0, .int .i64 0, .int .i64 0, .int .i64 0]).cells (n * 7)).toList = ((List.replicate n zeroI).map Ins.cells).flatten := by
  have hlen : ((List.replicate n zeroI).map Ins.cells).flatten.length = n * 7 := by rw [flat_len (ins_cells_all _), List.length_map, List.length_replicate]
  apply List.ext_getElem?
  intro q
  by_cases hq : q < n * 7
  · have hk : q / 7 < n := by omega
    have h1 : ((List.replicate n zeroI).map Ins.cells)[q / 7]? = some zeroI.cells := by rw [List.getElem?_map, List.getElem?_replicate, if_pos hk]; rfl
    have hm : q % 7 < 7 := Nat.mod_lt _ (by omega)
    have h2 : zeroI.cells[q % 7]? = some (zeroI.cells[q % 7]'(by rw [Ins.cells_length]; exact hm)) := List.getElem?_eq_getElem _
    have h3 := flat_at (ins_cells_all _) h1 h2
    rw [show q / 7 * 7 + q % 7 = q by omega] at h3
    rw [h3]
    unfold madeCells
    rw [Array.getElem?_toList, Array.getElem?_map, Array.getElem?_range, if_pos hq]
    show some ((#[.int .u8 0, .bool false, .int .u8 0, .int .i64 0, .int .i64 0, .int .i64 0, .int .i64 0] : Array Value)[q % 7]!) = _
    generalize q % 7 = i at hm
    rcases (by omega : i = 0 ∨ i = 1 ∨ i = 2 ∨ i = 3 ∨ i = 4 ∨ i = 5 ∨ i = 6) with rfl | rfl | rfl | rfl | rfl | rfl | rfl <;> rfl
  · rw [List.getElem?_eq_none (by rw [Array.length_toList, size_madeCells]; omega), List.getElem?_eq_none (by omega)]
theorem mk_ins (w : World) (n : Nat) (hn : n ≤ 1000000) : ∃ w', (Instr.makeSlice 25 (.int .i64 (n : Int)) (.int .i64 (n : Int))).run Tryz.prog w = .ok (.slice (some ⟨w.heap.size, 0, none⟩) n n) w' ∧ pxI w' w.heap.size w.heap.size (List.replicate n zeroI) ∧ Below w.heap.size w w' := by
  obtain ⟨i0, hi, hz0, hz1, hz2⟩ := info_parts info_ins34
  obtain ⟨w3, hmr, hob, hgb⟩ := run_make_full (P := Tryz.prog) w w.heap.size 25 31 i0 _ 7 Tryz.underlying25 hi hz0 hz1 .i64 .i64 n (by rw [hz2]; omega) (by unfold maxLen; omega) (Nat.le_refl _)
  refine ⟨w3, hmr, ?_, Below.of_grown hgb (Nat.le_refl _) (fun k e => by cases e)⟩
  unfold pxI
  rw [List.length_replicate]
  rw [← made_flat7]
  exact hob
/-- Floats that lie in a block behind g. -/
def FlA (g : Nat) (W : World) (a : Option Addr) (l : List (Nat × Nat)) : Prop :=
  l ≠ [] → ∃ b, a = some ⟨b, 0, none⟩ ∧ g < b ∧ b < W.heap.size ∧ ∀ j f, l[j]? = some f → W.cell? ⟨b, j * 2, none⟩ = some (.int .i64 (f.1 : Int)) ∧ W.cell? ⟨b, j * 2 + 1, none⟩ = some (.int .i64 (f.2 : Int))
theorem FlA.to {g : Nat} {W W' : World} {a : Option Addr} {l : List (Nat × Nat)} (h : FlA g W a l) (hb : Below W.heap.size W W') : FlA g W' a l := fun hn => by
  obtain ⟨b, e, h1, h2, h3⟩ := h hn
  exact ⟨b, e, h1, Nat.lt_of_lt_of_le h2 hb.size, fun j f hf => ⟨(bcell hb h2 _).trans (h3 j f hf).1, (bcell hb h2 _).trans (h3 j f hf).2⟩⟩
theorem FlA.set {g : Nat} {W : World} {a : Option Addr} {l : List (Nat × Nat)} (h : FlA g W a l) (k : Nat) (v : Value) : FlA g (W.setCell ⟨g, k, none⟩ v) a l := fun hn => by
  obtain ⟨b, e, h1, h2, h3⟩ := h hn
  have hb : ∀ o u, W.cell? ⟨b, o, none⟩ = some u → (W.setCell ⟨g, k, none⟩ v).cell? ⟨b, o, none⟩ = some u := fun o u hu => by
    rw [World.cell?_setCell_other _ _ _ _ (by intro e; injection e; omega)]; exact hu
  exact ⟨b, e, h1, by simpa using h2, fun j f hf => ⟨hb _ _ (h3 j f hf).1, hb _ _ (h3 j f hf).2⟩⟩
theorem FlA.of_own {g B c : Nat} {W : World} {a : Option Addr} {l : List (Nat × Nat)} (h : W.ownsRow B 75 2 (.slice a l.length c) l.length (pairCells l)) (hB : g < B) : FlA g W a l := fun hn => by
  obtain ⟨b, rfl, h1, h2, h3⟩ := own_pos h (List.length_pos_iff.2 hn)
  refine ⟨b, rfl, by omega, h2, fun j f hf => ?_⟩
  have hl := (List.getElem?_eq_some_iff.1 hf).1
  obtain ⟨p1, p2⟩ := pairCells_at hf
  exact ⟨(h3 _ (by omega)).trans p1, (h3 _ (by omega)).trans p2⟩
/-- What is known while the floats are bound. -/
structure PsA (w : World) (row : List Int) (c : Int) (right : Bool) (Q : Nat → Bool) (a : Option Addr) (fl : List (Nat × Nat)) (W : World) : Prop where
  row : pxI W w.heap.size w.heap.size (passQ row c right Q)
  fl : FlA w.heap.size W a fl
  lo : Below w.heap.size w W
theorem PsA.to {w W W' : World} {row : List Int} {c : Int} {right : Bool} {Q : Nat → Bool} {a : Option Addr} {fl : List (Nat × Nat)} (h : PsA w row c right Q a fl W) (hb : Below W.heap.size W W') : PsA w row c right Q a fl W' := ⟨h.row.to hb, h.fl.to hb, h.lo.trans (hb.mono h.lo.size)⟩
theorem PsA.tuck {w W : World} {row : List Int} {c : Int} {right : Bool} {Q R : Nat → Bool} {a : Option Addr} {fl : List (Nat × Nat)} (h : PsA w row c right Q a fl W) {k : Nat} (hk : k < row.length) (hR : ∀ j, R j = (Q j || decide (j = k))) : PsA w row c right R a fl (W.setCell ⟨w.heap.size, k * 7, none⟩ (.int .u8 4)) := by
  have h1 := h.row.op (passQ_get hk) 4
  rw [passQ_set hk, passQ_congr (R := R) (fun j _ => (hR j).symm)] at h1
  exact ⟨h1, h.fl.set _ _, h.lo.setCell (p := ⟨w.heap.size, k * 7, none⟩) (Nat.le_refl _) _⟩
theorem PsA.congr {w W : World} {row : List Int} {c : Int} {right : Bool} {Q R : Nat → Bool} {a : Option Addr} {fl : List (Nat × Nat)} (h : PsA w row c right Q a fl W) (hR : ∀ j, R j = Q j) : PsA w row c right R a fl W := by
  refine ⟨?_, h.fl, h.lo⟩
  rw [passQ_congr (R := Q) (fun j _ => hR j)]
  exact h.row
theorem PsA.cells {w W : World} {row : List Int} {c : Int} {right : Bool} {Q : Nat → Bool} {a : Option Addr} {fl : List (Nat × Nat)} (h : PsA w row c right Q a fl W) {k : Nat} (hk : k < row.length) : (∃ v, W.cell? ⟨w.heap.size, k * 7, none⟩ = some (.int .u8 v)) ∧ W.frozen? ⟨w.heap.size, k * 7, none⟩ = false := ⟨⟨_, (h.row.at_ (passQ_get hk)).1⟩, h.row.fz _⟩
/-- The box of a float. -/
def FBx (b : Nat) (f : Nat × Nat) (W : World) : Prop := W.cell? ⟨b, 0, none⟩ = some (.int .i64 (f.1 : Int)) ∧ W.cell? ⟨b, 1, none⟩ = some (.int .i64 (f.2 : Int))
theorem FBx.set {b g : Nat} {f : Nat × Nat} {W : World} (h : FBx b f W) (hg : g < b) (k : Nat) (v : Value) : FBx b f (W.setCell ⟨g, k, none⟩ v) :=
  ⟨by rw [World.cell?_setCell_other _ _ _ _ (by intro e; injection e; omega)]; exact h.1, by rw [World.cell?_setCell_other _ _ _ _ (by intro e; injection e; omega)]; exact h.2⟩
set_option maxHeartbeats 16000000 in
theorem pass_true (A : Option Addr) (c : Nat) (row : List Int) (colour : Int) (lim : Nat) (w : World) (h : SlI w w.heap.size A row) (hn : row.length ≤ 101) (hl : lim ≤ 40) :
    Calls Tryz.prog 21 #[.slice A row.length c, .int .i64 colour, .int .i64 lim, .bool true] w fun e w' => ∃ g, e = .returned (.slice (some ⟨g, 0, none⟩) row.length row.length) ∧ SlX w' w'.heap.size (some ⟨g, 0, none⟩) (passI row colour lim true) ∧ Below w.heap.size w w' := by
  obtain ⟨w1, hmk, hrow, hb1⟩ := mk_ins w row.length (by omega)
  have hmr : (Instr.makeSlice 25 (.int .i64 (row.length : Int)) (.int .i64 (row.length : Int))).run Tryz.prog w = .ok (.slice (some ⟨w.heap.size, 0, none⟩) row.length row.length) w1 := hmk
  have HS := Lib.hid h
  rw [← passK_zero row colour true] at hrow
  have HX : Hid (pxI w1 w.heap.size w.heap.size (passK row colour true 0) ∧ Below w.heap.size w w1) := ⟨hrow, hb1⟩
  clear hmk hrow hb1 h
  go_enter Tryz.func21, Tryz.ntmps21
  go_upto_region 3 with fail
  clear hmr
  refine abs_world (Q := fun W => Code.wp _ _ _ _ W) (F := fun W => pxI W w.heap.size w.heap.size (passK row colour true 0) ∧ Below w.heap.size w W) _ HX.out ?_
  clear HX
  rintro W1 ⟨hr1, hb1⟩
  have HR1 := Lib.hid hr1
  have HB1 := Lib.hid hb1
  clear hr1 hb1 w1
  go_wp2
  go_loopw [22] (fun i wr => ∃ k : Nat, k ≤ row.length ∧ i = .int .i64 (k : Int) ∧ Hid (pxI wr w.heap.size w.heap.size (passK row colour true k)) ∧ Hid (Below w.heap.size w wr)) (fun i _ => row.length - (intOf i).toNat)
  case atStart => exact ⟨0, Nat.zero_le _, rfl, HR1.out, HB1.out⟩
  case round =>
    obtain ⟨k, hk, rfl, HR, HB⟩ := hrel
    clear HR1 HB1
    by_cases hlt : k < row.length
    case pos =>
      obtain ⟨b, off, z, hA, hB, hz, hcz⟩ := HS.out.at_ hlt
      have hc := (bcell HB.out hB _).trans hcz
      subst hA
      have HZ : Hid (row.getD k 0 = z) := by show row.getD k 0 = z; rw [List.getD_eq_getElem?_getD, hz]; rfl
      obtain ⟨y0, y1, y2, y3, y4, y5, y6⟩ := HR.out.at_ (passK_get hlt (Nat.le_refl k))
      have yf := HR.out.fz
      have HP : Hid (∀ op : Int, op = opQ row colour (fun _ => false) k → pxI (((((((wr.setCell ⟨w.heap.size, k * 7, none⟩ (.int .u8 op)).setCell ⟨w.heap.size, k * 7 + 1, none⟩ (.bool true)).setCell ⟨w.heap.size, k * 7 + 2, none⟩ (.int .u8 0)).setCell ⟨w.heap.size, k * 7 + 3, none⟩ (.int .i64 (k : Int))).setCell ⟨w.heap.size, k * 7 + 4, none⟩ (.int .i64 0)).setCell ⟨w.heap.size, k * 7 + 5, none⟩ (.int .i64 colour)).setCell ⟨w.heap.size, k * 7 + 6, none⟩ (.int .i64 0)) w.heap.size w.heap.size (passK row colour true (k + 1))) := fun op ho => by
        have h := HR.out.put (by rw [passK_len]; exact hlt) (insQ row colour true (fun _ => false) k)
        rw [passK_step hlt] at h
        subst ho
        exact h
      have HP5 : Hid (pxI (((((((wr.setCell ⟨w.heap.size, k * 7, none⟩ (.int .u8 5)).setCell ⟨w.heap.size, k * 7 + 1, none⟩ (.bool true)).setCell ⟨w.heap.size, k * 7 + 2, none⟩ (.int .u8 0)).setCell ⟨w.heap.size, k * 7 + 3, none⟩ (.int .i64 (k : Int))).setCell ⟨w.heap.size, k * 7 + 4, none⟩ (.int .i64 0)).setCell ⟨w.heap.size, k * 7 + 5, none⟩ (.int .i64 colour)).setCell ⟨w.heap.size, k * 7 + 6, none⟩ (.int .i64 0)) w.heap.size w.heap.size ((passK row colour true k).set k ⟨5, true, 0, k, 0, colour, 0⟩)) := HR.out.put (by rw [passK_len]; exact hlt) ⟨5, true, 0, k, 0, colour, 0⟩
      have HBs : Hid (Below w.heap.size w (((((((wr.setCell ⟨w.heap.size, k * 7, none⟩ (.int .u8 5)).setCell ⟨w.heap.size, k * 7 + 1, none⟩ (.bool true)).setCell ⟨w.heap.size, k * 7 + 2, none⟩ (.int .u8 0)).setCell ⟨w.heap.size, k * 7 + 3, none⟩ (.int .i64 (k : Int))).setCell ⟨w.heap.size, k * 7 + 4, none⟩ (.int .i64 0)).setCell ⟨w.heap.size, k * 7 + 5, none⟩ (.int .i64 colour)).setCell ⟨w.heap.size, k * 7 + 6, none⟩ (.int .i64 0))) := ((((((HB.out.setCell (p := ⟨w.heap.size, k * 7, none⟩) (Nat.le_refl _) _).setCell (p := ⟨w.heap.size, k * 7 + 1, none⟩) (Nat.le_refl _) _).setCell (p := ⟨w.heap.size, k * 7 + 2, none⟩) (Nat.le_refl _) _).setCell (p := ⟨w.heap.size, k * 7 + 3, none⟩) (Nat.le_refl _) _).setCell (p := ⟨w.heap.size, k * 7 + 4, none⟩) (Nat.le_refl _) _).setCell (p := ⟨w.heap.size, k * 7 + 5, none⟩) (Nat.le_refl _) _).setCell (p := ⟨w.heap.size, k * 7 + 6, none⟩) (Nat.le_refl _) _
      clear hz hcz
      have HLt := Lib.hid hlt
      go_upto_region 6 with fail
      refine abs_world (Q := fun W => Code.wp _ _ _ _ W) (F := fun W => pxI W w.heap.size w.heap.size ((passK row colour true k).set k ⟨5, true, 0, k, 0, colour, 0⟩) ∧ Below w.heap.size w W) _ ⟨HP5.out, HBs.out⟩ ?_
      clear y0 y1 y2 y3 y4 y5 y6 yf HP HP5 HBs hc HR HB
      rintro W2 ⟨hr2, hb2⟩
      have hg2 : ((passK row colour true k).set k ⟨5, true, 0, k, 0, colour, 0⟩)[k]? = some ⟨5, true, 0, k, 0, colour, 0⟩ := List.getElem?_set_self (by rw [passK_len]; exact HLt.out)
      have y0 : W2.cell? ⟨w.heap.size, k * 7, none⟩ = some (.int .u8 5) := (hr2.at_ hg2).1
      have yf := hr2.fz
      have hop := hr2.op hg2 3
      rw [List.set_set] at hop
      have HOp := Lib.hid hop
      have HR2 := Lib.hid hr2
      have HB2 := Lib.hid hb2
      have HBs := Lib.hid (hb2.setCell (p := ⟨w.heap.size, k * 7, none⟩) (Nat.le_refl _) (.int .u8 3))
      clear hr2 hb2 hg2 hop hlt
      by_cases he : z = colour
      case pos =>
        have e1 : (z == colour) = true := beq_iff_eq.2 he
        have HQ : Hid ((passK row colour true k).set k ⟨3, true, 0, k, 0, colour, 0⟩ = passK row colour true (k + 1)) := by
          show _ = _
          rw [← passK_step HLt.out]
          unfold insQ opQ
          rw [if_neg (by simp), if_pos (HZ.out.trans he)]
        clear he
        go_wp2
        go_roundw
        case rel => exact ⟨k + 1, by have := HLt.out; omega, by go_num, HQ.out ▸ HOp.out, HBs.out⟩
        case measure => simp [intOf]; have := HLt.out; omega
      case neg =>
        have e1 : (z == colour) = false := beq_eq_false_iff_ne.2 he
        have HQ : Hid ((passK row colour true k).set k ⟨5, true, 0, k, 0, colour, 0⟩ = passK row colour true (k + 1)) := by
          show _ = _
          rw [← passK_step HLt.out]
          unfold insQ opQ
          rw [if_neg (by simp), if_neg (by rw [HZ.out]; exact he)]
        clear he y0 yf
        go_wp2
        go_roundw
        case rel => exact ⟨k + 1, by have := HLt.out; omega, by go_num, HQ.out ▸ HR2.out, HB2.out⟩
        case measure => simp [intOf]; have := HLt.out; omega
    case neg =>
      obtain rfl : k = row.length := by omega
      have hq := HR.out
      rw [passK_all] at hq
      have HQ := Lib.hid hq
      have HFl := Lib.hid (floats_any A c row colour wr ((HS.out.below HB.out).more HB.out.size) (by omega))
      clear hq HR hk hlt
      go_upto_region 10 with ((go_at_call 27; refine HFl.out.mono ?_; intro e w2 ho; obtain ⟨v, rfl, hown, hb2⟩ := ho; obtain ⟨fa, fc, rfl⟩ := own_form hown))
      have HA : Hid (PsA w row colour true (fun _ => false) fa (flo row colour) w2) := ⟨HQ.out.to hb2, FlA.of_own hown HQ.out.lt.2, HB.out.trans (hb2.mono HB.out.size)⟩
      clear HFl HQ HB hb2 hown
      have HFr := Lib.hid (flo_row row colour)
      obtain ⟨fl, hfl⟩ : ∃ fl, fl = flo row colour := ⟨_, rfl⟩
      have hlen : fl.length ≤ 1000 := by have := floTo_len row colour row.length; rw [hfl]; unfold flo; omega
      rw [← hfl] at HA HFr ⊢
      have HFl := Lib.hid hfl
      clear hfl
      refine abs_world (Q := fun W => Code.wp _ _ _ _ W) (F := fun W => PsA w row colour true (fun _ => false) fa fl W) _ HA.out ?_
      clear HA
      intro W3 hA3
      have HA3 := Lib.hid hA3
      clear hA3
      go_wp2
      go_loopw [46] (fun i wr => ∃ j : Nat, j ≤ fl.length ∧ i = .int .i64 (j : Int) ∧ Hid (PsA w row colour true (tuckB (fl.take j) (lim + 1) true) fa fl wr)) (fun i _ => fl.length - (intOf i).toNat)
      case atStart => exact ⟨0, Nat.zero_le _, rfl, HA3.out⟩
      case round =>
        obtain ⟨j, hj, rfl, HA⟩ := hrel
        clear HA3
        obtain ⟨wo, hwo⟩ : ∃ wo : World, wo = wr := ⟨_, rfl⟩
        rw [← hwo] at HA ⊢
        clear hwo
        by_cases hlt : j < fl.length
        case pos =>
          obtain ⟨fb, hfa, hgb, hbl, hfc⟩ := HA.out.fl (fun e => by rw [e] at hlt; exact absurd hlt (Nat.not_lt_zero _))
          subst hfa
          have hf : fl[j]? = some fl[j] := List.getElem?_eq_getElem hlt
          obtain ⟨f, hfe⟩ : ∃ f, f = fl[j] := ⟨_, rfl⟩
          rw [← hfe] at hf
          obtain ⟨q0, q1⟩ := hfc j f hf
          obtain ⟨f1, f2⟩ := Row.bounds HFr.out hf
          have HTk : Hid (fl.take (j + 1) = fl.take j ++ [f]) := by show _ = _; rw [List.take_add_one, hf]; rfl
          have HX : Hid (PsA w row colour true (tuckB (fl.take j) (lim + 1) true) (some ⟨fb, 0, none⟩) fl (wo.alloc (.cells #[.int .i64 (f.1 : Int), .int .i64 (f.2 : Int)] 75)) ∧ FBx wo.heap.size f (wo.alloc (.cells #[.int .i64 (f.1 : Int), .int .i64 (f.2 : Int)] 75)) ∧ w.heap.size < wo.heap.size) := ⟨HA.out.to ((Below.refl _ _).alloc (Nat.le_refl _) _), ⟨cell_new rfl rfl rfl, cell_new rfl rfl rfl⟩, HA.out.row.lt.2⟩
          clear hfc hfe hf hbl HA
          go_upto_region 12 with fail
          refine abs_world (Q := fun W => Code.wp _ _ _ _ W) (F := fun W => PsA w row colour true (tuckB (fl.take j) (lim + 1) true) (some ⟨fb, 0, none⟩) fl W ∧ FBx wo.heap.size f W ∧ w.heap.size < wo.heap.size) _ HX.out ?_
          clear HX q0 q1
          obtain ⟨pb, hpb⟩ : ∃ pb, pb = wo.heap.size := ⟨_, rfl⟩
          rw [← hpb]
          clear hpb
          rintro W4 ⟨hA4, hF4, hgp⟩
          have HA4 := Lib.hid hA4
          obtain ⟨x0, x1⟩ := hF4
          have HF4 : Hid (FBx pb f W4) := ⟨x0, x1⟩
          clear hA4
          have hL1 : (lim : Int) + 1 ≤ 41 := by omega
          have HA5 : Hid (PsA w row colour true (tuckS (fl.take j) (lim + 1) true f 1) (some ⟨fb, 0, none⟩) fl W4) := HA4.out.congr (fun k => tuckS_one _ _ _ _ k)
          go_upto_region 16 with fail
          go_wp2
          go_loopw [16] (fun s16 wr => ∃ (s P : Nat) (q : Int), s16 = .int .i64 q ∧ -50 ≤ q ∧ q ≤ 150 ∧ 1 ≤ s ∧ Hid (P = s * (lim + 1)) ∧ Hid (q = (f.1 : Int) + (P : Int)) ∧ Hid (PsA w row colour true (tuckS (fl.take j) (lim + 1) true f s) (some ⟨fb, 0, none⟩) fl wr) ∧ Hid (FBx pb f wr)) (fun s16 _ => f.2 - (intOf s16).toNat)
          case atStart => exact ⟨1, lim + 1, _, rfl, by omega, by omega, by omega, by show _ = _; rw [Nat.one_mul], by show _ = _; omega, HA5.out, HF4.out⟩
          case round =>
            obtain ⟨s, P, q, rfl, hq1, hq2, hs1, HP, HE, HA6, HF6⟩ := hrel
            clear HA5 HA4 HF4 x0 x1
            obtain ⟨x0, x1⟩ := HF6.out
            have hP0 : Hid (1 ≤ P) := by show 1 ≤ P; rw [HP.out]; exact Nat.mul_pos hs1 (by omega)
            by_cases hin : (f.1 : Int) < q ∧ q < (f.2 : Int)
            case pos =>
              obtain ⟨hi1, hi2⟩ := hin
              obtain ⟨kq, hkq⟩ : ∃ kq : Nat, q = (kq : Int) := ⟨q.toNat, by omega⟩
              subst hkq
              have hk1 : f.1 < kq := by omega
              have hk2 : kq < f.2 := by omega
              have hkl : kq < row.length := by omega
              have d1 : decide (f.1 < kq) = true := decide_eq_true hk1
              have d2 : decide (kq < f.2) = true := decide_eq_true hk2
              obtain ⟨⟨v0, y0⟩, yf⟩ := HA6.out.cells hkl
              have HA7 := Lib.hid (HA6.out.tuck hkl (R := tuckS (fl.take j) (lim + 1) true f (s + 1)) (fun k => tuckS_step (by omega) hk1 hk2 (by have := HE.out; unfold distF; (first | rw [if_pos rfl] | rw [if_neg (by decide)]); rw [← HP.out]; omega) k))
              have HF7 := Lib.hid (HF6.out.set hgp (kq * 7) (.int .u8 4))
              have HI := Lib.hid hi2
              clear hi1 hi2 HA6 HF6
              go_wp2
              go_roundw
              case rel => exact ⟨s + 1, P + (lim + 1), _, rfl, by omega, by omega, by omega, by show _ = _; rw [HP.out, Nat.add_mul s 1, Nat.one_mul], by show _ = _; have := HE.out; omega, HA7.out, HF7.out⟩
              case measure => simp [intOf]; omega
            case neg =>
              have HN := Lib.hid hin
              have HA7 : Hid (PsA w row colour true (tuckB (fl.take (j + 1)) (lim + 1) true) (some ⟨fb, 0, none⟩) fl wr) := HA6.out.congr (fun k => by
                rw [HTk.out]
                refine (tuckS_all ?_ k).symm
                have := HE.out; have := hP0.out
                rw [← HP.out]; omega)
              have d1 : decide ((f.1 : Int) < q) = true := decide_eq_true (by have := HE.out; have := hP0.out; omega)
              have d2 : decide (q < (f.2 : Int)) = false := decide_eq_false (fun h => hin ⟨by have := HE.out; have := hP0.out; omega, h⟩)
              clear hin HA6
              go_wp2
              go_roundw
              case rel => exact ⟨j + 1, by omega, by go_num, HA7.out⟩
              case measure => simp [intOf]; omega
        case neg =>
          obtain rfl : j = fl.length := by omega
          have hA := HA.out
          rw [List.take_length] at hA
          have hs : SlX wo wo.heap.size (some ⟨w.heap.size, 0, none⟩) (passI row colour lim true) := by
            have h := hA.row.sl
            rw [HFl.out] at h
            exact h
          have HS2 := Lib.hid hs
          have HB2 := Lib.hid hA.lo
          clear hA hs HA hj hlt
          go_wp2
          go_ret
          exact ⟨_, rfl, HS2.out, HB2.out⟩
set_option maxHeartbeats 16000000 in
theorem pass_false (A : Option Addr) (c : Nat) (row : List Int) (colour : Int) (lim : Nat) (w : World) (h : SlI w w.heap.size A row) (hn : row.length ≤ 101) (hl : lim ≤ 40) :
    Calls Tryz.prog 21 #[.slice A row.length c, .int .i64 colour, .int .i64 lim, .bool false] w fun e w' => ∃ g, e = .returned (.slice (some ⟨g, 0, none⟩) row.length row.length) ∧ SlX w' w'.heap.size (some ⟨g, 0, none⟩) (passI row colour lim false) ∧ Below w.heap.size w w' := by
  obtain ⟨w1, hmk, hrow, hb1⟩ := mk_ins w row.length (by omega)
  have hmr : (Instr.makeSlice 25 (.int .i64 (row.length : Int)) (.int .i64 (row.length : Int))).run Tryz.prog w = .ok (.slice (some ⟨w.heap.size, 0, none⟩) row.length row.length) w1 := hmk
  have HS := Lib.hid h
  rw [← passK_zero row colour false] at hrow
  have HX : Hid (pxI w1 w.heap.size w.heap.size (passK row colour false 0) ∧ Below w.heap.size w w1) := ⟨hrow, hb1⟩
  clear hmk hrow hb1 h
  go_enter Tryz.func21, Tryz.ntmps21
  go_upto_region 3 with fail
  clear hmr
  refine abs_world (Q := fun W => Code.wp _ _ _ _ W) (F := fun W => pxI W w.heap.size w.heap.size (passK row colour false 0) ∧ Below w.heap.size w W) _ HX.out ?_
  clear HX
  rintro W1 ⟨hr1, hb1⟩
  have HR1 := Lib.hid hr1
  have HB1 := Lib.hid hb1
  clear hr1 hb1 w1
  go_wp2
  go_loopw [22] (fun i wr => ∃ k : Nat, k ≤ row.length ∧ i = .int .i64 (k : Int) ∧ Hid (pxI wr w.heap.size w.heap.size (passK row colour false k)) ∧ Hid (Below w.heap.size w wr)) (fun i _ => row.length - (intOf i).toNat)
  case atStart => exact ⟨0, Nat.zero_le _, rfl, HR1.out, HB1.out⟩
  case round =>
    obtain ⟨k, hk, rfl, HR, HB⟩ := hrel
    clear HR1 HB1
    by_cases hlt : k < row.length
    case pos =>
      obtain ⟨b, off, z, hA, hB, hz, hcz⟩ := HS.out.at_ hlt
      have hc := (bcell HB.out hB _).trans hcz
      subst hA
      have HZ : Hid (row.getD k 0 = z) := by show row.getD k 0 = z; rw [List.getD_eq_getElem?_getD, hz]; rfl
      obtain ⟨y0, y1, y2, y3, y4, y5, y6⟩ := HR.out.at_ (passK_get hlt (Nat.le_refl k))
      have yf := HR.out.fz
      have HP : Hid (∀ op : Int, op = opQ row colour (fun _ => false) k → pxI (((((((wr.setCell ⟨w.heap.size, k * 7, none⟩ (.int .u8 op)).setCell ⟨w.heap.size, k * 7 + 1, none⟩ (.bool false)).setCell ⟨w.heap.size, k * 7 + 2, none⟩ (.int .u8 0)).setCell ⟨w.heap.size, k * 7 + 3, none⟩ (.int .i64 (k : Int))).setCell ⟨w.heap.size, k * 7 + 4, none⟩ (.int .i64 0)).setCell ⟨w.heap.size, k * 7 + 5, none⟩ (.int .i64 colour)).setCell ⟨w.heap.size, k * 7 + 6, none⟩ (.int .i64 0)) w.heap.size w.heap.size (passK row colour false (k + 1))) := fun op ho => by
        have h := HR.out.put (by rw [passK_len]; exact hlt) (insQ row colour false (fun _ => false) k)
        rw [passK_step hlt] at h
        subst ho
        exact h
      have HP5 : Hid (pxI (((((((wr.setCell ⟨w.heap.size, k * 7, none⟩ (.int .u8 5)).setCell ⟨w.heap.size, k * 7 + 1, none⟩ (.bool false)).setCell ⟨w.heap.size, k * 7 + 2, none⟩ (.int .u8 0)).setCell ⟨w.heap.size, k * 7 + 3, none⟩ (.int .i64 (k : Int))).setCell ⟨w.heap.size, k * 7 + 4, none⟩ (.int .i64 0)).setCell ⟨w.heap.size, k * 7 + 5, none⟩ (.int .i64 colour)).setCell ⟨w.heap.size, k * 7 + 6, none⟩ (.int .i64 0)) w.heap.size w.heap.size ((passK row colour false k).set k ⟨5, false, 0, k, 0, colour, 0⟩)) := HR.out.put (by rw [passK_len]; exact hlt) ⟨5, false, 0, k, 0, colour, 0⟩
      have HBs : Hid (Below w.heap.size w (((((((wr.setCell ⟨w.heap.size, k * 7, none⟩ (.int .u8 5)).setCell ⟨w.heap.size, k * 7 + 1, none⟩ (.bool false)).setCell ⟨w.heap.size, k * 7 + 2, none⟩ (.int .u8 0)).setCell ⟨w.heap.size, k * 7 + 3, none⟩ (.int .i64 (k : Int))).setCell ⟨w.heap.size, k * 7 + 4, none⟩ (.int .i64 0)).setCell ⟨w.heap.size, k * 7 + 5, none⟩ (.int .i64 colour)).setCell ⟨w.heap.size, k * 7 + 6, none⟩ (.int .i64 0))) := ((((((HB.out.setCell (p := ⟨w.heap.size, k * 7, none⟩) (Nat.le_refl _) _).setCell (p := ⟨w.heap.size, k * 7 + 1, none⟩) (Nat.le_refl _) _).setCell (p := ⟨w.heap.size, k * 7 + 2, none⟩) (Nat.le_refl _) _).setCell (p := ⟨w.heap.size, k * 7 + 3, none⟩) (Nat.le_refl _) _).setCell (p := ⟨w.heap.size, k * 7 + 4, none⟩) (Nat.le_refl _) _).setCell (p := ⟨w.heap.size, k * 7 + 5, none⟩) (Nat.le_refl _) _).setCell (p := ⟨w.heap.size, k * 7 + 6, none⟩) (Nat.le_refl _) _
      clear hz hcz
      have HLt := Lib.hid hlt
      go_upto_region 6 with fail
      refine abs_world (Q := fun W => Code.wp _ _ _ _ W) (F := fun W => pxI W w.heap.size w.heap.size ((passK row colour false k).set k ⟨5, false, 0, k, 0, colour, 0⟩) ∧ Below w.heap.size w W) _ ⟨HP5.out, HBs.out⟩ ?_
      clear y0 y1 y2 y3 y4 y5 y6 yf HP HP5 HBs hc HR HB
      rintro W2 ⟨hr2, hb2⟩
      have hg2 : ((passK row colour false k).set k ⟨5, false, 0, k, 0, colour, 0⟩)[k]? = some ⟨5, false, 0, k, 0, colour, 0⟩ := List.getElem?_set_self (by rw [passK_len]; exact HLt.out)
      have y0 : W2.cell? ⟨w.heap.size, k * 7, none⟩ = some (.int .u8 5) := (hr2.at_ hg2).1
      have yf := hr2.fz
      have hop := hr2.op hg2 3
      rw [List.set_set] at hop
      have HOp := Lib.hid hop
      have HR2 := Lib.hid hr2
      have HB2 := Lib.hid hb2
      have HBs := Lib.hid (hb2.setCell (p := ⟨w.heap.size, k * 7, none⟩) (Nat.le_refl _) (.int .u8 3))
      clear hr2 hb2 hg2 hop hlt
      by_cases he : z = colour
      case pos =>
        have e1 : (z == colour) = true := beq_iff_eq.2 he
        have HQ : Hid ((passK row colour false k).set k ⟨3, false, 0, k, 0, colour, 0⟩ = passK row colour false (k + 1)) := by
          show _ = _
          rw [← passK_step HLt.out]
          unfold insQ opQ
          rw [if_neg (by simp), if_pos (HZ.out.trans he)]
        clear he
        go_wp2
        go_roundw
        case rel => exact ⟨k + 1, by have := HLt.out; omega, by go_num, HQ.out ▸ HOp.out, HBs.out⟩
        case measure => simp [intOf]; have := HLt.out; omega
      case neg =>
        have e1 : (z == colour) = false := beq_eq_false_iff_ne.2 he
        have HQ : Hid ((passK row colour false k).set k ⟨5, false, 0, k, 0, colour, 0⟩ = passK row colour false (k + 1)) := by
          show _ = _
          rw [← passK_step HLt.out]
          unfold insQ opQ
          rw [if_neg (by simp), if_neg (by rw [HZ.out]; exact he)]
        clear he y0 yf
        go_wp2
        go_roundw
        case rel => exact ⟨k + 1, by have := HLt.out; omega, by go_num, HQ.out ▸ HR2.out, HB2.out⟩
        case measure => simp [intOf]; have := HLt.out; omega
    case neg =>
      obtain rfl : k = row.length := by omega
      have hq := HR.out
      rw [passK_all] at hq
      have HQ := Lib.hid hq
      have HFl := Lib.hid (floats_any A c row colour wr ((HS.out.below HB.out).more HB.out.size) (by omega))
      clear hq HR hk hlt
      go_upto_region 10 with ((go_at_call 27; refine HFl.out.mono ?_; intro e w2 ho; obtain ⟨v, rfl, hown, hb2⟩ := ho; obtain ⟨fa, fc, rfl⟩ := own_form hown))
      have HA : Hid (PsA w row colour false (fun _ => false) fa (flo row colour) w2) := ⟨HQ.out.to hb2, FlA.of_own hown HQ.out.lt.2, HB.out.trans (hb2.mono HB.out.size)⟩
      clear HFl HQ HB hb2 hown
      have HFr := Lib.hid (flo_row row colour)
      obtain ⟨fl, hfl⟩ : ∃ fl, fl = flo row colour := ⟨_, rfl⟩
      have hlen : fl.length ≤ 1000 := by have := floTo_len row colour row.length; rw [hfl]; unfold flo; omega
      rw [← hfl] at HA HFr ⊢
      have HFl := Lib.hid hfl
      clear hfl
      refine abs_world (Q := fun W => Code.wp _ _ _ _ W) (F := fun W => PsA w row colour false (fun _ => false) fa fl W) _ HA.out ?_
      clear HA
      intro W3 hA3
      have HA3 := Lib.hid hA3
      clear hA3
      go_wp2
      go_loopw [46] (fun i wr => ∃ j : Nat, j ≤ fl.length ∧ i = .int .i64 (j : Int) ∧ Hid (PsA w row colour false (tuckB (fl.take j) (lim + 1) false) fa fl wr)) (fun i _ => fl.length - (intOf i).toNat)
      case atStart => exact ⟨0, Nat.zero_le _, rfl, HA3.out⟩
      case round =>
        obtain ⟨j, hj, rfl, HA⟩ := hrel
        clear HA3
        obtain ⟨wo, hwo⟩ : ∃ wo : World, wo = wr := ⟨_, rfl⟩
        rw [← hwo] at HA ⊢
        clear hwo
        by_cases hlt : j < fl.length
        case pos =>
          obtain ⟨fb, hfa, hgb, hbl, hfc⟩ := HA.out.fl (fun e => by rw [e] at hlt; exact absurd hlt (Nat.not_lt_zero _))
          subst hfa
          have hf : fl[j]? = some fl[j] := List.getElem?_eq_getElem hlt
          obtain ⟨f, hfe⟩ : ∃ f, f = fl[j] := ⟨_, rfl⟩
          rw [← hfe] at hf
          obtain ⟨q0, q1⟩ := hfc j f hf
          obtain ⟨f1, f2⟩ := Row.bounds HFr.out hf
          have HTk : Hid (fl.take (j + 1) = fl.take j ++ [f]) := by show _ = _; rw [List.take_add_one, hf]; rfl
          have HX : Hid (PsA w row colour false (tuckB (fl.take j) (lim + 1) false) (some ⟨fb, 0, none⟩) fl (wo.alloc (.cells #[.int .i64 (f.1 : Int), .int .i64 (f.2 : Int)] 75)) ∧ FBx wo.heap.size f (wo.alloc (.cells #[.int .i64 (f.1 : Int), .int .i64 (f.2 : Int)] 75)) ∧ w.heap.size < wo.heap.size) := ⟨HA.out.to ((Below.refl _ _).alloc (Nat.le_refl _) _), ⟨cell_new rfl rfl rfl, cell_new rfl rfl rfl⟩, HA.out.row.lt.2⟩
          clear hfc hfe hf hbl HA
          go_upto_region 12 with fail
          refine abs_world (Q := fun W => Code.wp _ _ _ _ W) (F := fun W => PsA w row colour false (tuckB (fl.take j) (lim + 1) false) (some ⟨fb, 0, none⟩) fl W ∧ FBx wo.heap.size f W ∧ w.heap.size < wo.heap.size) _ HX.out ?_
          clear HX q0 q1
          obtain ⟨pb, hpb⟩ : ∃ pb, pb = wo.heap.size := ⟨_, rfl⟩
          rw [← hpb]
          clear hpb
          rintro W4 ⟨hA4, hF4, hgp⟩
          have HA4 := Lib.hid hA4
          obtain ⟨x0, x1⟩ := hF4
          have HF4 : Hid (FBx pb f W4) := ⟨x0, x1⟩
          clear hA4
          have hL1 : (lim : Int) + 1 ≤ 41 := by omega
          have HA5 : Hid (PsA w row colour false (tuckS (fl.take j) (lim + 1) false f 1) (some ⟨fb, 0, none⟩) fl W4) := HA4.out.congr (fun k => tuckS_one _ _ _ _ k)
          go_upto_region 16 with fail
          go_wp2
          go_loopw [16] (fun s16 wr => ∃ (s P : Nat) (q : Int), s16 = .int .i64 q ∧ -50 ≤ q ∧ q ≤ 150 ∧ 1 ≤ s ∧ Hid (P = s * (lim + 1)) ∧ Hid (q = (f.2 : Int) - (P : Int)) ∧ Hid (PsA w row colour false (tuckS (fl.take j) (lim + 1) false f s) (some ⟨fb, 0, none⟩) fl wr) ∧ Hid (FBx pb f wr)) (fun s16 _ => (intOf s16).toNat - f.1)
          case atStart => exact ⟨1, lim + 1, _, rfl, by omega, by omega, by omega, by show _ = _; rw [Nat.one_mul], by show _ = _; omega, HA5.out, HF4.out⟩
          case round =>
            obtain ⟨s, P, q, rfl, hq1, hq2, hs1, HP, HE, HA6, HF6⟩ := hrel
            clear HA5 HA4 HF4 x0 x1
            obtain ⟨x0, x1⟩ := HF6.out
            have hP0 : Hid (1 ≤ P) := by show 1 ≤ P; rw [HP.out]; exact Nat.mul_pos hs1 (by omega)
            by_cases hin : (f.1 : Int) < q ∧ q < (f.2 : Int)
            case pos =>
              obtain ⟨hi1, hi2⟩ := hin
              obtain ⟨kq, hkq⟩ : ∃ kq : Nat, q = (kq : Int) := ⟨q.toNat, by omega⟩
              subst hkq
              have hk1 : f.1 < kq := by omega
              have hk2 : kq < f.2 := by omega
              have hkl : kq < row.length := by omega
              have d1 : decide (f.1 < kq) = true := decide_eq_true hk1
              have d2 : decide (kq < f.2) = true := decide_eq_true hk2
              obtain ⟨⟨v0, y0⟩, yf⟩ := HA6.out.cells hkl
              have HA7 := Lib.hid (HA6.out.tuck hkl (R := tuckS (fl.take j) (lim + 1) false f (s + 1)) (fun k => tuckS_step (by omega) hk1 hk2 (by have := HE.out; unfold distF; (first | rw [if_pos rfl] | rw [if_neg (by decide)]); rw [← HP.out]; omega) k))
              have HF7 := Lib.hid (HF6.out.set hgp (kq * 7) (.int .u8 4))
              have HI := Lib.hid hi2
              clear hi1 hi2 HA6 HF6
              go_wp2
              go_roundw
              case rel => exact ⟨s + 1, P + (lim + 1), _, rfl, by omega, by omega, by omega, by show _ = _; rw [HP.out, Nat.add_mul s 1, Nat.one_mul], by show _ = _; have := HE.out; omega, HA7.out, HF7.out⟩
              case measure => simp [intOf]; omega
            case neg =>
              have HN := Lib.hid hin
              have HA7 : Hid (PsA w row colour false (tuckB (fl.take (j + 1)) (lim + 1) false) (some ⟨fb, 0, none⟩) fl wr) := HA6.out.congr (fun k => by
                rw [HTk.out]
                refine (tuckS_all ?_ k).symm
                have := HE.out; have := hP0.out
                rw [← HP.out]; omega)
              have d1 : decide ((f.1 : Int) < q) = false := decide_eq_false (fun h => hin ⟨h, by have := HE.out; have := hP0.out; omega⟩)
              clear hin HA6
              go_wp2
              go_roundw
              case rel => exact ⟨j + 1, by omega, by go_num, HA7.out⟩
              case measure => simp [intOf]; omega
        case neg =>
          obtain rfl : j = fl.length := by omega
          have hA := HA.out
          rw [List.take_length] at hA
          have hrw := hA.row
          unfold pxI at hrw
          rw [passQ_len] at hrw
          have HRv := Lib.hid (reverse_any w.heap.size row.length row.length w.heap.size _ _ (passQ_len row colour false _).symm (by rw [passQ_len]; omega) wo hrw)
          have HB2 := Lib.hid hA.lo
          clear hA hrw HA hj hlt
          go_wp2_with ((go_at_call 42; refine HRv.out.mono ?_; rintro e w5 ⟨rfl, hsl, hg5⟩))
          go_ret
          exact ⟨_, rfl, by rw [HFl.out] at hsl; exact hsl, HB2.out.grown hg5 HB2.out.size (fun k e => by cases e; exact Nat.le_refl _)⟩
theorem ipass_any (A : Option Addr) (c : Nat) (row : List Int) (colour : Int) (lim : Nat) (right : Bool) (w : World) (h : SlI w w.heap.size A row) (hn : row.length ≤ 101) (hl : lim ≤ 40) :
    Calls Tryz.prog 21 #[.slice A row.length c, .int .i64 colour, .int .i64 lim, .bool right] w fun e w' => ∃ g, e = .returned (.slice (some ⟨g, 0, none⟩) row.length row.length) ∧ SlX w' w'.heap.size (some ⟨g, 0, none⟩) (passI row colour lim right) ∧ Below w.heap.size w w' := by
  cases right
  · exact pass_false A c row colour lim w h hn hl
  · exact pass_true A c row colour lim w h hn hl
end Go.Proofs.YthedmiilkeclaaaGreat
