/- Words for memory that all walks of this seat share: slices that read as lists, below a block; small facts. Instructions as values; bed.Instr and the reference's Instr hand back the same. Slices whose elements have several cells; slices of instructions and of hooks that read as lists. Lists of cells laid end to end. Small facts on memory (as in XSt0, XSt2, XTurn3, for seats without stitches). Rows that a call owns, pairwise in blocks of their own: each is turned by itself. -/
import Derived.Test.YtbnddpknejgmhaaGreatRows
import Derived.WalkKit
import Derived.WalkSpells
import Derived.WalkLawsBesides
import Derived.Lib.Hide
import Derived.Deep.LoopGhost
import Derived.Deep.Draws
import Derived.Shelf.Abstract
import Derived.Deep.QuietTactic
import Derived.BigQuiet
import Derived.Deep.DeepCutAuto
import Derived.Deep.DeepMust
import Derived.Deep.Onto
import Derived.Deep.AppendLies
namespace Go.Proofs.YtbnddpknejgmhaaGreat
open Go.RowKit

theorem bcell {W w1 : World} {B : Nat} (hb : Below B W w1) {b : Nat} (h : b < B) (o : Nat) : w1.cell? ⟨b, o, none⟩ = W.cell? ⟨b, o, none⟩ := hb.cell (p := ⟨b, o, none⟩) h

/-- The slice value '.slice A zs.length c' holds the numbers zs, in a block below B. -/
def SlI (w : World) (B : Nat) (A : Option Addr) (zs : List Int) : Prop :=
  zs ≠ [] → ∃ b off, A = some ⟨b, off, none⟩ ∧ b < B ∧ ∀ j z, zs[j]? = some z → w.cell? ⟨b, off + j, none⟩ = some (.int .i64 z)
theorem SlI.below {w w' : World} {B : Nat} {A : Option Addr} {zs : List Int} (h : SlI w B A zs) (hb : Below B w w') : SlI w' B A zs := fun hn => by
  obtain ⟨b, off, e, hB, hc⟩ := h hn
  exact ⟨b, off, e, hB, fun j z hz => (bcell hb hB _).trans (hc j z hz)⟩
theorem SlI.more {w : World} {B B' : Nat} {A : Option Addr} {zs : List Int} (h : SlI w B A zs) (hB' : B ≤ B') : SlI w B' A zs := fun hn => by
  obtain ⟨b, off, e, hB, hc⟩ := h hn
  exact ⟨b, off, e, by omega, hc⟩
theorem SlI.at_ {w : World} {B : Nat} {A : Option Addr} {zs : List Int} (h : SlI w B A zs) {k : Nat} (hk : k < zs.length) :
    ∃ b off z, A = some ⟨b, off, none⟩ ∧ b < B ∧ zs[k]? = some z ∧ w.cell? ⟨b, off + k, none⟩ = some (.int .i64 z) := by
  obtain ⟨b, off, e, hB, hc⟩ := h (fun e => by subst e; simp at hk)
  exact ⟨b, off, zs[k], e, hB, List.getElem?_eq_getElem hk, hc k _ (List.getElem?_eq_getElem hk)⟩
theorem SlI.nil {w : World} {B : Nat} {A : Option Addr} : SlI w B A [] := fun h => absurd rfl h

/-- The slice value '.slice A p.length c' holds slices that hold the rows of p, all below B. -/
def SlRows (w : World) (B : Nat) (A : Option Addr) (p : List (List Int)) : Prop :=
  p ≠ [] → ∃ b off, A = some ⟨b, off, none⟩ ∧ b < B ∧ ∀ j row, p[j]? = some row → ∃ A' C', w.cell? ⟨b, off + j, none⟩ = some (.slice A' row.length C') ∧ row.length ≤ C' ∧ SlI w B A' row
theorem SlRows.below {w w' : World} {B : Nat} {A : Option Addr} {p : List (List Int)} (h : SlRows w B A p) (hb : Below B w w') : SlRows w' B A p := fun hn => by
  obtain ⟨b, off, e, hB, hc⟩ := h hn
  refine ⟨b, off, e, hB, fun j row hr => ?_⟩
  obtain ⟨A', C', h1, h2, h3⟩ := hc j row hr
  exact ⟨A', C', (bcell hb hB _).trans h1, h2, h3.below hb⟩
theorem SlRows.more {w : World} {B B' : Nat} {A : Option Addr} {p : List (List Int)} (h : SlRows w B A p) (hB' : B ≤ B') : SlRows w B' A p := fun hn => by
  obtain ⟨b, off, e, hB, hc⟩ := h hn
  refine ⟨b, off, e, by omega, fun j row hr => ?_⟩
  obtain ⟨A', C', h1, h2, h3⟩ := hc j row hr
  exact ⟨A', C', h1, h2, h3.more hB'⟩
theorem SlRows.at_ {w : World} {B : Nat} {A : Option Addr} {p : List (List Int)} (h : SlRows w B A p) {k : Nat} (hk : k < p.length) :
    ∃ b off row A' C', A = some ⟨b, off, none⟩ ∧ b < B ∧ p[k]? = some row ∧ w.cell? ⟨b, off + k, none⟩ = some (.slice A' row.length C') ∧ SlI w B A' row := by
  obtain ⟨b, off, e, hB, hc⟩ := h (fun e => by subst e; simp at hk)
  obtain ⟨A', C', h1, _, h3⟩ := hc k _ (List.getElem?_eq_getElem hk)
  exact ⟨b, off, p[k], A', C', e, hB, List.getElem?_eq_getElem hk, h1, h3⟩

theorem own_step {w0 wr w1 : World} {B : Nat} {e : TypeId} {size n : Nat} {v : Value} {xs : List Value} {o : Obj} (hb : Below B w0 wr) (hown : wr.ownsRow B e size v n xs) (hB : B ≤ wr.heap.size) (hg : (wr.alloc o).grownBy w1 v.ownBlock) : Below B w0 w1 :=
  (hb.alloc hB o).grown hg (by simp; omega) (fun k e => (hown.lt k e).1)
theorem own_below {w w' : World} {B B' : Nat} {e : TypeId} {size n : Nat} {v : Value} {xs : List Value} (h : w.ownsRow B e size v n xs) (hb : Below B' w w') (hB : w.heap.size ≤ B') : w'.ownsRow B e size v n xs :=
  h.kept (row := none) ⟨hb.os, hb.tape, hb.output, hb.size, fun k hk _ => hb.block k (by omega)⟩ (by cases v.ownBlock <;> simp)

theorem ret_int {k : IntKind} {a b : Int} (h : a = b) : Ending.returned (.int k a) = .returned (.int k b) := by rw [h]
theorem ret_bool {a b : Bool} (h : a = b) : Ending.returned (.bool a) = .returned (.bool b) := by rw [h]
end Go.Proofs.YtbnddpknejgmhaaGreat
namespace Go.Proofs.YtbnddpknejgmhaaGreat
open Go.RowKit
set_option maxRecDepth 100000

structure Ins where
  op : Int
  right : Bool
  bed : Int
  at_ : Int
  to_ : Int
  car : Int
  rack : Int
deriving DecidableEq

def Ins.cells (i : Ins) : List Value := [.int .u8 i.op, .bool i.right, .int .u8 i.bed, .int .i64 i.at_, .int .i64 i.to_, .int .i64 i.car, .int .i64 i.rack]
abbrev Ins.val (i : Ins) : Value := .agg #[.int .u8 i.op, .bool i.right, .int .u8 i.bed, .int .i64 i.at_, .int .i64 i.to_, .int .i64 i.car, .int .i64 i.rack]
theorem Ins.cells_length (i : Ins) : i.cells.length = 7 := rfl
/-- The kinds hold the numbers. -/
def Ins.wf (i : Ins) : Prop := 0 ≤ i.op ∧ i.op ≤ 255 ∧ 0 ≤ i.bed ∧ i.bed ≤ 255

def needleP (n : Int) : Prop := -100 ≤ n ∧ n ≤ 100
def carP (n : Int) : Prop := 1 ≤ n ∧ n ≤ 6
/-- A valid instruction. -/
def Ins.good (i : Ins) : Prop :=
  ((i.op = 1 ∨ i.op = 2) ∧ i.right = false ∧ i.bed = 0 ∧ i.at_ = 0 ∧ i.to_ = 0 ∧ i.rack = 0 ∧ carP i.car) ∨
  ((i.op = 3 ∨ i.op = 4 ∨ i.op = 5) ∧ i.to_ = 0 ∧ i.rack = 0 ∧ carP i.car ∧ i.bed ≤ 1 ∧ needleP i.at_) ∨
  (i.op = 6 ∧ i.rack = 0 ∧ carP i.car ∧ i.bed ≤ 1 ∧ needleP i.at_ ∧ needleP i.to_) ∨
  (i.op = 7 ∧ i.right = false ∧ i.car = 0 ∧ i.rack = 0 ∧ i.bed ≤ 1 ∧ needleP i.at_ ∧ needleP i.to_) ∨
  (i.op = 8 ∧ i.right = false ∧ i.bed = 0 ∧ i.at_ = 0 ∧ i.to_ = 0 ∧ i.car = 0 ∧ -8 ≤ i.rack ∧ i.rack ≤ 8) ∨
  (i.op = 9 ∧ i.right = false ∧ i.to_ = 0 ∧ i.car = 0 ∧ i.rack = 0 ∧ i.bed ≤ 1 ∧ needleP i.at_)
instance (n : Int) : Decidable (needleP n) := inferInstanceAs (Decidable (_ ∧ _))
instance (n : Int) : Decidable (carP n) := inferInstanceAs (Decidable (_ ∧ _))
instance (i : Ins) : Decidable i.good := by unfold Ins.good; infer_instance
def Ins.err (i : Ins) : Int := if i.good then 0 else 8

theorem needle_any (n : Int) (w : World) : Calls Tryz.prog 39 #[.int .i64 n] w fun e w' => e = .returned (.bool (decide (needleP n))) ∧ w = w' := by
  go_enter Tryz.func39, Tryz.ntmps39
  go_wp2
  all_goals go_ret
  all_goals refine ⟨ret_bool ?_, rfl⟩
  all_goals (rw [Bool.eq_iff_iff, decide_eq_true_iff (p := needleP n)]; unfold needleP; first | omega | (simp; done) | (simp; omega))
theorem rat_any (n : Int) (w : World) : Calls Tryz.prog 32 #[.int .i64 n] w fun e w' => e = .returned (.bool (decide (needleP n))) ∧ w = w' := by
  go_enter Tryz.func32, Tryz.ntmps32
  go_wp2
  all_goals go_ret
  all_goals refine ⟨ret_bool ?_, rfl⟩
  all_goals (rw [Bool.eq_iff_iff, decide_eq_true_iff (p := needleP n)]; unfold needleP; first | omega | (simp; done) | (simp; omega))
theorem rfeed_any (n : Int) (w : World) : Calls Tryz.prog 33 #[.int .i64 n] w fun e w' => e = .returned (.bool (decide (carP n))) ∧ w = w' := by
  go_enter Tryz.func33, Tryz.ntmps33
  go_wp2
  all_goals go_ret
  all_goals refine ⟨ret_bool ?_, rfl⟩
  all_goals (rw [Bool.eq_iff_iff, decide_eq_true_iff (p := carP n)]; unfold carP; first | omega | (simp; done) | (simp; omega))

/-- Two instructions differ. (A name that the walk does not open.) -/
def insNe (a b : Ins) : Bool := decide (a ≠ b)
def insNe' (a0 : Int) (a1 : Bool) (a2 a3 a4 a5 a6 : Int) (b0 : Int) (b1 : Bool) (b2 b3 b4 b5 b6 : Int) : Bool := insNe ⟨a0, a1, a2, a3, a4, a5, a6⟩ ⟨b0, b1, b2, b3, b4, b5, b6⟩
theorem insNe'_true {a0 : Int} {a1 : Bool} {a2 a3 a4 a5 a6 : Int} {b0 : Int} {b1 : Bool} {b2 b3 b4 b5 b6 : Int} (h : insNe' a0 a1 a2 a3 a4 a5 a6 b0 b1 b2 b3 b4 b5 b6 = true) : ¬ (a0 = b0 ∧ a1 = b1 ∧ a2 = b2 ∧ a3 = b3 ∧ a4 = b4 ∧ a5 = b5 ∧ a6 = b6) := by
  unfold insNe' insNe at h
  intro ⟨h0, h1, h2, h3, h4, h5, h6⟩
  subst h0 h1 h2 h3 h4 h5 h6
  simp at h
theorem insNe'_false {a0 : Int} {a1 : Bool} {a2 a3 a4 a5 a6 : Int} {b0 : Int} {b1 : Bool} {b2 b3 b4 b5 b6 : Int} (h : ¬ insNe' a0 a1 a2 a3 a4 a5 a6 b0 b1 b2 b3 b4 b5 b6 = true) : a0 = b0 ∧ a1 = b1 ∧ a2 = b2 ∧ a3 = b3 ∧ a4 = b4 ∧ a5 = b5 ∧ a6 = b6 := by
  unfold insNe' insNe at h
  simpa using h
set_option maxHeartbeats 1000000 in
theorem run_neq_ins (W : World) (a0 : Int) (a1 : Bool) (a2 a3 a4 a5 a6 : Int) (b0 : Int) (b1 : Bool) (b2 b3 b4 b5 b6 : Int) :
    (binOp .neq 64 (.agg #[.int .u8 a0, .bool a1, .int .u8 a2, .int .i64 a3, .int .i64 a4, .int .i64 a5, .int .i64 a6]) (.agg #[.int .u8 b0, .bool b1, .int .u8 b2, .int .i64 b3, .int .i64 b4, .int .i64 b5, .int .i64 b6])).run Tryz.prog W
      = .ok (.bool (insNe' a0 a1 a2 a3 a4 a5 a6 b0 b1 b2 b3 b4 b5 b6)) W := by
  unfold insNe' insNe
  rw [run_neq_struct, show (10000 : Nat) = 9999 + 1 from rfl]
  by_cases h0 : a0 = b0
  case neg => simp [go_sem, h0]
  subst h0
  by_cases h1 : a1 = b1
  case neg => simp [go_sem, h1]
  subst h1
  by_cases h2 : a2 = b2
  case neg => simp [go_sem, h2]
  subst h2
  by_cases h3 : a3 = b3
  case neg => simp [go_sem, h3]
  subst h3
  by_cases h4 : a4 = b4
  case neg => simp [go_sem, h4]
  subst h4
  by_cases h5 : a5 = b5
  case neg => simp [go_sem, h5]
  subst h5
  by_cases h6 : a6 = b6
  case neg => simp [go_sem, h6]
  subst h6
  simp [go_sem]
end Go.Proofs.YtbnddpknejgmhaaGreat
namespace Go.Proofs.YtbnddpknejgmhaaGreat
open Go.RowKit
set_option maxRecDepth 100000

/-- The slice value '.slice A zs.length c' holds elements with the cells zs, in a block below B. -/
def SlS (sz : Nat) (w : World) (B : Nat) (A : Option Addr) (zs : List (List Value)) : Prop :=
  zs ≠ [] → ∃ b off, A = some ⟨b, off, none⟩ ∧ b < B ∧ ∀ j cs, zs[j]? = some cs → ∀ i v, cs[i]? = some v → w.cell? ⟨b, off + j * sz + i, none⟩ = some v
theorem SlS.below {sz : Nat} {w w' : World} {B : Nat} {A : Option Addr} {zs : List (List Value)} (h : SlS sz w B A zs) (hb : Below B w w') : SlS sz w' B A zs := fun hn => by
  obtain ⟨b, off, e, hB, hc⟩ := h hn
  exact ⟨b, off, e, hB, fun j cs hz i v hv => (bcell hb hB _).trans (hc j cs hz i v hv)⟩
theorem SlS.more {sz : Nat} {w : World} {B B' : Nat} {A : Option Addr} {zs : List (List Value)} (h : SlS sz w B A zs) (hB' : B ≤ B') : SlS sz w B' A zs := fun hn => by
  obtain ⟨b, off, e, hB, hc⟩ := h hn
  exact ⟨b, off, e, by omega, hc⟩
theorem SlS.nil {sz : Nat} {w : World} {B : Nat} {A : Option Addr} : SlS sz w B A [] := fun h => absurd rfl h
theorem SlS.at_ {sz : Nat} {w : World} {B : Nat} {A : Option Addr} {zs : List (List Value)} (h : SlS sz w B A zs) {k : Nat} (hk : k < zs.length) :
    ∃ b off cs, A = some ⟨b, off, none⟩ ∧ b < B ∧ zs[k]? = some cs ∧ ∀ i v, cs[i]? = some v → w.cell? ⟨b, off + k * sz + i, none⟩ = some v := by
  obtain ⟨b, off, e, hB, hc⟩ := h (fun e => by subst e; simp at hk)
  exact ⟨b, off, zs[k], e, hB, List.getElem?_eq_getElem hk, hc k _ (List.getElem?_eq_getElem hk)⟩
/-- l[n:] -/
theorem SlS.drop {sz : Nat} {w : World} {B : Nat} {b off : Nat} {zs : List (List Value)} (h : SlS sz w B (some ⟨b, off, none⟩) zs) (n : Nat) : SlS sz w B (some ⟨b, off + n * sz, none⟩) (zs.drop n) := fun hn => by
  obtain ⟨b', off', e, hB, hc⟩ := h (fun e => by subst e; simp at hn)
  simp only [Option.some.injEq, Addr.mk.injEq, and_true] at e
  obtain ⟨rfl, rfl⟩ := e
  refine ⟨_, _, rfl, hB, fun j cs hz i v hv => ?_⟩
  rw [List.getElem?_drop] at hz
  have := hc (n + j) cs hz i v hv
  rw [Nat.add_mul, ← Nat.add_assoc] at this
  exact this
theorem SlS.take {sz : Nat} {w : World} {B : Nat} {A : Option Addr} {zs : List (List Value)} (h : SlS sz w B A zs) (n : Nat) : SlS sz w B A (zs.take n) := fun hn => by
  obtain ⟨b, off, e, hB, hc⟩ := h (fun e => by subst e; simp at hn)
  refine ⟨b, off, e, hB, fun j cs hz i v hv => hc j cs ?_ i v hv⟩
  rw [List.getElem?_take] at hz
  split at hz
  · exact hz
  · cases hz

/-- Slices of instructions. -/
def SlX (w : World) (B : Nat) (A : Option Addr) (l : List Ins) : Prop := SlS 7 w B A (l.map Ins.cells)
theorem SlX.below {w w' : World} {B : Nat} {A : Option Addr} {l : List Ins} (h : SlX w B A l) (hb : Below B w w') : SlX w' B A l := SlS.below h hb
theorem SlX.more {w : World} {B B' : Nat} {A : Option Addr} {l : List Ins} (h : SlX w B A l) (hB' : B ≤ B') : SlX w B' A l := SlS.more h hB'
theorem SlX.nil {w : World} {B : Nat} {A : Option Addr} : SlX w B A [] := SlS.nil
theorem SlX.drop {w : World} {B : Nat} {b off : Nat} {l : List Ins} (h : SlX w B (some ⟨b, off, none⟩) l) (n : Nat) : SlX w B (some ⟨b, off + n * 7, none⟩) (l.drop n) := by
  unfold SlX; rw [List.map_drop]; exact SlS.drop h n
theorem SlX.take {w : World} {B : Nat} {A : Option Addr} {l : List Ins} (h : SlX w B A l) (n : Nat) : SlX w B A (l.take n) := by
  unfold SlX; rw [List.map_take]; exact SlS.take h n
theorem SlX.addr {w : World} {B : Nat} {A : Option Addr} {l : List Ins} (h : SlX w B A l) (hn : l ≠ []) : ∃ b off, A = some ⟨b, off, none⟩ ∧ b < B := by
  obtain ⟨b, off, e, hB, _⟩ := h (by simpa using hn)
  exact ⟨b, off, e, hB⟩
/-- The instruction's cells lie at an address. -/
def InsAt (w : World) (b o : Nat) (i : Ins) : Prop :=
  w.cell? ⟨b, o, none⟩ = some (.int .u8 i.op) ∧ w.cell? ⟨b, o + 1, none⟩ = some (.bool i.right) ∧ w.cell? ⟨b, o + 2, none⟩ = some (.int .u8 i.bed) ∧ w.cell? ⟨b, o + 3, none⟩ = some (.int .i64 i.at_) ∧
  w.cell? ⟨b, o + 4, none⟩ = some (.int .i64 i.to_) ∧ w.cell? ⟨b, o + 5, none⟩ = some (.int .i64 i.car) ∧ w.cell? ⟨b, o + 6, none⟩ = some (.int .i64 i.rack)
theorem InsAt.below {w w' : World} {B b o : Nat} {i : Ins} (h : InsAt w b o i) (hb : Below B w w') (hB : b < B) : InsAt w' b o i := by
  unfold InsAt
  simp only [bcell hb hB]
  exact h
theorem SlX.at_ {w : World} {B : Nat} {A : Option Addr} {l : List Ins} (h : SlX w B A l) {k : Nat} (hk : k < l.length) :
    ∃ b off i, A = some ⟨b, off, none⟩ ∧ b < B ∧ l[k]? = some i ∧ InsAt w b (off + k * 7) i := by
  obtain ⟨b, off, cs, e, hB, hz, hc⟩ := SlS.at_ h (k := k) (by simpa using hk)
  rw [List.getElem?_map] at hz
  cases hl : l[k]? with
  | none => rw [hl] at hz; cases hz
  | some i =>
    rw [hl] at hz
    simp only [Option.map_some, Option.some.injEq] at hz
    subst hz
    exact ⟨b, off, i, e, hB, rfl, hc 0 _ rfl, hc 1 _ rfl, hc 2 _ rfl, hc 3 _ rfl, hc 4 _ rfl, hc 5 _ rfl, hc 6 _ rfl⟩

/-! ### the first element that has a property -/
def idxE {α : Type} (pr : α → Bool) (zs : List α) : Int := match zs.findIdx? pr with
  | some k => (k : Int)
  | none => -1
theorem idxE_hit {α : Type} {pr : α → Bool} {zs : List α} {k : Nat} {z : α} (hz : zs[k]? = some z) (h : pr z = true) (hb : ∀ j y, j < k → zs[j]? = some y → pr y = false) : idxE pr zs = (k : Int) := by
  have : zs.findIdx? pr = some k := by
    rw [List.findIdx?_eq_some_iff_getElem]
    obtain ⟨hk, e⟩ := List.getElem?_eq_some_iff.1 hz
    exact ⟨hk, by rw [e]; exact h, fun j hj => by rw [hb j _ hj (List.getElem?_eq_getElem (by omega))]; simp⟩
  rw [idxE, this]
theorem idxE_none {α : Type} {pr : α → Bool} {zs : List α} (hb : ∀ j y, j < zs.length → zs[j]? = some y → pr y = false) : idxE pr zs = -1 := by
  have : zs.findIdx? pr = none := by
    rw [List.findIdx?_eq_none_iff]
    intro x hx
    obtain ⟨j, hj⟩ := List.mem_iff_getElem?.1 hx
    exact hb j x (List.getElem?_eq_some_iff.1 hj).1 hj
  rw [idxE, this]
theorem idxE_any {α : Type} (pr : α → Bool) (zs : List α) : decide (0 ≤ idxE pr zs) = zs.any pr := by
  unfold idxE
  cases h : zs.findIdx? pr with
  | none =>
    rw [List.findIdx?_eq_none_iff] at h
    have : zs.any pr = false := by rw [List.any_eq_false]; intro x hx; rw [h x hx]; simp
    rw [this]; rfl
  | some k =>
    rw [List.findIdx?_eq_some_iff_getElem] at h
    obtain ⟨hk, h1, _⟩ := h
    have : zs.any pr = true := by rw [List.any_eq_true]; exact ⟨_, List.getElem_mem hk, h1⟩
    rw [this]; simp
end Go.Proofs.YtbnddpknejgmhaaGreat
namespace Go.Proofs.YtbnddpknejgmhaaGreat
open Go.RowKit
set_option maxRecDepth 100000

theorem flat_at {sz : Nat} : ∀ {zs : List (List Value)}, (∀ cs ∈ zs, cs.length = sz) → ∀ {j i : Nat} {cs : List Value} {v : Value}, zs[j]? = some cs → cs[i]? = some v → zs.flatten[j * sz + i]? = some v
  | [], _, _, _, _, _, h, _ => by simp at h
  | c :: zs, hl, 0, i, cs, v, h, hv => by
    simp at h; subst h
    rw [List.flatten_cons, Nat.zero_mul, Nat.zero_add, List.getElem?_append_left (List.getElem?_eq_some_iff.1 hv).1]
    exact hv
  | c :: zs, hl, j + 1, i, cs, v, h, hv => by
    have h' : zs[j]? = some cs := by simpa using h
    have hc := hl c List.mem_cons_self
    have ih := flat_at (fun x hx => hl x (List.mem_cons_of_mem _ hx)) h' hv
    rw [List.flatten_cons, List.getElem?_append_right (by rw [hc, Nat.add_mul]; omega), hc, show (j + 1) * sz + i - sz = j * sz + i by rw [Nat.add_mul]; omega]
    exact ih
theorem flat_of {sz : Nat} : ∀ {zs : List (List Value)}, (∀ cs ∈ zs, cs.length = sz) → ∀ {k : Nat} {v : Value}, zs.flatten[k]? = some v → ∃ j i cs, k = j * sz + i ∧ zs[j]? = some cs ∧ cs[i]? = some v
  | [], _, _, _, h => by simp at h
  | c :: zs, hl, k, v, h => by
    have hc := hl c List.mem_cons_self
    rw [List.flatten_cons] at h
    by_cases hk : k < c.length
    · rw [List.getElem?_append_left hk] at h
      exact ⟨0, k, c, by omega, rfl, h⟩
    · rw [List.getElem?_append_right (by omega)] at h
      obtain ⟨j, i, cs, e, h1, h2⟩ := flat_of (fun x hx => hl x (List.mem_cons_of_mem _ hx)) h
      exact ⟨j + 1, i, cs, by rw [Nat.add_mul]; omega, by simpa using h1, h2⟩
theorem flat_len {sz : Nat} : ∀ {zs : List (List Value)}, (∀ cs ∈ zs, cs.length = sz) → zs.flatten.length = zs.length * sz
  | [], _ => by simp
  | c :: zs, hl => by
    rw [List.flatten_cons, List.length_append, hl c List.mem_cons_self, flat_len (fun x hx => hl x (List.mem_cons_of_mem _ hx)), List.length_cons, Nat.add_mul]; omega
/-- A row of the call's own reads as a slice of elements. -/
theorem SlS.of_own {sz : Nat} {w : World} {B : Nat} {e : TypeId} {a : Option Addr} {n c : Nat} {zs : List (List Value)} (hl : ∀ cs ∈ zs, cs.length = sz) (hn : n = zs.length) (h : w.ownsRow B e sz (.slice a n c) n zs.flatten) : SlS sz w w.heap.size a zs := fun hne => by
  have hp : 0 < n := by rw [hn]; exact List.length_pos_iff.2 hne
  rcases h.2 with ⟨hv, rfl⟩ | ⟨g, cap, cur, hv, hg, hh, r⟩
  · omega
  · cases hv
    refine ⟨g, 0, rfl, (Array.getElem?_eq_some_iff.1 hh).1, fun j cs hz i v hv => ?_⟩
    have hf := flat_at hl hz hv
    have hlt : j * sz + i < n * sz := by
      have := (List.getElem?_eq_some_iff.1 hf).1
      rw [flat_len hl, ← hn] at this
      exact this
    rw [Nat.zero_add]
    exact (h.cellAt _ hlt).trans hf
theorem own_slice {w : World} {B : Nat} {e : TypeId} {size n : Nat} {v : Value} {xs : List Value} (h : w.ownsRow B e size v n xs) : ∃ a c, v = .slice a n c ∧ n ≤ c := by
  rcases h.2 with ⟨rfl, rfl⟩ | ⟨g, cap, cur, rfl, _, _, hc, _⟩
  · exact ⟨none, 0, rfl, Nat.le_refl _⟩
  · exact ⟨_, _, rfl, hc⟩
/-- The cells that a slice of elements holds, one by one. -/
theorem SlS.flat {sz : Nat} {w : World} {B b off : Nat} {zs : List (List Value)} (hl : ∀ cs ∈ zs, cs.length = sz) (h : SlS sz w B (some ⟨b, off, none⟩) zs) : ∀ j u, zs.flatten[j]? = some u → w.cell? ((⟨b, off, none⟩ : Addr).add j) = some u := fun k u hk => by
  obtain ⟨j, i, cs, e, h1, h2⟩ := flat_of hl hk
  obtain ⟨b', off', e', _, hc⟩ := h (fun e => by subst e; simp at h1)
  simp only [Option.some.injEq, Addr.mk.injEq, and_true] at e'
  obtain ⟨rfl, rfl⟩ := e'
  have := hc j cs h1 i u h2
  have ea : (⟨b, off, none⟩ : Addr).add k = ⟨b, off + k, none⟩ := by unfold Addr.add; split <;> simp_all
  rw [ea, e, ← Nat.add_assoc]
  exact this
end Go.Proofs.YtbnddpknejgmhaaGreat
namespace Go.Proofs.YtbnddpknejgmhaaGreat
open Go.RowKit
set_option maxRecDepth 100000

/-- A walk goes on in a world of which only some facts are kept. -/
theorem abs_world {Q F : World → Prop} (w0 : World) (h : F w0) (hr : ∀ W, F W → Q W) : Q w0 := hr w0 h
theorem cell_old {W w1 : World} {cs : Array Value} {t : TypeId} {b o : Nat} {v : Value} (e : w1 = W.alloc (.cells cs t)) (h : W.cell? ⟨b, o, none⟩ = some v) : w1.cell? ⟨b, o, none⟩ = some v := by
  rw [e]
  have hb : b < W.heap.size := by
    unfold World.cell? at h
    cases ho : W.heap[b]? with
    | none => simp [ho] at h
    | some o => exact (Array.getElem?_eq_some_iff.1 ho).1
  exact (bcell (B := W.heap.size) ((Below.refl _ _).alloc (Nat.le_refl _) _) hb _).trans h
theorem cell_new {W w1 : World} {cs : Array Value} {t : TypeId} {b o : Nat} {v : Value} (e : w1 = W.alloc (.cells cs t)) (hb : b = W.heap.size) (h : cs[o]? = some v) : w1.cell? ⟨b, o, none⟩ = some v := by
  subst e hb
  have e : (W.alloc (.cells cs t)).heap[W.heap.size]? = some (.cells cs t) := Array.getElem?_push_size
  simp only [World.cell?, e]
  exact h
theorem thawed_new' (w : World) (cs : Array Value) (t : TypeId) (k : Nat) {b : Nat} (hb : b = w.heap.size) : (w.alloc (.cells cs t)).frozen? ⟨b, k, none⟩ = false := by
  subst hb
  have e : (w.alloc (.cells cs t)).heap[w.heap.size]? = some (.cells cs t) := Array.getElem?_push_size
  simp only [World.frozen?, e]
  simp
  try omega
theorem set_other {w : World} {b o o' : Nat} {v u : Value} (hne : o ≠ o') (h : w.cell? ⟨b, o', none⟩ = some u) : (w.setCell ⟨b, o, none⟩ v).cell? ⟨b, o', none⟩ = some u := by
  have e : (⟨b, o, none⟩ : Addr) ≠ ⟨b, o', none⟩ := fun e => hne (Addr.mk.inj e).2.1
  exact (World.cell?_setCell_other _ _ _ _ e).trans h
theorem set_same {w : World} {b o : Nat} {v u : Value} (h : w.cell? ⟨b, o, none⟩ = some u) : (w.setCell ⟨b, o, none⟩ v).cell? ⟨b, o, none⟩ = some v := World.cell?_setCell_same' w _ v (by rw [h]; rfl)
theorem lt_of_cell {w : World} {b o : Nat} {v : Value} (h : w.cell? ⟨b, o, none⟩ = some v) : b < w.heap.size := by
  unfold World.cell? at h
  cases ho : w.heap[b]? with
  | none => simp [ho] at h
  | some o => exact (Array.getElem?_eq_some_iff.1 ho).1
theorem cell_al {W : World} {b o : Nat} {v : Value} (h : W.cell? ⟨b, o, none⟩ = some v) (x : Obj) : (W.alloc x).cell? ⟨b, o, none⟩ = some v := (bcell ((Below.refl _ W).alloc (Nat.le_refl _) x) (lt_of_cell h) _).trans h
theorem newsT (W : World) (cs : Array Value) (t : TypeId) (b : Nat) (hb : b = W.heap.size) : ∀ (j : Nat) (u : Value), cs.toList[j]? = some u → (W.alloc (.cells cs t)).cell? ((⟨b, 0, none⟩ : Addr).add j) = some u := fun j u h => by
  subst hb
  rw [show (⟨W.heap.size, 0, none⟩ : Addr).add j = ⟨W.heap.size, j, none⟩ by unfold Addr.add; split <;> simp_all]
  exact cell_new rfl rfl (by simpa using h)
theorem grown_setAt (W : World) (b o : Nat) (v : Value) : W.grownBy (W.setCell ⟨b, o, none⟩ v) (some b) :=
  ⟨rfl, rfl, rfl, by simp [World.setCell], fun k _ hk => Below.heap_setCell W ⟨b, o, none⟩ v k (fun e => hk (by rw [e]))⟩
end Go.Proofs.YtbnddpknejgmhaaGreat
namespace Go.Proofs.YtbnddpknejgmhaaGreat
open Go.RowKit Go.Shelf
set_option maxRecDepth 100000

/-- A row of memory: the slice v holds n elements of sz cells, the cells xs. -/
structure Own where
  e : TypeId
  sz : Nat
  n : Nat
  v : Value
  xs : List Value
def Own.lies (o : Own) (w : World) (B : Nat) : Prop := w.ownsRow B o.e o.sz o.v o.n o.xs
def apart (a b : Own) : Prop := ∀ k, a.v.ownBlock = some k → b.v.ownBlock ≠ some k
theorem apart_symm {a b : Own} (h : apart a b) : apart b a := fun k hb ha => h k ha hb
structure Owns (w : World) (B : Nat) (L : List Own) : Prop where
  all : ∀ o ∈ L, o.lies w B
  apart : L.Pairwise apart
theorem Owns.nil {w : World} {B : Nat} : Owns w B [] := ⟨fun _ h => absurd h List.not_mem_nil, List.Pairwise.nil⟩
theorem Owns.perm {w : World} {B : Nat} {L L' : List Own} (h : Owns w B L) (p : L.Perm L') : Owns w B L' :=
  ⟨fun o ho => h.all o (p.mem_iff.2 ho), (p.pairwise_iff (fun h => apart_symm h)).1 h.apart⟩
theorem Owns.sub {w : World} {B : Nat} {L L' : List Own} (h : Owns w B L) (s : L'.Sublist L) : Owns w B L' :=
  ⟨fun o ho => h.all o (s.subset ho), h.apart.sublist s⟩
theorem Owns.tail {w : World} {B : Nat} {o : Own} {L : List Own} (h : Owns w B (o :: L)) : Owns w B L := h.sub (List.sublist_cons_self _ _)
theorem Owns.head {w : World} {B : Nat} {o : Own} {L : List Own} (h : Owns w B (o :: L)) : o.lies w B := h.all o List.mem_cons_self
theorem Owns.to {w w' : World} {B : Nat} {L : List Own} (h : Owns w B L) (hb : Below w.heap.size w w') : Owns w' B L :=
  ⟨fun o ho => own_below (h.all o ho) hb (Nat.le_refl _), h.apart⟩
/-- One row is turned, into a row in the same block or in a new one. -/
theorem Owns.turn {w w' : World} {B : Nat} {o o' : Own} {L : List Own} (h : Owns w B (o :: L)) (hg : w.grownBy w' o.v.ownBlock) (ho : o'.lies w' B)
    (hn : ∀ k, o'.v.ownBlock = some k → o.v.ownBlock = some k ∨ w.heap.size ≤ k) : Owns w' B (o' :: L) := by
  have hp := List.pairwise_cons.1 h.apart
  refine ⟨fun x hx => ?_, List.pairwise_cons.2 ⟨fun x hx k hk => ?_, hp.2⟩⟩
  · rcases List.mem_cons.1 hx with rfl | hx
    · exact ho
    · refine World.ownsRow.kept (h.all x (List.mem_cons_of_mem _ hx)) hg ?_
      cases e : x.v.ownBlock with
      | none => exact Or.inl rfl
      | some k => exact Or.inr fun e2 => hp.1 x hx k e2.symm e
  · rcases hn k hk with h1 | h1
    · exact hp.1 x hx k h1
    · intro e
      have := (World.ownsRow.lt (h.all x (List.mem_cons_of_mem _ hx)) k e).2
      omega
/-- A row is made anew. -/
theorem Owns.add {w w' : World} {B : Nat} {o : Own} {L : List Own} (h : Owns w B L) (hb : Below w.heap.size w w') (hB : B ≤ w.heap.size) (ho : o.lies w' w.heap.size) : Owns w' B (o :: L) := by
  refine ⟨fun x hx => ?_, List.pairwise_cons.2 ⟨fun x hx k hk e => ?_, (h.to hb).apart⟩⟩
  · rcases List.mem_cons.1 hx with rfl | hx
    · exact World.ownsRow.mono ho hB
    · exact (h.to hb).all x hx
  · have h1 := (World.ownsRow.lt ho k hk).1
    have h2 := (World.ownsRow.lt (h.all x hx) k e).2
    omega
theorem Owns.swap {w : World} {B : Nat} {a b : Own} {L : List Own} (h : Owns w B (a :: b :: L)) : Owns w B (b :: a :: L) := h.perm (List.Perm.swap ..)
/-- A row that is nil. -/
theorem Owns.none {w : World} {B : Nat} {L : List Own} (h : Owns w B L) (e : TypeId) (sz : Nat) : Owns w B (⟨e, sz, 0, .slice none 0 0, []⟩ :: L) :=
  ⟨fun x hx => by
    rcases List.mem_cons.1 hx with rfl | hx
    · exact World.ownsRow_nil ..
    · exact h.all x hx, List.pairwise_cons.2 ⟨fun x _ k hk => by simp [Value.ownBlock] at hk, h.apart⟩⟩
theorem Below.of_grown {w w' : World} {B : Nat} {row : Option Nat} (hg : w.grownBy w' row) (hB : B ≤ w.heap.size) (hr : ∀ k, row = some k → B ≤ k) : Below B w w' := (Below.refl B w).grown hg hB hr
theorem grown_trans {w w' w'' : World} {row : Option Nat} (h : w.grownBy w' row) (h' : w'.grownBy w'' row) : w.grownBy w'' row :=
  ⟨h'.os.trans h.os, h'.tape.trans h.tape, h'.output.trans h.output, Nat.le_trans h.size h'.size, fun k hk hn => (h'.block k (Nat.lt_of_lt_of_le hk h.size) hn).trans (h.block k hk hn)⟩
theorem grown_below {w w' : World} {row : Option Nat} (h : Below w.heap.size w w') : w.grownBy w' row := ⟨h.os, h.tape, h.output, h.size, fun k hk _ => h.block k hk⟩
end Go.Proofs.YtbnddpknejgmhaaGreat
