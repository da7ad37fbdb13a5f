/- Words for memory that all walks of this seat share: slices that read as lists, below a block; small facts. Maps keyed by int, as the function from keys to values: look-up, store, delete, length. Words for ranges over functions: all cells but those of one block are kept. slices.Values, AppendSeq, Collect at ints. Slices whose elements have several cells. Lists of cells laid end to end. Small facts on memory (as in XSt0, XSt2, XTurn3, for seats without stitches). slices.AppendSeq, Collect of slices.Values at ints. slices.Sorted of slices.Values, Compact of it, at ints. -/
import Derived.Test.YtbibndpkcilblaaRows
import Derived.WalkKit
import Derived.WalkSpells
import Derived.WalkLawsBesides
import Derived.Lib.Hide
import Derived.Deep.LoopGhost
import Derived.Deep.Draws
import Derived.Shelf.Abstract
import Derived.Deep.QuietTactic
import Derived.BigQuiet
import Derived.Deep.DeepCutAuto
import Derived.Deep.DeepMust
import Derived.Maps.OwnSet
import Derived.Maps.RangeWalk
import Derived.Lib.SlKeysI
import Derived.RangeFuncNested
import Derived.RangeFuncBound
import Derived.RangeFuncCalls
import Derived.RangeFuncLeaves
import Derived.Shelf.RegionOpen
import Derived.OwnWalkIn
import Derived.TacticsInMore
import Derived.LoopNIn
import Derived.LoopIn
import Derived.Maps.OwnIn
import Derived.Laws.OwnMore
import Derived.Test.YtbibndpkcilblaaShelf
import Derived.Sort.OwnSorted
namespace Go.Proofs.Ytbibndpkcilblaa
open Go.RowKit

theorem bcell {W w1 : World} {B : Nat} (hb : Below B W w1) {b : Nat} (h : b < B) (o : Nat) : w1.cell? ⟨b, o, none⟩ = W.cell? ⟨b, o, none⟩ := hb.cell (p := ⟨b, o, none⟩) h

/-- The slice value '.slice A zs.length c' holds the numbers zs, in a block below B. -/
def SlI (w : World) (B : Nat) (A : Option Addr) (zs : List Int) : Prop :=
  zs ≠ [] → ∃ b off, A = some ⟨b, off, none⟩ ∧ b < B ∧ ∀ j z, zs[j]? = some z → w.cell? ⟨b, off + j, none⟩ = some (.int .i64 z)
theorem SlI.below {w w' : World} {B : Nat} {A : Option Addr} {zs : List Int} (h : SlI w B A zs) (hb : Below B w w') : SlI w' B A zs := fun hn => by
  obtain ⟨b, off, e, hB, hc⟩ := h hn
  exact ⟨b, off, e, hB, fun j z hz => (bcell hb hB _).trans (hc j z hz)⟩
theorem SlI.more {w : World} {B B' : Nat} {A : Option Addr} {zs : List Int} (h : SlI w B A zs) (hB' : B ≤ B') : SlI w B' A zs := fun hn => by
  obtain ⟨b, off, e, hB, hc⟩ := h hn
  exact ⟨b, off, e, by omega, hc⟩
theorem SlI.at_ {w : World} {B : Nat} {A : Option Addr} {zs : List Int} (h : SlI w B A zs) {k : Nat} (hk : k < zs.length) :
    ∃ b off z, A = some ⟨b, off, none⟩ ∧ b < B ∧ zs[k]? = some z ∧ w.cell? ⟨b, off + k, none⟩ = some (.int .i64 z) := by
  obtain ⟨b, off, e, hB, hc⟩ := h (fun e => by subst e; simp at hk)
  exact ⟨b, off, zs[k], e, hB, List.getElem?_eq_getElem hk, hc k _ (List.getElem?_eq_getElem hk)⟩
theorem SlI.nil {w : World} {B : Nat} {A : Option Addr} : SlI w B A [] := fun h => absurd rfl h

/-- The slice value '.slice A p.length c' holds slices that hold the rows of p, all below B. -/
def SlRows (w : World) (B : Nat) (A : Option Addr) (p : List (List Int)) : Prop :=
  p ≠ [] → ∃ b off, A = some ⟨b, off, none⟩ ∧ b < B ∧ ∀ j row, p[j]? = some row → ∃ A' C', w.cell? ⟨b, off + j, none⟩ = some (.slice A' row.length C') ∧ row.length ≤ C' ∧ SlI w B A' row
theorem SlRows.below {w w' : World} {B : Nat} {A : Option Addr} {p : List (List Int)} (h : SlRows w B A p) (hb : Below B w w') : SlRows w' B A p := fun hn => by
  obtain ⟨b, off, e, hB, hc⟩ := h hn
  refine ⟨b, off, e, hB, fun j row hr => ?_⟩
  obtain ⟨A', C', h1, h2, h3⟩ := hc j row hr
  exact ⟨A', C', (bcell hb hB _).trans h1, h2, h3.below hb⟩
theorem SlRows.more {w : World} {B B' : Nat} {A : Option Addr} {p : List (List Int)} (h : SlRows w B A p) (hB' : B ≤ B') : SlRows w B' A p := fun hn => by
  obtain ⟨b, off, e, hB, hc⟩ := h hn
  refine ⟨b, off, e, by omega, fun j row hr => ?_⟩
  obtain ⟨A', C', h1, h2, h3⟩ := hc j row hr
  exact ⟨A', C', h1, h2, h3.more hB'⟩
theorem SlRows.at_ {w : World} {B : Nat} {A : Option Addr} {p : List (List Int)} (h : SlRows w B A p) {k : Nat} (hk : k < p.length) :
    ∃ b off row A' C', A = some ⟨b, off, none⟩ ∧ b < B ∧ p[k]? = some row ∧ w.cell? ⟨b, off + k, none⟩ = some (.slice A' row.length C') ∧ SlI w B A' row := by
  obtain ⟨b, off, e, hB, hc⟩ := h (fun e => by subst e; simp at hk)
  obtain ⟨A', C', h1, _, h3⟩ := hc k _ (List.getElem?_eq_getElem hk)
  exact ⟨b, off, p[k], A', C', e, hB, List.getElem?_eq_getElem hk, h1, h3⟩

theorem own_step {w0 wr w1 : World} {B : Nat} {e : TypeId} {size n : Nat} {v : Value} {xs : List Value} {o : Obj} (hb : Below B w0 wr) (hown : wr.ownsRow B e size v n xs) (hB : B ≤ wr.heap.size) (hg : (wr.alloc o).grownBy w1 v.ownBlock) : Below B w0 w1 :=
  (hb.alloc hB o).grown hg (by simp; omega) (fun k e => (hown.lt k e).1)
theorem own_below {w w' : World} {B B' : Nat} {e : TypeId} {size n : Nat} {v : Value} {xs : List Value} (h : w.ownsRow B e size v n xs) (hb : Below B' w w') (hB : w.heap.size ≤ B') : w'.ownsRow B e size v n xs :=
  h.kept (row := none) ⟨hb.os, hb.tape, hb.output, hb.size, fun k hk _ => hb.block k (by omega)⟩ (by cases v.ownBlock <;> simp)

theorem ret_int {k : IntKind} {a b : Int} (h : a = b) : Ending.returned (.int k a) = .returned (.int k b) := by rw [h]
theorem ret_bool {a b : Bool} (h : a = b) : Ending.returned (.bool a) = .returned (.bool b) := by rw [h]
end Go.Proofs.Ytbibndpkcilblaa
namespace Go.Proofs.Ytbibndpkcilblaa
open Go.RowKit Go.Maps Go.ChangeMaps
set_option maxRecDepth 100000

/-- An element reads as itself. -/
def rawR : Value → Option (DataW Value × List MemPlace) := fun v => some (.held v, [])
def litK (k : Int) : Lit := .int .i64 k
/-- Which keys are numbers of Go's int. -/
def wfK (k : Int) : Prop := (Lit.int .i64 k).wf = true
/-- The datum says what the function says. -/
structure MapD (G : Int → Option Value) (D : DataW Value) : Prop where
  has : ∀ k, Maps.has D (litK k) = (G k).isSome
  at_ : ∀ k v z, G k = some v → D.atKey (litK k) z = .held v
theorem litK_inj {a b : Int} (h : a ≠ b) : litK a ≠ litK b := fun e => h (by injection e)
theorem litK_key (k : Int) : WideAt.IsKeyLit (litK k) := by unfold litK; trivial
theorem mapD_empty : MapD (fun _ => none) (.map []) := ⟨fun _ => rfl, fun _ _ _ h => by cases h⟩
theorem MapD.put {G : Int → Option Value} {D : DataW Value} (h : MapD G D) (hD : IsMap D) (k : Int) (v : Value) : MapD (fun j => if j = k then some v else G j) (D.put (litK k) (.held v)) := by
  refine ⟨fun j => ?_, fun j u z hj => ?_⟩
  · by_cases e : j = k
    · subst e
      rw [if_pos rfl, has_put_same hD (litK_key j)]; rfl
    · rw [if_neg e, has_put_other (litK_inj e)]
      exact h.has j
  · by_cases e : j = k
    · subst e
      rw [if_pos rfl] at hj
      cases hj
      exact atKey_put_same hD (litK_key j) _ _
    · rw [if_neg e] at hj
      rw [atKey_put_other (litK_inj e)]
      exact h.at_ j u z hj
theorem MapD.del {G : Int → Option Value} {D : DataW Value} (h : MapD G D) (k : Int) : MapD (fun j => if j = k then none else G j) (D.del (litK k)) := by
  refine ⟨fun j => ?_, fun j u z hj => ?_⟩
  · by_cases e : j = k
    · subst e
      rw [if_pos rfl, has_del_same]; rfl
    · rw [if_neg e, has_del_other (litK_inj e)]
      exact h.has j
  · by_cases e : j = k
    · rw [if_pos e] at hj; cases hj
    · rw [if_neg e] at hj
      rw [atKey_del_other (litK_inj e)]
      exact h.at_ j u z hj
/-- Block mb is a map of at most n entries that holds what the function says. -/
def MapV (w : World) (mb n : Nat) (G : Int → Option Value) : Prop := ∃ D, w.ownsMap Try.prog 3 rawR mb n D ∧ MapD G D
theorem MapV.lt {w : World} {mb n : Nat} {G : Int → Option Value} (h : MapV w mb n G) : mb < w.heap.size := by obtain ⟨D, h1, -⟩ := h; exact h1.lt
theorem MapV.new (w : World) : MapV (w.alloc (.map #[] 0)) w.heap.size 0 (fun _ => none) := ⟨.map [], World.ownsMap_made _ _ _ _, mapD_empty⟩
theorem MapV.mono {w : World} {mb n n' : Nat} {G : Int → Option Value} (h : MapV w mb n G) (hn : n ≤ n') : MapV w mb n' G := by obtain ⟨D, h1, h2⟩ := h; exact ⟨D, h1.mono hn, h2⟩
theorem MapV.kept {w w' : World} {mb n : Nat} {G : Int → Option Value} {row : Option Nat} (h : MapV w mb n G) (hg : w.grownBy w' row) (hne : some mb ≠ row) : MapV w' mb n G := by
  obtain ⟨D, h1, h2⟩ := h; exact ⟨D, h1.kept hg hne, h2⟩
theorem MapV.setCell {w : World} {mb n : Nat} {G : Int → Option Value} (h : MapV w mb n G) {a : Addr} (ha : mb ≠ a.block) (u : Value) : MapV (w.setCell a u) mb n G := by
  obtain ⟨D, h1, h2⟩ := h; exact ⟨D, h1.setCell ha u, h2⟩
theorem MapV.ext {w : World} {mb n : Nat} {G G' : Int → Option Value} (h : MapV w mb n G) (he : ∀ k, G k = G' k) : MapV w mb n G' := by
  obtain rfl : G = G' := funext he
  exact h
theorem MapV.below {w w' : World} {mb n B : Nat} {G : Int → Option Value} (h : MapV w mb n G) (hb : Below B w w') (hm : mb < B) : MapV w' mb n G := by
  obtain ⟨D, ⟨es, clock, hh, F, hs, hD⟩, h2⟩ := h
  exact ⟨D, ⟨es, clock, (hb.block mb hm).trans hh, F, hs, hD⟩, h2⟩
theorem keyK {k : Int} (hk : wfK k) : keyOf Try.prog 3 (.int .i64 k) = some (litK k) := keyOf_int_mk Try.underlying3 hk
/-- m[k]. -/
theorem MapV.look {w : World} {mb n : Nat} {G : Int → Option Value} (h : MapV w mb n G) {T E : TypeId} (hT : Try.prog.underlying T = some (.map 3 E)) {z : Value} (hz : (zeroValue E).run Try.prog w = .ok z w) {k : Int} (hk : wfK k) :
    (Instr.lookup T (.map (some mb)) (.int .i64 k) false).run Try.prog w = .ok ((G k).getD z) w := by
  obtain ⟨D, h1, h2⟩ := h
  obtain ⟨v, ps, hr, hv⟩ := h1.lookup (int_keyed Try.underlying3) hT hz (zd := .held z) (zp := []) rfl (keyK hk)
  rw [hr]
  congr 1
  unfold rawR at hv
  simp only [Option.some.injEq, Prod.mk.injEq] at hv
  cases hG : G k with
  | none =>
    have := h2.has k
    rw [hG] at this
    rw [atKey_of_not_has this] at hv
    injection hv.1
  | some u =>
    rw [h2.at_ k u _ hG] at hv
    injection hv.1
/-- v, ok := m[k]. -/
theorem MapV.look_ok {w : World} {mb n : Nat} {G : Int → Option Value} (h : MapV w mb n G) {T E : TypeId} (hT : Try.prog.underlying T = some (.map 3 E)) {z : Value} (hz : (zeroValue E).run Try.prog w = .ok z w) {k : Int} (hk : wfK k) :
    (Instr.lookup T (.map (some mb)) (.int .i64 k) true).run Try.prog w = .ok (.tuple #[(G k).getD z, .bool (G k).isSome]) w := by
  obtain ⟨D, h1, h2⟩ := h
  obtain ⟨v, ps, hr, hv⟩ := h1.look_ok (int_keyed Try.underlying3) hT hz (zd := .held z) (zp := []) rfl (keyK hk)
  rw [hr, h2.has k]
  unfold rawR at hv
  simp only [Option.some.injEq, Prod.mk.injEq] at hv
  have e : v = (G k).getD z := by
    cases hG : G k with
    | none =>
      have := h2.has k
      rw [hG] at this
      rw [atKey_of_not_has this] at hv
      injection hv.1
    | some u =>
      rw [h2.at_ k u _ hG] at hv
      injection hv.1
  rw [e]
/-- m[k] = v. -/
theorem MapV.put {w : World} {mb n : Nat} {G : Int → Option Value} (h : MapV w mb n G) (hn : n < maxLen) {T E : TypeId} (hT : Try.prog.underlying T = some (.map 3 E)) {k : Int} (hk : wfK k) (v : Value) :
    ∃ w', (Instr.mapUpdate T (.map (some mb)) (.int .i64 k) v).run Try.prog w = .ok () w' ∧ MapV w' mb (n + 1) (fun j => if j = k then some v else G j) ∧ w.mapTurned w' mb := by
  obtain ⟨D, h1, h2⟩ := h
  obtain ⟨w', hr, h3, h4⟩ := h1.store (int_keyed Try.underlying3) hT hn (keyK hk) (val := v) (d := .held v) (ps := []) rfl
  exact ⟨w', hr, ⟨_, h3, h2.put h1.isMap k v⟩, h4⟩
/-- delete(m, k). -/
theorem MapV.drop {w : World} {mb n : Nat} {G : Int → Option Value} (h : MapV w mb n G) {T E : TypeId} (hT : Try.prog.underlying T = some (.map 3 E)) {k : Int} (hk : wfK k) (ty : TypeId) :
    ∃ w', (Builtin.delete_ #[T, 3] ty #[.map (some mb), .int .i64 k]).run Try.prog w = .ok (.tuple #[]) w' ∧ MapV w' mb n (fun j => if j = k then none else G j) ∧ w.mapTurned w' mb := by
  obtain ⟨D, h1, h2⟩ := h
  obtain ⟨w', hr, h3, h4⟩ := h1.drop (int_keyed Try.underlying3) hT (keyK hk) ty
  exact ⟨w', hr, ⟨_, h3, h2.del k⟩, h4⟩
theorem key_lit {l : Lit} (h : KeysOf Try.prog 3 l) : ∃ k, l = litK k ∧ wfK k := by
  obtain ⟨v, hv⟩ := h
  obtain ⟨a, -, h1, h2⟩ := keyOf_int_inv Try.underlying3 hv
  exact ⟨a, h1, h2⟩
theorem same_self (k : Int) : (litK k).sameKey (litK k) = true := by
  unfold litK
  simp [Lit.sameKey]
/-- The keys, and how many. -/
theorem MapV.keys {w : World} {mb n : Nat} {G : Int → Option Value} (h : MapV w mb n G) :
    ∃ D, w.ownsMap Try.prog 3 rawR mb n D ∧ MapD G D ∧ (intKeys D).Nodup ∧ (∀ k, k ∈ intKeys D ↔ (G k).isSome = true) ∧ (∀ k ∈ intKeys D, wfK k) ∧ Maps.size D = (intKeys D).length := by
  obtain ⟨D, h1, h2⟩ := h
  refine ⟨D, h1, h2, ?_⟩
  obtain ⟨es0, hD, hap⟩ := h1.tidy (int_keyed Try.underlying3)
  obtain ⟨es, clock, hb, F, hs, hD2⟩ := h1
  have hk : ∀ p ∈ es0, ∃ k, p.1 = litK k ∧ wfK k := fun p hp => by
    rw [hD] at hD2
    injection hD2 with e
    rw [e] at hp
    exact key_lit (Maps.fit_keys F p (Go.mem_sorted.1 hp))
  have hhas := h2.has
  subst hD
  have hm : ∀ k, k ∈ intKeys (DataW.map es0) ↔ (G k).isSome = true := fun k => by
    rw [← hhas k, Maps.has_eq, List.any_eq_true]
    unfold intKeys
    rw [List.mem_map]
    constructor
    · rintro ⟨p, hp, e⟩
      obtain ⟨k', e', -⟩ := hk p hp
      rw [e'] at e
      have e2 : k' = k := e
      subst e2
      exact ⟨p, hp, by rw [e']; exact same_self k'⟩
    · rintro ⟨p, hp, e⟩
      obtain ⟨k', e', -⟩ := hk p hp
      by_cases ek : k' = k
      · exact ⟨p, hp, by rw [e', ek]; rfl⟩
      · rw [e', sameKey_ne (litK_inj ek)] at e
        cases e
  refine ⟨?_, hm, fun k hk2 => ?_, ?_⟩
  · unfold intKeys
    rw [List.Nodup, List.pairwise_map]
    refine List.Pairwise.imp_of_mem ?_ hap
    intro p q hp hq hne e
    obtain ⟨k, e1, -⟩ := hk p hp
    obtain ⟨k', e2, -⟩ := hk q hq
    apply hne
    rw [e1, e2] at e ⊢
    have e3 : k = k' := e
    rw [e3]
  · unfold intKeys at hk2
    obtain ⟨p, hp, e⟩ := List.mem_map.1 hk2
    obtain ⟨k', e', hw⟩ := hk p hp
    rw [e'] at e
    have e3 : k' = k := e
    rw [← e3]; exact hw
  · unfold intKeys
    rw [List.length_map, Maps.size_eq]
/-- len(m), where the keys are told by a list. -/
theorem MapV.len {w : World} {mb n : Nat} {G : Int → Option Value} (h : MapV w mb n G) {T E : TypeId} (hT : Try.prog.underlying T = some (.map 3 E)) {L : List Int} (hL : L.Nodup) (hm : ∀ k, k ∈ L ↔ (G k).isSome = true) (ty : TypeId) :
    (Builtin.len_ #[T] ty #[.map (some mb)]).run Try.prog w = .ok (.int .i64 (L.length : Int)) w := by
  obtain ⟨D, h1, h2, h3, h4, -, h5⟩ := h.keys
  have hp : (intKeys D).Perm L := (List.perm_ext_iff_of_nodup h3 hL).2 fun k => by rw [h4, hm]
  rw [h1.len hT ty, h5, hp.length_eq]
end Go.Proofs.Ytbibndpkcilblaa
namespace Go.Proofs.Ytbibndpkcilblaa
open Go.RowKit Go.Shelf

/-- Whatever cells lay, but those of block B0, lie as they lay. -/
def KC (B0 : Nat) (W W' : World) : Prop := W.heap.size ≤ W'.heap.size ∧ ∀ k cs t f, k ≠ B0 → W.heap[k]? = some (.cells cs t f) → W'.heap[k]? = some (.cells cs t f)
theorem KC.refl (B0 : Nat) (W : World) : KC B0 W W := ⟨Nat.le_refl _, fun _ _ _ _ _ h => h⟩
theorem KC.trans {B0 : Nat} {A B C : World} (h : KC B0 A B) (k : KC B0 B C) : KC B0 A C := ⟨Nat.le_trans h.1 k.1, fun i cs t f hi hc => k.2 i cs t f hi (h.2 i cs t f hi hc)⟩
theorem KC.of_below {B0 : Nat} {A B : World} (h : Below A.heap.size A B) : KC B0 A B := ⟨h.size, fun i _ _ _ _ hc => (h.block i (Array.getElem?_eq_some_iff.1 hc).1).trans hc⟩
theorem KC.put {B0 : Nat} (W : World) (l : Nat) (o o' : Obj) (h : W.heap[l]? = some o) (ho : o.isCells = false) : KC B0 W (W.putObj l o') := by
  refine ⟨by simp, fun i cs t f _ hc => ?_⟩
  have hne : i ≠ l := by
    rintro rfl
    rw [hc] at h; cases h; cases ho
  rw [World.putObj_heap_other hne]; exact hc
theorem KC.set_ {B0 : Nat} (W : World) (o : Nat) (v : Value) : KC B0 W (W.setCell ⟨B0, o, none⟩ v) :=
  ⟨by simp [World.setCell], fun i _ _ _ hi hc => (Below.heap_setCell W ⟨B0, o, none⟩ v i hi).trans hc⟩
theorem KC.drew {B0 : Nat} {A B : World} (h : KC B0 A B) : KC B0 A B.drew := h
theorem KC.cell {B0 : Nat} {A B : World} (h : KC B0 A B) {b o : Nat} {v : Value} (hb : b ≠ B0) (hc : A.cell? ⟨b, o, none⟩ = some v) : B.cell? ⟨b, o, none⟩ = some v := by
  unfold World.cell? at hc ⊢
  cases hk : A.heap[b]? with
  | none => simp [hk] at hc
  | some ob =>
    cases ob with
    | cells cs t f => rw [h.2 b cs t f hb hk]; rw [hk] at hc; exact hc
    | _ => simp [hk] at hc
theorem KC.own {B0 : Nat} {A B : World} (h : KC B0 A B) {B' : Nat} {e : TypeId} {size n : Nat} {v : Value} {xs : List Value} (hb : v.ownBlock ≠ some B0) (ho : A.ownsRow B' e size v n xs) : B.ownsRow B' e size v n xs := by
  refine ⟨ho.1, ho.2.imp id ?_⟩
  rintro ⟨g, cap, cur, rfl, hg, hh, r⟩
  exact ⟨g, cap, cur, rfl, hg, h.2 g _ _ _ (fun e => hb (by rw [← e]; rfl)) hh, r⟩
theorem KC.sl {B0 : Nat} {A B : World} (h : KC B0 A B) {n : Nat} (hn : n ≤ B0) {a : Option Addr} {zs : List Int} (hs : SlI A n a zs) : SlI B n a zs := fun hz => by
  obtain ⟨b, off, e, hB, hc⟩ := hs hz
  exact ⟨b, off, e, hB, fun j z hj => h.cell (by omega) (hc j z hj)⟩
theorem KC.rows {B0 : Nat} {A B : World} (h : KC B0 A B) {n : Nat} (hn : n ≤ B0) {a : Option Addr} {p : List (List Int)} (hs : SlRows A n a p) : SlRows B n a p := fun hz => by
  obtain ⟨b, off, e, hB, hc⟩ := hs hz
  refine ⟨b, off, e, hB, fun j row hj => ?_⟩
  obtain ⟨A', C', h1, h2, h3⟩ := hc j row hj
  exact ⟨A', C', h.cell (by omega) h1, h2, h.sl hn h3⟩
/-- What lay below a block at or ahead of the heap's end: no block of it is turned. -/
theorem grownN_of_below {W W' : World} {B : Nat} (h : Below B W W') (hB : W.heap.size ≤ B) : W.grownBy W' none := ⟨h.os, h.tape, h.output, h.size, fun k hk _ => h.block k (by omega)⟩
theorem AbidesFrom.below {β : Type} {B : Nat} {J : β → World → Prop} (h : AbidesFrom B J) {s : β} {W W' : World} (hs : J s W) (hb : Below W.heap.size W W') : J s W' :=
  h s W W' none hs (grownN_of_below hb (Nat.le_refl _)) (fun r e => by cases e)
theorem cell_new_l (W : World) (v : Value) (t : TypeId) : (W.alloc (.cells #[v] t)).cell? ⟨W.heap.size, 0, none⟩ = some v ∧ (W.alloc (.cells #[v] t)).frozen? ⟨W.heap.size, 0, none⟩ = false := by
  have h := Boxed.new W t v
  exact ⟨h.cell, h.frozen⟩
theorem cell_alloc_l {W : World} {a : Addr} {v : Value} (o : Obj) (h : W.cell? a = some v) : (W.alloc o).cell? a = some v := cell_kept h (World.grownBy_alloc W o none) (fun r e => by cases e)
theorem frozen_alloc_l {W : World} {a : Addr} {v : Value} (o : Obj) (h : W.cell? a = some v) (hf : W.frozen? a = false) : (W.alloc o).frozen? a = false := (frozen_kept h (World.grownBy_alloc W o none) (fun r e => by cases e)).trans hf
/-- A call that any fence lets: at the wide fence. -/
theorem wide_calls {n : Nat} {P : Program} {f : FuncId} {args : Array Value} {w : World} {R : Ending → World → Prop} (h : Calls P f args w R) : CallsIn Fence.wide n P f args w R := callsIn_wide.2 h
end Go.Proofs.Ytbibndpkcilblaa
namespace Go.Proofs.Ytbibndpkcilblaa
open Go.RowKit Go.Shelf
attribute [local go_sem] Oper.semAt_some
set_option maxRecDepth 100000

def encI1 (x : Int) : Array Value := #[.int .i64 x]
end Go.Proofs.Ytbibndpkcilblaa
namespace Go.Proofs.Ytbibndpkcilblaa
open Go.RowKit
set_option maxRecDepth 100000

/-- The slice value '.slice A zs.length c' holds elements with the cells zs, in a block below B. -/
def SlS (sz : Nat) (w : World) (B : Nat) (A : Option Addr) (zs : List (List Value)) : Prop :=
  zs ≠ [] → ∃ b off, A = some ⟨b, off, none⟩ ∧ b < B ∧ ∀ j cs, zs[j]? = some cs → ∀ i v, cs[i]? = some v → w.cell? ⟨b, off + j * sz + i, none⟩ = some v
theorem SlS.below {sz : Nat} {w w' : World} {B : Nat} {A : Option Addr} {zs : List (List Value)} (h : SlS sz w B A zs) (hb : Below B w w') : SlS sz w' B A zs := fun hn => by
  obtain ⟨b, off, e, hB, hc⟩ := h hn
  exact ⟨b, off, e, hB, fun j cs hz i v hv => (bcell hb hB _).trans (hc j cs hz i v hv)⟩
theorem SlS.more {sz : Nat} {w : World} {B B' : Nat} {A : Option Addr} {zs : List (List Value)} (h : SlS sz w B A zs) (hB' : B ≤ B') : SlS sz w B' A zs := fun hn => by
  obtain ⟨b, off, e, hB, hc⟩ := h hn
  exact ⟨b, off, e, by omega, hc⟩
theorem SlS.nil {sz : Nat} {w : World} {B : Nat} {A : Option Addr} : SlS sz w B A [] := fun h => absurd rfl h
theorem SlS.at_ {sz : Nat} {w : World} {B : Nat} {A : Option Addr} {zs : List (List Value)} (h : SlS sz w B A zs) {k : Nat} (hk : k < zs.length) :
    ∃ b off cs, A = some ⟨b, off, none⟩ ∧ b < B ∧ zs[k]? = some cs ∧ ∀ i v, cs[i]? = some v → w.cell? ⟨b, off + k * sz + i, none⟩ = some v := by
  obtain ⟨b, off, e, hB, hc⟩ := h (fun e => by subst e; simp at hk)
  exact ⟨b, off, zs[k], e, hB, List.getElem?_eq_getElem hk, hc k _ (List.getElem?_eq_getElem hk)⟩
/-- l[n:] -/
theorem SlS.drop {sz : Nat} {w : World} {B : Nat} {b off : Nat} {zs : List (List Value)} (h : SlS sz w B (some ⟨b, off, none⟩) zs) (n : Nat) : SlS sz w B (some ⟨b, off + n * sz, none⟩) (zs.drop n) := fun hn => by
  obtain ⟨b', off', e, hB, hc⟩ := h (fun e => by subst e; simp at hn)
  simp only [Option.some.injEq, Addr.mk.injEq, and_true] at e
  obtain ⟨rfl, rfl⟩ := e
  refine ⟨_, _, rfl, hB, fun j cs hz i v hv => ?_⟩
  rw [List.getElem?_drop] at hz
  have := hc (n + j) cs hz i v hv
  rw [Nat.add_mul, ← Nat.add_assoc] at this
  exact this
theorem SlS.take {sz : Nat} {w : World} {B : Nat} {A : Option Addr} {zs : List (List Value)} (h : SlS sz w B A zs) (n : Nat) : SlS sz w B A (zs.take n) := fun hn => by
  obtain ⟨b, off, e, hB, hc⟩ := h (fun e => by subst e; simp at hn)
  refine ⟨b, off, e, hB, fun j cs hz i v hv => hc j cs ?_ i v hv⟩
  rw [List.getElem?_take] at hz
  split at hz
  · exact hz
  · cases hz

/-! ### the first element that has a property -/
def idxE {α : Type} (pr : α → Bool) (zs : List α) : Int := match zs.findIdx? pr with
  | some k => (k : Int)
  | none => -1
theorem idxE_hit {α : Type} {pr : α → Bool} {zs : List α} {k : Nat} {z : α} (hz : zs[k]? = some z) (h : pr z = true) (hb : ∀ j y, j < k → zs[j]? = some y → pr y = false) : idxE pr zs = (k : Int) := by
  have : zs.findIdx? pr = some k := by
    rw [List.findIdx?_eq_some_iff_getElem]
    obtain ⟨hk, e⟩ := List.getElem?_eq_some_iff.1 hz
    exact ⟨hk, by rw [e]; exact h, fun j hj => by rw [hb j _ hj (List.getElem?_eq_getElem (by omega))]; simp⟩
  rw [idxE, this]
theorem idxE_none {α : Type} {pr : α → Bool} {zs : List α} (hb : ∀ j y, j < zs.length → zs[j]? = some y → pr y = false) : idxE pr zs = -1 := by
  have : zs.findIdx? pr = none := by
    rw [List.findIdx?_eq_none_iff]
    intro x hx
    obtain ⟨j, hj⟩ := List.mem_iff_getElem?.1 hx
    exact hb j x (List.getElem?_eq_some_iff.1 hj).1 hj
  rw [idxE, this]
theorem idxE_any {α : Type} (pr : α → Bool) (zs : List α) : decide (0 ≤ idxE pr zs) = zs.any pr := by
  unfold idxE
  cases h : zs.findIdx? pr with
  | none =>
    rw [List.findIdx?_eq_none_iff] at h
    have : zs.any pr = false := by rw [List.any_eq_false]; intro x hx; rw [h x hx]; simp
    rw [this]; rfl
  | some k =>
    rw [List.findIdx?_eq_some_iff_getElem] at h
    obtain ⟨hk, h1, _⟩ := h
    have : zs.any pr = true := by rw [List.any_eq_true]; exact ⟨_, List.getElem_mem hk, h1⟩
    rw [this]; simp
end Go.Proofs.Ytbibndpkcilblaa
namespace Go.Proofs.Ytbibndpkcilblaa
open Go.RowKit
set_option maxRecDepth 100000

theorem flat_at {sz : Nat} : ∀ {zs : List (List Value)}, (∀ cs ∈ zs, cs.length = sz) → ∀ {j i : Nat} {cs : List Value} {v : Value}, zs[j]? = some cs → cs[i]? = some v → zs.flatten[j * sz + i]? = some v
  | [], _, _, _, _, _, h, _ => by simp at h
  | c :: zs, hl, 0, i, cs, v, h, hv => by
    simp at h; subst h
    rw [List.flatten_cons, Nat.zero_mul, Nat.zero_add, List.getElem?_append_left (List.getElem?_eq_some_iff.1 hv).1]
    exact hv
  | c :: zs, hl, j + 1, i, cs, v, h, hv => by
    have h' : zs[j]? = some cs := by simpa using h
    have hc := hl c List.mem_cons_self
    have ih := flat_at (fun x hx => hl x (List.mem_cons_of_mem _ hx)) h' hv
    rw [List.flatten_cons, List.getElem?_append_right (by rw [hc, Nat.add_mul]; omega), hc, show (j + 1) * sz + i - sz = j * sz + i by rw [Nat.add_mul]; omega]
    exact ih
theorem flat_of {sz : Nat} : ∀ {zs : List (List Value)}, (∀ cs ∈ zs, cs.length = sz) → ∀ {k : Nat} {v : Value}, zs.flatten[k]? = some v → ∃ j i cs, k = j * sz + i ∧ zs[j]? = some cs ∧ cs[i]? = some v
  | [], _, _, _, h => by simp at h
  | c :: zs, hl, k, v, h => by
    have hc := hl c List.mem_cons_self
    rw [List.flatten_cons] at h
    by_cases hk : k < c.length
    · rw [List.getElem?_append_left hk] at h
      exact ⟨0, k, c, by omega, rfl, h⟩
    · rw [List.getElem?_append_right (by omega)] at h
      obtain ⟨j, i, cs, e, h1, h2⟩ := flat_of (fun x hx => hl x (List.mem_cons_of_mem _ hx)) h
      exact ⟨j + 1, i, cs, by rw [Nat.add_mul]; omega, by simpa using h1, h2⟩
theorem flat_len {sz : Nat} : ∀ {zs : List (List Value)}, (∀ cs ∈ zs, cs.length = sz) → zs.flatten.length = zs.length * sz
  | [], _ => by simp
  | c :: zs, hl => by
    rw [List.flatten_cons, List.length_append, hl c List.mem_cons_self, flat_len (fun x hx => hl x (List.mem_cons_of_mem _ hx)), List.length_cons, Nat.add_mul]; omega
/-- A row of the call's own reads as a slice of elements. -/
theorem SlS.of_own {sz : Nat} {w : World} {B : Nat} {e : TypeId} {a : Option Addr} {n c : Nat} {zs : List (List Value)} (hl : ∀ cs ∈ zs, cs.length = sz) (hn : n = zs.length) (h : w.ownsRow B e sz (.slice a n c) n zs.flatten) : SlS sz w w.heap.size a zs := fun hne => by
  have hp : 0 < n := by rw [hn]; exact List.length_pos_iff.2 hne
  rcases h.2 with ⟨hv, rfl⟩ | ⟨g, cap, cur, hv, hg, hh, r⟩
  · omega
  · cases hv
    refine ⟨g, 0, rfl, (Array.getElem?_eq_some_iff.1 hh).1, fun j cs hz i v hv => ?_⟩
    have hf := flat_at hl hz hv
    have hlt : j * sz + i < n * sz := by
      have := (List.getElem?_eq_some_iff.1 hf).1
      rw [flat_len hl, ← hn] at this
      exact this
    rw [Nat.zero_add]
    exact (h.cellAt _ hlt).trans hf
theorem own_slice {w : World} {B : Nat} {e : TypeId} {size n : Nat} {v : Value} {xs : List Value} (h : w.ownsRow B e size v n xs) : ∃ a c, v = .slice a n c ∧ n ≤ c := by
  rcases h.2 with ⟨rfl, rfl⟩ | ⟨g, cap, cur, rfl, _, _, hc, _⟩
  · exact ⟨none, 0, rfl, Nat.le_refl _⟩
  · exact ⟨_, _, rfl, hc⟩
/-- The cells that a slice of elements holds, one by one. -/
theorem SlS.flat {sz : Nat} {w : World} {B b off : Nat} {zs : List (List Value)} (hl : ∀ cs ∈ zs, cs.length = sz) (h : SlS sz w B (some ⟨b, off, none⟩) zs) : ∀ j u, zs.flatten[j]? = some u → w.cell? ((⟨b, off, none⟩ : Addr).add j) = some u := fun k u hk => by
  obtain ⟨j, i, cs, e, h1, h2⟩ := flat_of hl hk
  obtain ⟨b', off', e', _, hc⟩ := h (fun e => by subst e; simp at h1)
  simp only [Option.some.injEq, Addr.mk.injEq, and_true] at e'
  obtain ⟨rfl, rfl⟩ := e'
  have := hc j cs h1 i u h2
  have ea : (⟨b, off, none⟩ : Addr).add k = ⟨b, off + k, none⟩ := by unfold Addr.add; split <;> simp_all
  rw [ea, e, ← Nat.add_assoc]
  exact this
end Go.Proofs.Ytbibndpkcilblaa
namespace Go.Proofs.Ytbibndpkcilblaa
open Go.RowKit
set_option maxRecDepth 100000

/-- A walk goes on in a world of which only some facts are kept. -/
theorem abs_world {Q F : World → Prop} (w0 : World) (h : F w0) (hr : ∀ W, F W → Q W) : Q w0 := hr w0 h
theorem cell_old {W w1 : World} {cs : Array Value} {t : TypeId} {b o : Nat} {v : Value} (e : w1 = W.alloc (.cells cs t)) (h : W.cell? ⟨b, o, none⟩ = some v) : w1.cell? ⟨b, o, none⟩ = some v := by
  rw [e]
  have hb : b < W.heap.size := by
    unfold World.cell? at h
    cases ho : W.heap[b]? with
    | none => simp [ho] at h
    | some o => exact (Array.getElem?_eq_some_iff.1 ho).1
  exact (bcell (B := W.heap.size) ((Below.refl _ _).alloc (Nat.le_refl _) _) hb _).trans h
theorem cell_new {W w1 : World} {cs : Array Value} {t : TypeId} {b o : Nat} {v : Value} (e : w1 = W.alloc (.cells cs t)) (hb : b = W.heap.size) (h : cs[o]? = some v) : w1.cell? ⟨b, o, none⟩ = some v := by
  subst e hb
  have e : (W.alloc (.cells cs t)).heap[W.heap.size]? = some (.cells cs t) := Array.getElem?_push_size
  simp only [World.cell?, e]
  exact h
theorem thawed_new' (w : World) (cs : Array Value) (t : TypeId) (k : Nat) {b : Nat} (hb : b = w.heap.size) : (w.alloc (.cells cs t)).frozen? ⟨b, k, none⟩ = false := by
  subst hb
  have e : (w.alloc (.cells cs t)).heap[w.heap.size]? = some (.cells cs t) := Array.getElem?_push_size
  simp only [World.frozen?, e]
  simp
  try omega
theorem set_other {w : World} {b o o' : Nat} {v u : Value} (hne : o ≠ o') (h : w.cell? ⟨b, o', none⟩ = some u) : (w.setCell ⟨b, o, none⟩ v).cell? ⟨b, o', none⟩ = some u := by
  have e : (⟨b, o, none⟩ : Addr) ≠ ⟨b, o', none⟩ := fun e => hne (Addr.mk.inj e).2.1
  exact (World.cell?_setCell_other _ _ _ _ e).trans h
theorem set_same {w : World} {b o : Nat} {v u : Value} (h : w.cell? ⟨b, o, none⟩ = some u) : (w.setCell ⟨b, o, none⟩ v).cell? ⟨b, o, none⟩ = some v := World.cell?_setCell_same' w _ v (by rw [h]; rfl)
theorem lt_of_cell {w : World} {b o : Nat} {v : Value} (h : w.cell? ⟨b, o, none⟩ = some v) : b < w.heap.size := by
  unfold World.cell? at h
  cases ho : w.heap[b]? with
  | none => simp [ho] at h
  | some o => exact (Array.getElem?_eq_some_iff.1 ho).1
theorem cell_al {W : World} {b o : Nat} {v : Value} (h : W.cell? ⟨b, o, none⟩ = some v) (x : Obj) : (W.alloc x).cell? ⟨b, o, none⟩ = some v := (bcell ((Below.refl _ W).alloc (Nat.le_refl _) x) (lt_of_cell h) _).trans h
theorem newsT (W : World) (cs : Array Value) (t : TypeId) (b : Nat) (hb : b = W.heap.size) : ∀ (j : Nat) (u : Value), cs.toList[j]? = some u → (W.alloc (.cells cs t)).cell? ((⟨b, 0, none⟩ : Addr).add j) = some u := fun j u h => by
  subst hb
  rw [show (⟨W.heap.size, 0, none⟩ : Addr).add j = ⟨W.heap.size, j, none⟩ by unfold Addr.add; split <;> simp_all]
  exact cell_new rfl rfl (by simpa using h)
theorem grown_setAt (W : World) (b o : Nat) (v : Value) : W.grownBy (W.setCell ⟨b, o, none⟩ v) (some b) :=
  ⟨rfl, rfl, rfl, by simp [World.setCell], fun k _ hk => Below.heap_setCell W ⟨b, o, none⟩ v k (fun e => hk (by rw [e]))⟩
end Go.Proofs.Ytbibndpkcilblaa
namespace Go.Proofs.Ytbibndpkcilblaa
open Go.RowKit Go.Shelf
attribute [local go_sem] Oper.semAt_some
set_option maxRecDepth 100000

def intV (l : List Int) : List Value := l.map (Value.int .i64)
theorem info_int' : (Try.prog.info? 3).map (fun i => (i.zero, i.size, i.bytes)) = some (some (.int .i64 0), 1, 8) := by kernel_rfl
/-- What holds between the rounds of AppendSeq's. -/
def SeqI (w : World) (ob : Nat) (N : Nat) (pre : List Int) (W : World) : Prop :=
  ∃ vo, Below w.heap.size w W ∧ ob < W.heap.size ∧ (W.cell? ⟨ob, 0, none⟩ = some vo ∧ W.frozen? ⟨ob, 0, none⟩ = false) ∧ W.ownsRow w.heap.size 3 1 vo pre.length (intV pre) ∧ vo.ownBlock ≠ some ob ∧ pre.length ≤ N
theorem SeqI.from (w : World) (ob N : Nat) (B3 : Nat) (hB : w.heap.size ≤ B3) : OwnFrom B3 (SeqI w ob N) := by
  rintro pre W W' row ⟨vo, h1, h2, ⟨h3, h4⟩, h5, h6, h8⟩ hg hr
  have hr' : ∀ r, row = some r → ∃ o : Obj, W.heap[r]? = some o ∧ o.isCells = false := fun r e => (hr r e).2
  refine ⟨vo, h1.grown hg h1.size (fun k e => Nat.le_trans hB (hr k e).1), Nat.lt_of_lt_of_le h2 hg.size, ⟨cell_kept h3 hg hr', (frozen_kept h3 hg hr').trans h4⟩, h5.kept hg ?_, h6, h8⟩
  cases row with
  | none =>
    cases hv : vo.ownBlock with
    | none => exact Or.inl rfl
    | some g => exact Or.inr (by simp)
  | some r =>
    refine Or.inr fun e => ?_
    obtain ⟨o, ho, hc⟩ := hr' r rfl
    rcases h5.2 with ⟨rfl, _⟩ | ⟨g, cap, cur, rfl, _, hh, _⟩
    · cases e
    · cases e
      rw [hh] at ho; cases ho; cases hc
theorem intV_snoc (l : List Int) (x : Int) : intV (l ++ [x]) = intV l ++ [.int .i64 x] := by simp [intV]
/-- A round: an append, and the slice stored into its box. -/
theorem seq_round {w W w6 : World} {ob N B3 : Nat} {pre : List Int} {x : Int} {vo vo' : Value} {o : Obj} (hwo : w.heap.size ≤ ob) (hB3 : ob < B3) (hB : Below w.heap.size w W) (hz : ob < W.heap.size)
    (hc : W.cell? ⟨ob, 0, none⟩ = some vo) (hf : W.frozen? ⟨ob, 0, none⟩ = false) (hown : W.ownsRow w.heap.size 3 1 vo pre.length (intV pre)) (hne : vo.ownBlock ≠ some ob) (hlen : pre.length < N)
    (h6 : (W.alloc o).grownBy w6 vo.ownBlock) (hat : vo'.ownBlock = vo.ownBlock ∨ vo'.ownBlock = some (W.alloc o).heap.size) (ho6 : w6.ownsRow w.heap.size 3 1 vo' (pre.length + 1) (intV pre ++ [.int .i64 x])) :
    KeepsFrom B3 W (w6.setCell ⟨ob, 0, none⟩ vo') ∧ Below w.heap.size W (w6.setCell ⟨ob, 0, none⟩ vo') ∧ SeqI w ob N (pre ++ [x]) (w6.setCell ⟨ob, 0, none⟩ vo') := by
  have hvlt : ∀ g, vo.ownBlock = some g → w.heap.size ≤ g ∧ g < W.heap.size := fun g e => hown.lt g e
  have hz6 := h6.size
  rw [World.size_alloc] at hz6 hat
  have hgc : ∀ g o, vo.ownBlock = some g → W.heap[g]? = some o → o.isCells = true := fun g o e hg => by
    rcases hown.2 with ⟨rfl, _⟩ | ⟨g', cap, cur, rfl, _, hh, _⟩
    · cases e
    · cases e; rw [hh] at hg; cases hg; rfl
  have hb : Below w.heap.size W (w6.setCell ⟨ob, 0, none⟩ vo') := (((Below.refl _ W).alloc hB.size o).grown h6 (by have := hB.size; simp; omega) (fun k e => (hvlt k e).1)).setCell (p := ⟨ob, 0, none⟩) hwo _
  have hc6 : W.heap[ob]? = w6.heap[ob]? := by
    rw [h6.block ob (by simp; omega) (fun e => hne e.symm)]
    exact (((Below.refl W.heap.size W).alloc (Nat.le_refl _) o).block ob hz).symm
  refine ⟨⟨by simp only [World.size_setCell]; omega, fun k o' hk hko ho' => ?_⟩, hb, vo', hB.trans hb, by simp only [World.size_setCell]; omega, ⟨?_, ?_⟩, ?_, ?_, ?_⟩
  · have hkl := (Array.getElem?_eq_some_iff.1 hko).1
    have e6 := ((Below.refl W.heap.size W).alloc (Nat.le_refl _) o).block k hkl
    have e7 := h6.block k (by simp; omega) (fun e => by rw [hgc k o' e.symm hko] at ho'; cases ho')
    have e8 := (grown_setAt w6 ob 0 vo').block k (by omega) (fun e => by cases e; omega)
    rw [e8, e7, e6]; exact hko
  · exact World.cell?_setCell_same' _ _ _ (by rw [World.cell?_of_block (a := ⟨ob, 0, none⟩) (w := W) hc6.symm, hc]; rfl)
  · rw [World.frozen?_setCell, World.frozen?_of_block (a := ⟨ob, 0, none⟩) (w := W) hc6.symm]; exact hf
  · rw [List.length_append, intV_snoc]
    refine ho6.kept (grown_setAt w6 ob 0 vo') (Or.inr fun e => ?_)
    rcases hat with h | h
    · exact hne (by rw [← h]; exact e)
    · rw [h] at e; have := Option.some.inj e; omega
  · intro e
    rcases hat with h | h
    · exact hne (by rw [← h]; exact e)
    · rw [h] at e; have := Option.some.inj e; omega
  · rw [List.length_append]; simp; omega
end Go.Proofs.Ytbibndpkcilblaa
namespace Go.Proofs.Ytbibndpkcilblaa
open Go.RowKit Go.Shelf Go.Sort Go.Maps
set_option maxRecDepth 100000

def sortZ (l : List Int) : List Int := l.mergeSort fun x y => decide (x ≤ y)
theorem sortZ_len (l : List Int) : (sortZ l).length = l.length := by unfold sortZ; exact List.length_mergeSort l
theorem sortZ_mem {l : List Int} {x : Int} : x ∈ sortZ l ↔ x ∈ l := by unfold sortZ; exact List.mem_mergeSort
/-- A slice that the call owns. -/
def ownI (w : World) (B : Nat) (v : Value) (l : List Int) : Prop := w.ownsRow B 3 1 v l.length (intV l)
theorem ownI.slI {w : World} {B : Nat} {a : Option Addr} {n c : Nat} {l : List Int} (h : ownI w B (.slice a n c) l) : SlI w w.heap.size a l := fun hne => by
  have hp : 0 < l.length := List.length_pos_iff.2 hne
  rcases h.2 with ⟨hv, h0⟩ | ⟨g, cap, cur, hv, hg, hh, r⟩
  · omega
  · cases hv
    refine ⟨g, 0, rfl, (Array.getElem?_eq_some_iff.1 hh).1, fun j z hz => ?_⟩
    have hlt : j < l.length := (List.getElem?_eq_some_iff.1 hz).1
    have := World.ownsRow.cellAt h j (by omega)
    rw [Nat.zero_add, this]
    unfold intV
    rw [List.getElem?_map, hz]; rfl
end Go.Proofs.Ytbibndpkcilblaa
