/- Maps keyed by int, as the function from keys to values: look-up, store, delete, length. -/
import Derived.Test.YtflpikickbellaaKBase
import Derived.Maps.OwnSet
import Derived.Maps.RangeWalk
import Derived.Lib.SlKeysI
namespace Go.Proofs.Ytflpikickbellaa
open Go.RowKit Go.Maps Go.ChangeMaps
set_option maxRecDepth 100000

/-- An element reads as itself. -/
def rawR : Value → Option (DataW Value × List MemPlace) := fun v => some (.held v, [])
def litK (k : Int) : Lit := .int .i64 k
/-- Which keys are numbers of Go's int. -/
def wfK (k : Int) : Prop := (Lit.int .i64 k).wf = true
/-- The datum says what the function says. -/
structure MapD (G : Int → Option Value) (D : DataW Value) : Prop where
  has : ∀ k, Maps.has D (litK k) = (G k).isSome
  at_ : ∀ k v z, G k = some v → D.atKey (litK k) z = .held v
theorem litK_inj {a b : Int} (h : a ≠ b) : litK a ≠ litK b := fun e => h (by injection e)
theorem litK_key (k : Int) : WideAt.IsKeyLit (litK k) := by unfold litK; trivial
theorem mapD_empty : MapD (fun _ => none) (.map []) := ⟨fun _ => rfl, fun _ _ _ h => by cases h⟩
theorem MapD.put {G : Int → Option Value} {D : DataW Value} (h : MapD G D) (hD : IsMap D) (k : Int) (v : Value) : MapD (fun j => if j = k then some v else G j) (D.put (litK k) (.held v)) := by
  refine ⟨fun j => ?_, fun j u z hj => ?_⟩
  · by_cases e : j = k
    · subst e
      rw [if_pos rfl, has_put_same hD (litK_key j)]; rfl
    · rw [if_neg e, has_put_other (litK_inj e)]
      exact h.has j
  · by_cases e : j = k
    · subst e
      rw [if_pos rfl] at hj
      cases hj
      exact atKey_put_same hD (litK_key j) _ _
    · rw [if_neg e] at hj
      rw [atKey_put_other (litK_inj e)]
      exact h.at_ j u z hj
theorem MapD.del {G : Int → Option Value} {D : DataW Value} (h : MapD G D) (k : Int) : MapD (fun j => if j = k then none else G j) (D.del (litK k)) := by
  refine ⟨fun j => ?_, fun j u z hj => ?_⟩
  · by_cases e : j = k
    · subst e
      rw [if_pos rfl, has_del_same]; rfl
    · rw [if_neg e, has_del_other (litK_inj e)]
      exact h.has j
  · by_cases e : j = k
    · rw [if_pos e] at hj; cases hj
    · rw [if_neg e] at hj
      rw [atKey_del_other (litK_inj e)]
      exact h.at_ j u z hj
/-- Block mb is a map of at most n entries that holds what the function says. -/
def MapV (w : World) (mb n : Nat) (G : Int → Option Value) : Prop := ∃ D, w.ownsMap Try.prog 3 rawR mb n D ∧ MapD G D
theorem MapV.lt {w : World} {mb n : Nat} {G : Int → Option Value} (h : MapV w mb n G) : mb < w.heap.size := by obtain ⟨D, h1, -⟩ := h; exact h1.lt
theorem MapV.new (w : World) : MapV (w.alloc (.map #[] 0)) w.heap.size 0 (fun _ => none) := ⟨.map [], World.ownsMap_made _ _ _ _, mapD_empty⟩
theorem MapV.mono {w : World} {mb n n' : Nat} {G : Int → Option Value} (h : MapV w mb n G) (hn : n ≤ n') : MapV w mb n' G := by obtain ⟨D, h1, h2⟩ := h; exact ⟨D, h1.mono hn, h2⟩
theorem MapV.kept {w w' : World} {mb n : Nat} {G : Int → Option Value} {row : Option Nat} (h : MapV w mb n G) (hg : w.grownBy w' row) (hne : some mb ≠ row) : MapV w' mb n G := by
  obtain ⟨D, h1, h2⟩ := h; exact ⟨D, h1.kept hg hne, h2⟩
theorem MapV.setCell {w : World} {mb n : Nat} {G : Int → Option Value} (h : MapV w mb n G) {a : Addr} (ha : mb ≠ a.block) (u : Value) : MapV (w.setCell a u) mb n G := by
  obtain ⟨D, h1, h2⟩ := h; exact ⟨D, h1.setCell ha u, h2⟩
theorem MapV.ext {w : World} {mb n : Nat} {G G' : Int → Option Value} (h : MapV w mb n G) (he : ∀ k, G k = G' k) : MapV w mb n G' := by
  obtain rfl : G = G' := funext he
  exact h
theorem MapV.below {w w' : World} {mb n B : Nat} {G : Int → Option Value} (h : MapV w mb n G) (hb : Below B w w') (hm : mb < B) : MapV w' mb n G := by
  obtain ⟨D, ⟨es, clock, hh, F, hs, hD⟩, h2⟩ := h
  exact ⟨D, ⟨es, clock, (hb.block mb hm).trans hh, F, hs, hD⟩, h2⟩
theorem keyK {k : Int} (hk : wfK k) : keyOf Try.prog 3 (.int .i64 k) = some (litK k) := keyOf_int_mk Try.underlying3 hk
/-- m[k]. -/
theorem MapV.look {w : World} {mb n : Nat} {G : Int → Option Value} (h : MapV w mb n G) {T E : TypeId} (hT : Try.prog.underlying T = some (.map 3 E)) {z : Value} (hz : (zeroValue E).run Try.prog w = .ok z w) {k : Int} (hk : wfK k) :
    (Instr.lookup T (.map (some mb)) (.int .i64 k) false).run Try.prog w = .ok ((G k).getD z) w := by
  obtain ⟨D, h1, h2⟩ := h
  obtain ⟨v, ps, hr, hv⟩ := h1.lookup (int_keyed Try.underlying3) hT hz (zd := .held z) (zp := []) rfl (keyK hk)
  rw [hr]
  congr 1
  unfold rawR at hv
  simp only [Option.some.injEq, Prod.mk.injEq] at hv
  cases hG : G k with
  | none =>
    have := h2.has k
    rw [hG] at this
    rw [atKey_of_not_has this] at hv
    injection hv.1
  | some u =>
    rw [h2.at_ k u _ hG] at hv
    injection hv.1
/-- v, ok := m[k]. -/
theorem MapV.look_ok {w : World} {mb n : Nat} {G : Int → Option Value} (h : MapV w mb n G) {T E : TypeId} (hT : Try.prog.underlying T = some (.map 3 E)) {z : Value} (hz : (zeroValue E).run Try.prog w = .ok z w) {k : Int} (hk : wfK k) :
    (Instr.lookup T (.map (some mb)) (.int .i64 k) true).run Try.prog w = .ok (.tuple #[(G k).getD z, .bool (G k).isSome]) w := by
  obtain ⟨D, h1, h2⟩ := h
  obtain ⟨v, ps, hr, hv⟩ := h1.look_ok (int_keyed Try.underlying3) hT hz (zd := .held z) (zp := []) rfl (keyK hk)
  rw [hr, h2.has k]
  unfold rawR at hv
  simp only [Option.some.injEq, Prod.mk.injEq] at hv
  have e : v = (G k).getD z := by
    cases hG : G k with
    | none =>
      have := h2.has k
      rw [hG] at this
      rw [atKey_of_not_has this] at hv
      injection hv.1
    | some u =>
      rw [h2.at_ k u _ hG] at hv
      injection hv.1
  rw [e]
/-- m[k] = v. -/
theorem MapV.put {w : World} {mb n : Nat} {G : Int → Option Value} (h : MapV w mb n G) (hn : n < maxLen) {T E : TypeId} (hT : Try.prog.underlying T = some (.map 3 E)) {k : Int} (hk : wfK k) (v : Value) :
    ∃ w', (Instr.mapUpdate T (.map (some mb)) (.int .i64 k) v).run Try.prog w = .ok () w' ∧ MapV w' mb (n + 1) (fun j => if j = k then some v else G j) ∧ w.mapTurned w' mb := by
  obtain ⟨D, h1, h2⟩ := h
  obtain ⟨w', hr, h3, h4⟩ := h1.store (int_keyed Try.underlying3) hT hn (keyK hk) (val := v) (d := .held v) (ps := []) rfl
  exact ⟨w', hr, ⟨_, h3, h2.put h1.isMap k v⟩, h4⟩
/-- delete(m, k). -/
theorem MapV.drop {w : World} {mb n : Nat} {G : Int → Option Value} (h : MapV w mb n G) {T E : TypeId} (hT : Try.prog.underlying T = some (.map 3 E)) {k : Int} (hk : wfK k) (ty : TypeId) :
    ∃ w', (Builtin.delete_ #[T, 3] ty #[.map (some mb), .int .i64 k]).run Try.prog w = .ok (.tuple #[]) w' ∧ MapV w' mb n (fun j => if j = k then none else G j) ∧ w.mapTurned w' mb := by
  obtain ⟨D, h1, h2⟩ := h
  obtain ⟨w', hr, h3, h4⟩ := h1.drop (int_keyed Try.underlying3) hT (keyK hk) ty
  exact ⟨w', hr, ⟨_, h3, h2.del k⟩, h4⟩
theorem key_lit {l : Lit} (h : KeysOf Try.prog 3 l) : ∃ k, l = litK k ∧ wfK k := by
  obtain ⟨v, hv⟩ := h
  obtain ⟨a, -, h1, h2⟩ := keyOf_int_inv Try.underlying3 hv
  exact ⟨a, h1, h2⟩
theorem same_self (k : Int) : (litK k).sameKey (litK k) = true := by
  unfold litK
  simp [Lit.sameKey]
/-- The keys, and how many. -/
theorem MapV.keys {w : World} {mb n : Nat} {G : Int → Option Value} (h : MapV w mb n G) :
    ∃ D, w.ownsMap Try.prog 3 rawR mb n D ∧ MapD G D ∧ (intKeys D).Nodup ∧ (∀ k, k ∈ intKeys D ↔ (G k).isSome = true) ∧ (∀ k ∈ intKeys D, wfK k) ∧ Maps.size D = (intKeys D).length := by
  obtain ⟨D, h1, h2⟩ := h
  refine ⟨D, h1, h2, ?_⟩
  obtain ⟨es0, hD, hap⟩ := h1.tidy (int_keyed Try.underlying3)
  obtain ⟨es, clock, hb, F, hs, hD2⟩ := h1
  have hk : ∀ p ∈ es0, ∃ k, p.1 = litK k ∧ wfK k := fun p hp => by
    rw [hD] at hD2
    injection hD2 with e
    rw [e] at hp
    exact key_lit (Maps.fit_keys F p (Go.mem_sorted.1 hp))
  have hhas := h2.has
  subst hD
  have hm : ∀ k, k ∈ intKeys (DataW.map es0) ↔ (G k).isSome = true := fun k => by
    rw [← hhas k, Maps.has_eq, List.any_eq_true]
    unfold intKeys
    rw [List.mem_map]
    constructor
    · rintro ⟨p, hp, e⟩
      obtain ⟨k', e', -⟩ := hk p hp
      rw [e'] at e
      have e2 : k' = k := e
      subst e2
      exact ⟨p, hp, by rw [e']; exact same_self k'⟩
    · rintro ⟨p, hp, e⟩
      obtain ⟨k', e', -⟩ := hk p hp
      by_cases ek : k' = k
      · exact ⟨p, hp, by rw [e', ek]; rfl⟩
      · rw [e', sameKey_ne (litK_inj ek)] at e
        cases e
  refine ⟨?_, hm, fun k hk2 => ?_, ?_⟩
  · unfold intKeys
    rw [List.Nodup, List.pairwise_map]
    refine List.Pairwise.imp_of_mem ?_ hap
    intro p q hp hq hne e
    obtain ⟨k, e1, -⟩ := hk p hp
    obtain ⟨k', e2, -⟩ := hk q hq
    apply hne
    rw [e1, e2] at e ⊢
    have e3 : k = k' := e
    rw [e3]
  · unfold intKeys at hk2
    obtain ⟨p, hp, e⟩ := List.mem_map.1 hk2
    obtain ⟨k', e', hw⟩ := hk p hp
    rw [e'] at e
    have e3 : k' = k := e
    rw [← e3]; exact hw
  · unfold intKeys
    rw [List.length_map, Maps.size_eq]
/-- len(m), where the keys are told by a list. -/
theorem MapV.len {w : World} {mb n : Nat} {G : Int → Option Value} (h : MapV w mb n G) {T E : TypeId} (hT : Try.prog.underlying T = some (.map 3 E)) {L : List Int} (hL : L.Nodup) (hm : ∀ k, k ∈ L ↔ (G k).isSome = true) (ty : TypeId) :
    (Builtin.len_ #[T] ty #[.map (some mb)]).run Try.prog w = .ok (.int .i64 (L.length : Int)) w := by
  obtain ⟨D, h1, h2, h3, h4, -, h5⟩ := h.keys
  have hp : (intKeys D).Perm L := (List.perm_ext_iff_of_nodup h3 hL).2 fun k => by rw [h4, hm]
  rw [h1.len hT ty, h5, hp.length_eq]
end Go.Proofs.Ytflpikickbellaa
