/- Layer 32: the program's Held: plain, and its memory. -/
import Derived.Test.YtflpikickbellaaKG14
import Derived.Test.YtflpikickbellaaKRh
import Derived.Test.YtflpikickbellaaKKy
namespace Go.Proofs.Ytflpikickbellaa
open Go.RowKit Go.Shelf Go.Sort
set_option maxRecDepth 100000

/-! Plain: what the map holds. -/
def conA (s : Sft) (i : Nat) (t : Int) : List Int := if 0 ≤ t ∧ t < (i : Int) ∧ movedN s t.toNat = false then [t] else []
def conB (s : Sft) (l : List Int) (k : Nat) (t : Int) : List Int := conA s s.n t ++ (l.take k).filter fun x => decide (s.to_.getD x.toNat 0 = t)
theorem unmoved {s : Sft} {i : Nat} (h : movedN s i = false) : s.to_.getD i 0 = (i : Int) := by
  unfold movedN at h
  rw [Bool.or_eq_false_iff] at h
  have h1 := h.1
  rw [decide_eq_false_iff_not] at h1
  have : offN s i = 0 := by
    by_cases e : offN s i = 0
    · exact e
    · exact absurd e h1
  unfold offN at this
  omega
theorem conA_zero (s : Sft) : conA s 0 = fun _ => [] := by
  funext t
  unfold conA
  rw [if_neg (by omega)]
theorem conA_skip {s : Sft} {i : Nat} (h : movedN s i = true) : conA s (i + 1) = conA s i := by
  funext t
  unfold conA
  by_cases ht : t = (i : Int)
  · subst ht
    rw [if_neg, if_neg]
    · omega
    · rintro ⟨-, -, h3⟩
      rw [show ((i : Int)).toNat = i by omega, h] at h3
      cases h3
  · by_cases hc : 0 ≤ t ∧ t < (i : Int) ∧ movedN s t.toNat = false
    · rw [if_pos hc, if_pos ⟨hc.1, by omega, hc.2.2⟩]
    · rw [if_neg hc, if_neg (fun h => hc ⟨h.1, by omega, h.2.2⟩)]
theorem conA_step {s : Sft} {i : Nat} (h : movedN s i = false) : conA s (i + 1) = upd (conA s i) (i : Int) (conA s i (i : Int) ++ [(i : Int)]) := by
  funext t
  by_cases ht : t = (i : Int)
  · subst ht
    rw [upd_same]
    unfold conA
    rw [if_pos ⟨by omega, by omega, by rw [show ((i : Int)).toNat = i by omega]; exact h⟩, if_neg (by omega)]
    rfl
  · rw [upd_other _ _ ht]
    unfold conA
    by_cases hc : 0 ≤ t ∧ t < (i : Int) ∧ movedN s t.toNat = false
    · rw [if_pos hc, if_pos ⟨hc.1, by omega, hc.2.2⟩]
    · rw [if_neg hc, if_neg (fun h => hc ⟨h.1, by omega, h.2.2⟩)]
theorem conA_len (s : Sft) (i : Nat) (t : Int) : (conA s i t).length ≤ 1 := by unfold conA; split <;> simp
theorem conB_zero (s : Sft) (l : List Int) : conB s l 0 = conA s s.n := by
  funext t
  unfold conB
  rw [List.take_zero, List.filter_nil, List.append_nil]
theorem conB_step {s : Sft} {l : List Int} {k i : Nat} (h : l[k]? = some (i : Int)) : conB s l (k + 1) = upd (conB s l k) (s.to_.getD i 0) (conB s l k (s.to_.getD i 0) ++ [(i : Int)]) := by
  obtain ⟨hk, e⟩ := List.getElem?_eq_some_iff.1 h
  have e2 : ∀ t, conB s l (k + 1) t = conB s l k t ++ if s.to_.getD i 0 = t then [(i : Int)] else [] := fun t => by
    unfold conB
    rw [List.take_succ_eq_append_getElem hk, e, List.filter_append, List.append_assoc]
    congr 2
    by_cases hx : s.to_.getD i 0 = t
    · rw [if_pos hx, List.filter_cons_of_pos (by rw [show ((i : Int)).toNat = i by omega, decide_eq_true hx])]; rfl
    · rw [if_neg hx, List.filter_cons_of_neg (by rw [show ((i : Int)).toNat = i by omega, decide_eq_false hx]; simp)]; rfl
  funext t
  rw [e2]
  by_cases ht : t = s.to_.getD i 0
  · subst ht; rw [if_pos rfl, upd_same]
  · rw [if_neg (fun e => ht e.symm), upd_other _ _ ht, List.append_nil]
theorem conB_len (s : Sft) (l : List Int) (k : Nat) (t : Int) : (conB s l k t).length ≤ k + 1 := by
  unfold conB
  rw [List.length_append]
  have h1 := conA_len s s.n t
  have h2 := List.length_filter_le (fun x : Int => decide (s.to_.getD x.toNat 0 = t)) (l.take k)
  rw [List.length_take] at h2
  omega
theorem conB_held (s : Sft) (l : List Int) (t : Nat) : conB s l l.length (t : Int) = heldC s l t := by
  unfold conB heldC conA
  rw [List.take_length, show ((t : Int)).toNat = t by omega]
  congr 1
  by_cases hc : t < s.n ∧ s.to_.getD t 0 = (t : Int) ∧ movedN s t = false
  · rw [if_pos hc, if_pos ⟨by omega, by omega, hc.2.2⟩]
  · rw [if_neg hc, if_neg (fun h => hc ⟨by omega, unmoved h.2.2, h.2.2⟩)]
theorem conB_range {s : Sft} (hs : SftOk s) {l : List Int} (hl : okL s l) {k : Nat} {t : Int} (h : conB s l k t ≠ []) : 0 ≤ t ∧ t ≤ 100 := by
  obtain ⟨x, hx⟩ := List.exists_mem_of_ne_nil _ h
  unfold conB at hx
  rcases List.mem_append.1 hx with h1 | h1
  · unfold conA at h1
    split at h1
    · rename_i hc
      have := hs.len
      omega
    · cases h1
  · obtain ⟨h2, h3⟩ := List.mem_filter.1 h1
    obtain ⟨i, rfl, hi⟩ := hl x (List.mem_of_mem_take h2)
    rw [decide_eq_true_eq, show ((i : Int)).toNat = i by omega] at h3
    have := hs.to_ i hi
    omega
def domB (C : Int → List Int) (t : Int) : Bool := !(C t).isEmpty
theorem domB_iff {C : Int → List Int} {t : Int} : domB C t = true ↔ C t ≠ [] := by
  unfold domB
  cases C t <;> simp
theorem domB_upd {G : Int → Option Value} {C : Int → List Int} (h : ∀ t, (G t).isSome = domB C t) (t : Int) (v : Value) (x : Int) : ∀ u, (upd G t (some v) u).isSome = domB (upd C t (C t ++ [x])) u := fun u => by
  unfold domB
  by_cases e : u = t
  · subst e; rw [upd_same, upd_same]; cases C u <;> rfl
  · rw [upd_other _ _ e, upd_other _ _ e]; exact h u
theorem heldN_fst (s : Sft) (l : List Int) (k : Nat) : (heldN s l k).map (fun p => (p.1 : Int)) = ((List.range k).filter fun t => decide (heldC s l t ≠ [])).map fun t : Nat => (t : Int) := by
  unfold heldN
  rw [List.map_map]
  rfl
theorem heldN_mem {s : Sft} {l : List Int} {k : Nat} {p : Nat × List Int} (h : p ∈ heldN s l k) : p.1 < k ∧ p.2 = heldC s l p.1 := by
  unfold heldN at h
  obtain ⟨t, ht, rfl⟩ := List.mem_map.1 h
  exact ⟨List.mem_range.1 (List.mem_filter.1 ht).1, rfl⟩
/-- The keys, sorted. -/
theorem keys_held {s : Sft} (hs : SftOk s) {l : List Int} (hl : okL s l) {G : Int → Option Value} {xs : List Int} (hx : KyOf G xs) (hd : ∀ t, (G t).isSome = domB (conB s l l.length) t) : sortZ xs = (heldN s l 101).map fun p => (p.1 : Int) := by
  rw [heldN_fst]
  refine sort_range hx.1 fun x => ?_
  rw [hx.2, hd, domB_iff]
  constructor
  · intro h
    have := conB_range hs hl h
    refine ⟨x.toNat, by omega, by omega, ?_⟩
    rw [decide_eq_true_eq, ← conB_held, show ((x.toNat : Nat) : Int) = x by omega]
    exact h
  · rintro ⟨k, -, rfl, h⟩
    rw [decide_eq_true_eq, ← conB_held] at h
    exact h
/-! The map's memory. -/
structure HmA (W1 : World) (mb n : Nat) (G : Int → Option Value) (C : Int → List Int) (W : World) : Prop where
  mp : MpR W W1.heap.size mb n G C
  lo : Below W1.heap.size W1 W
  dom : ∀ t, (G t).isSome = domB C t
theorem HmA.to {W1 W W' : World} {mb n : Nat} {G : Int → Option Value} {C : Int → List Int} (h : HmA W1 mb n G C W) (hb : Below W.heap.size W W') : HmA W1 mb n G C W' := ⟨h.mp.to hb, h.lo.trans (hb.mono h.lo.size), h.dom⟩
theorem HmA.new (W1 : World) : HmA W1 W1.heap.size 0 (fun _ => none) (fun _ => []) (W1.alloc (.map #[] 0)) := ⟨MpR.new W1 (Nat.le_refl _), al_t _ _, fun _ => rfl⟩
/-- m[t] = append(m[t], x). -/
theorem HmA.step {W1 W : World} {mb n : Nat} {G : Int → Option Value} {C : Int → List Int} (h : HmA W1 mb n G C W) {t : Int} (ht : wfK t) (hn : n ≤ 1000) (hl : (C t).length ≤ 1000) (x : Int) (g : Nat) (hg : W.cell? ⟨g, 0, none⟩ = some (.int .i64 x)) {a : Option Addr} {k : Nat} (hv : vRow G t = .slice a (C t).length k) :
    ∃ v' w2, (Builtin.append_ #[22, 22] 22 #[.slice a (C t).length k, .slice (some ⟨g, 0, none⟩) 1 1]).run Try.prog W = .ok v' w2 ∧ Below W1.heap.size W1 w2 ∧
      ∀ W3, Below w2.heap.size w2 W3 → ∃ w4, (Instr.mapUpdate 70 (.map (some mb)) (.int .i64 t) v').run Try.prog W3 = .ok () w4 ∧ HmA W1 mb (n + 1) (upd G t (some v')) (upd C t (C t ++ [x])) w4 := by
  obtain ⟨A', c', w2, hr, hT, hgr, hnb⟩ := h.mp.app t x g hg (by omega)
  rw [hv] at hr
  have hlo2 : Below W1.heap.size W1 w2 := h.lo.grown hgr h.lo.size (fun j e => (h.mp.lt t j e).1)
  refine ⟨_, w2, hr, hlo2, fun W3 hb3 => ?_⟩
  obtain ⟨w4, h4, hm4, hg4⟩ := (hT.to hb3).put (by unfold maxLen; omega) ht
  exact ⟨w4, h4, hm4, (hlo2.trans (hb3.mono hlo2.size)).grown hg4 (Nat.le_trans hlo2.size hb3.size) (fun j e => by cases e; exact h.mp.lo), domB_upd h.dom t _ x⟩
/-- A row as a slice that is not in a newer block. -/
theorem HmA.slv {W1 W : World} {mb n : Nat} {G : Int → Option Value} {C : Int → List Int} (h : HmA W1 mb n G C W) (t : Int) {v : Value} (hv : ∀ b, v.ownBlock = some b → W.heap.size ≤ b) {W' : World} (hb : Below W.heap.size W W') :
    ∃ a k, vRow G t = .slice a (C t).length k ∧ (C t).length ≤ k ∧ SlIv W' v a (C t) := by
  have h1 := h.mp.row t
  obtain ⟨a, k, e, hk⟩ := own_slice h1
  refine ⟨a, k, e, hk, fun hn => ?_⟩
  rw [e] at h1
  rcases h1.2 with ⟨-, h0⟩ | ⟨g, cap, cur, hv2, hg, hh, -⟩
  · exact absurd (List.length_eq_zero_iff.1 h0) hn
  · cases hv2
    have hlt := (Array.getElem?_eq_some_iff.1 hh).1
    refine ⟨g, 0, rfl, Nat.lt_of_lt_of_le hlt hb.size, fun e2 => by have := hv g e2; omega, fun j z hz => ?_⟩
    have hj := (List.getElem?_eq_some_iff.1 hz).1
    rw [bcell hb hlt, Nat.zero_add, World.ownsRow.cellAt h1 j (by omega)]
    unfold intV
    rw [List.getElem?_map, hz]; rfl
end Go.Proofs.Ytflpikickbellaa
