/- Layer 28: LadderStops, plain. -/
import Derived.Test.YtbibndpkcilblaaKKi
namespace Go.Proofs.Ytbibndpkcilblaa
open Go.RowKit Go.Shelf Go.Sort
set_option maxRecDepth 100000

theorem stopS_ok {start : Int} {p : List RowC} {drop : List Int} (he : chartE start p = 0) (hd : dropB (workX start p).lp.length (workX start p).next drop = true) : stopS start p drop = (0, listN (workX start p).lp.length (stopF (workX start p).lp drop)) := by
  unfold stopS
  rw [if_neg (by rw [he]; decide), if_neg (by rw [hd]; decide)]
theorem listN_up (M : Nat) (F : Nat → Bool) : (listN M F).Pairwise (· < ·) := by
  unfold listN
  rw [List.pairwise_map]
  exact (List.pairwise_lt_range.filter F).imp fun h => by omega
theorem listN_next {M : Nat} {F : Nat → Bool} {k : Nat} {x y : Int} (hx : (listN M F)[k]? = some x) (hy : (listN M F)[k + 1]? = some y) : x < y := by
  obtain ⟨h1, e1⟩ := List.getElem?_eq_some_iff.1 hx
  obtain ⟨h2, e2⟩ := List.getElem?_eq_some_iff.1 hy
  rw [← e1, ← e2]
  exact List.pairwise_iff_getElem.1 (listN_up M F) _ _ h1 h2 (by omega)
theorem any_next {l : List Int} {f : Int → Bool} {k : Nat} {x : Int} (h : l[k]? = some x) : (l.take (k + 1)).any f = ((l.take k).any f || f x) := by
  obtain ⟨hj, e⟩ := List.getElem?_eq_some_iff.1 h
  rw [List.take_succ_eq_append_getElem hj, e, List.any_append]
  simp
theorem stop_plain {t : Pw} {K : Nat} (h : GrN t.lp t.bound K t.next) {drop : List Int} {m : Nat} (hm : m < t.lp.length) (hs : stopF t.lp drop m = true) :
    hasB (listN t.lp.length (runF t.lp drop)) (m : Int) = false ∧ ((listN t.lp.length (kidF t.lp m)).any fun e => hasB (listN t.lp.length (runF t.lp drop)) e) = true ∧ (((listN t.lp.length (kidF t.lp m)).any fun e => !hasB (listN t.lp.length (runF t.lp drop)) e) = true ∨ decide (rowN t.lp m > 0) = false) := by
  unfold stopF at hs
  rw [Bool.and_eq_true, Bool.not_eq_true', List.any_eq_true] at hs
  obtain ⟨h1, k, hk, h2⟩ := hs
  have hkl := (mem_kids.1 hk).1
  refine ⟨by rw [hasB_list hm]; exact h1, ?_, ?_⟩
  · rw [List.any_eq_true]
    exact ⟨(k : Int), listN_mem.2 ⟨k, hkl, rfl, (kidF_iff hkl).2 hk⟩, by rw [hasB_list hkl]; exact h2⟩
  · rcases h.stops hm h1 hk with h3 | ⟨k', hk', h3⟩
    · exact Or.inr (decide_eq_false (by omega))
    · refine Or.inl ?_
      have hkl' := (mem_kids.1 hk').1
      rw [List.any_eq_true]
      exact ⟨(k' : Int), listN_mem.2 ⟨k', hkl', rfl, (kidF_iff hkl').2 hk'⟩, by rw [hasB_list hkl', h3]; rfl⟩
end Go.Proofs.Ytbibndpkcilblaa
