/- Layer 28: LadderMore, plain. -/
import Derived.Test.YtbibndpkcilblaaKEx2
namespace Go.Proofs.Ytbibndpkcilblaa
open Go.RowKit Go.Shelf Go.Sort
set_option maxRecDepth 100000

theorem dropB_take {M lv : Nat} {drop : List Int} (h : dropB M lv drop = true) (m : Nat) : dropB M lv (drop.take m) = true := by
  refine dropB_yes fun i hi => ?_
  rw [List.length_take] at hi
  unfold dropB at h
  rw [List.all_eq_true] at h
  have h1 := h i (List.mem_range.2 (by omega))
  have e : ∀ j, j ≤ i → (drop.take m).getD j 0 = drop.getD j 0 := fun j hj => by
    rw [List.getD_eq_getElem?_getD, List.getD_eq_getElem?_getD, List.getElem?_take, if_pos (by omega)]
  unfold badAt at h1 ⊢
  rw [e i (Nat.le_refl _), e (i - 1) (by omega)]
  rw [Bool.not_eq_true'] at h1
  exact h1
theorem more_sub {t : Pw} {K : Nat} (h : GrN t.lp t.bound K t.next) {drop : List Int} {m : Nat} {x : Int} (hx : x ∈ listN t.lp.length (runF t.lp (drop.take m))) : hasB (listN t.lp.length (runF t.lp drop)) x = true := by
  obtain ⟨i, hi, rfl, hr⟩ := listN_mem.1 hx
  rw [hasB_list hi]
  exact h.more (fun d hd => List.mem_of_mem_take hd) (t.lp.length - i) i hi (Nat.le_refl _) hr
theorem none_nil {t : Pw} {K : Nat} (h : GrN t.lp t.bound K t.next) : listN t.lp.length (runF t.lp []) = [] := by
  apply List.eq_nil_iff_forall_not_mem.2
  intro x hx
  obtain ⟨i, hi, -, hr⟩ := listN_mem.1 hx
  rw [h.none (t.lp.length - i) i hi (Nat.le_refl _)] at hr
  cases hr
theorem hang_self {t : Pw} {K : Nat} (h : GrN t.lp t.bound K t.next) {j : Nat} (hj : j < t.lp.length) : hasB (listN t.lp.length (hangF t.lp j)) (j : Int) = true := by
  rw [hasB_list hj]
  exact (hangF_iff h hj hj).2 (.refl hj)
theorem hang_runs {t : Pw} {K : Nat} (h : GrN t.lp t.bound K t.next) {drop : List Int} (hd : DropOk t.lp t.next drop) {j : Nat} (hj : j < t.lp.length) (hr : runF t.lp drop j = true) {y : Int} (hy : y ∈ listN t.lp.length (hangF t.lp j)) : hasB (listN t.lp.length (runF t.lp drop)) y = true := by
  obtain ⟨k, hk, rfl, hF⟩ := listN_mem.1 hy
  rw [hasB_list hk]
  exact h.hangs hd ((hangF_iff h hj hk).1 hF) hr
/-- Two rows that a law reads. -/
structure MoS (start : Int) (A : Option Addr) (c : Nat) (p : List RowC) (cb : Nat) (ra sa : Option Addr) (R S : List Int) (w W : World) : Prop where
  ff : RfF start A c p cb w W
  r : SlI W W.heap.size ra R
  s : SlI W W.heap.size sa S
theorem MoS.to {start : Int} {A : Option Addr} {c : Nat} {p : List RowC} {cb : Nat} {ra sa : Option Addr} {R S : List Int} {w W W' : World} (h : MoS start A c p cb ra sa R S w W) (hb : Below W.heap.size W W') : MoS start A c p cb ra sa R S w W' :=
  ⟨h.ff.to hb, (h.r.below hb).more hb.size, (h.s.below hb).more hb.size⟩
theorem sl_take {w : World} {B : Nat} {A : Option Addr} {l : List Int} (h : SlI w B A l) (m : Nat) : SlI w B A (l.take m) := fun hne => by
  obtain ⟨b, off, e1, e2, e3⟩ := h (fun e => hne (by rw [e, List.take_nil]))
  refine ⟨b, off, e1, e2, fun j y hj => e3 j y ?_⟩
  rw [List.getElem?_take] at hj
  split at hj
  · exact hj
  · cases hj
theorem sl_mem {l : List Int} {k : Nat} {x : Int} (h : l[k]? = some x) : x ∈ l := List.mem_of_getElem? h
end Go.Proofs.Ytbibndpkcilblaa
