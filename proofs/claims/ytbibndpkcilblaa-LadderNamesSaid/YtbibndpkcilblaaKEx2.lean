/- Layer 28: LadderExact, plain. -/
import Derived.Test.YtbibndpkcilblaaKEn
import Derived.Test.YtbibndpkcilblaaKAl28
namespace Go.Proofs.Ytbibndpkcilblaa
open Go.RowKit Go.Shelf Go.Sort
set_option maxRecDepth 100000

/-- Whether a list has a number, as Has says it. -/
def hasB (l : List Int) (x : Int) : Bool := l.any fun y => decide (y = x)
theorem hasB_iff {l : List Int} {x : Int} : hasB l x = true ↔ x ∈ l := by
  unfold hasB
  rw [List.any_eq_true]
  constructor
  · rintro ⟨y, hy, e⟩
    rw [decide_eq_true_eq] at e
    subst e; exact hy
  · exact fun h => ⟨x, h, decide_eq_true rfl⟩
theorem hasB_list {M : Nat} {F : Nat → Bool} {i : Nat} (hi : i < M) : hasB (listN M F) (i : Int) = F i := by
  rw [Bool.eq_iff_iff, hasB_iff, listN_mem]
  constructor
  · rintro ⟨k, h1, e, h2⟩
    obtain rfl : i = k := by omega
    exact h2
  · exact fun h => ⟨i, hi, rfl, h⟩
theorem dropE_no {lv k : Nat} {bd : List Int} : (!dropE lv bd (k : Int)) = true ↔ EndN lv bd k := by
  unfold dropE EndN
  by_cases h : lv ≤ k
  · have h1 : decide ((k : Int) < (lv : Int)) = false := decide_eq_false (by omega)
    rw [h1]
    exact ⟨fun _ => Or.inl h, fun _ => rfl⟩
  · have h1 : decide ((k : Int) < (lv : Int)) = true := decide_eq_true (by omega)
    rw [h1, Bool.true_and, Bool.not_not, List.contains_iff_mem]
    exact ⟨Or.inr, fun h2 => h2.resolve_left h⟩
theorem endF_iff {t : Pw} {K : Nat} (h : GrN t.lp t.bound K t.next) {i k : Nat} (hi : i < t.lp.length) (hk : k < t.lp.length) : endF t i k = true ↔ Reach t.lp i k ∧ EndN t.next t.bound k := by
  unfold endF
  rw [Bool.and_eq_true, hangF_iff h hi hk, dropE_no]
theorem exact_plain {t : Pw} {K : Nat} (h : GrN t.lp t.bound K t.next) {drop : List Int} (hd : DropOk t.lp t.next drop) {i : Nat} (hi : i < t.lp.length) :
    listN t.lp.length (endF t i) ≠ [] ∧ hasB (listN t.lp.length (runF t.lp drop)) (i : Int) = (((listN t.lp.length (endF t i)).all fun e => hasB drop e) && (decide (rowN t.lp i > 0) || hasB drop (i : Int))) := by
  obtain ⟨h1, q, hq1, hq2⟩ := h.exact_ hd (t.lp.length - i) i hi (Nat.le_refl _)
  refine ⟨fun e => ?_, ?_⟩
  · have : (q : Int) ∈ listN t.lp.length (endF t i) := listN_mem.2 ⟨q, hq1.lt, rfl, (endF_iff h hi hq1.lt).2 ⟨hq1, hq2⟩⟩
    rw [e] at this
    cases this
  · rw [hasB_list hi, Bool.eq_iff_iff, h1, Bool.and_eq_true, Bool.or_eq_true, decide_eq_true_eq, hasB_iff, List.all_eq_true]
    refine and_congr ?_ Iff.rfl
    constructor
    · intro ha x hx
      obtain ⟨k, hk, rfl, hF⟩ := listN_mem.1 hx
      obtain ⟨r1, r2⟩ := (endF_iff h hi hk).1 hF
      exact hasB_iff.2 (ha k r1 r2)
    · intro ha k r1 r2
      exact hasB_iff.1 (ha _ (listN_mem.2 ⟨k, r1.lt, rfl, (endF_iff h hi r1.lt).2 ⟨r1, r2⟩⟩))
theorem all_next {l : List Int} {f : Int → Bool} {k : Nat} {x : Int} (h : l[k]? = some x) : (l.take (k + 1)).all f = ((l.take k).all f && f x) := by
  obtain ⟨hj, e⟩ := List.getElem?_eq_some_iff.1 h
  rw [List.take_succ_eq_append_getElem hj, e, List.all_append]
  simp
/-- The rows that a law reads behind its calls. -/
structure ExS (start : Int) (A : Option Addr) (c : Nat) (p : List RowC) (cb : Nat) (la ra ea : Option Addr) (lp : List Lp) (R E : List Int) (w W : World) : Prop where
  ff : RfF start A c p cb w W
  l : SlL W W.heap.size la lp
  r : SlI W W.heap.size ra R
  e : SlI W W.heap.size ea E
theorem ExS.to {start : Int} {A : Option Addr} {c : Nat} {p : List RowC} {cb : Nat} {la ra ea : Option Addr} {lp : List Lp} {R E : List Int} {w W W' : World} (h : ExS start A c p cb la ra ea lp R E w W) (hb : Below W.heap.size W W') : ExS start A c p cb la ra ea lp R E w W' :=
  ⟨h.ff.to hb, (h.l.below hb).more hb.size, (h.r.below hb).more hb.size, (h.e.below hb).more hb.size⟩
theorem Of_ok (start : Int) (A : Option Addr) (c : Nat) (p : List RowC) (hw : RowsWf p) (he : chartE start p = 0) (h12 : p.length ≤ 12) (w : World) (hs : SlC w w.heap.size A p) :
    Calls Try.prog 21 #[.agg #[.int .i64 start, .slice A p.length c]] w fun e w' => LoPost 0 (workX start p).lp w e w' := by
  have h := Of_any start A c p hw (fun _ => h12) w hs
  rw [he] at h
  exact h
theorem runS_ok {start : Int} {p : List RowC} {drop : List Int} (he : chartE start p = 0) (hd : dropB (workX start p).lp.length (workX start p).next drop = true) : runS start p drop = (0, listN (workX start p).lp.length (runF (workX start p).lp drop)) := by
  unfold runS
  rw [if_neg (by rw [he]; decide), if_neg (by rw [hd]; decide)]
end Go.Proofs.Ytbibndpkcilblaa
