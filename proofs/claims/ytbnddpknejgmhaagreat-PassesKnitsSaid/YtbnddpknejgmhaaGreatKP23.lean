/- PassesKnits, plain: the loops of a plain chart; what the law asks of each loop. An append of any slice, as a run; the choice of an arm by the world. Rows of numbers, of pairs and of marks that a call owns (layer 32 has them in XSf, XRw, XOf0). -/
import Derived.Test.YtbnddpknejgmhaaGreatKP22
import Derived.Test.YtbnddpknejgmhaaGreatKP1
import Derived.Test.YtbnddpknejgmhaaGreatKP4
import Derived.Test.YtbnddpknejgmhaaGreatKP2
import Derived.Maps.AppendAt
import Derived.BigQuiet
import Derived.ChangeKeysEq
import Derived.Sort.Defs
namespace Go.Proofs.YtbnddpknejgmhaaGreat
open Go.RowKit
set_option maxRecDepth 100000

theorem news_one {s : Stc} (h : s.kind = 1 ∨ s.kind = 8) (row k : Int) (u : List Int) (lp : List Lp) : ∃ x, newsL row k s u lp = [x] ∧ x.par = u ∧ (s.kind = 1 → x.purl = s.purl) := by
  unfold newsL
  rcases h with h | h
  · rw [if_neg (by omega), if_neg (by omega), if_neg (by omega), if_neg (by omega), if_neg (by omega), if_neg (by omega)]
    exact ⟨_, rfl, rfl, fun _ => rfl⟩
  · rw [if_neg (by omega), if_neg (by omega), if_neg (by omega), if_neg (by omega), if_neg (by omega), if_pos h]
    exact ⟨_, rfl, rfl, fun e => by omega⟩
/-- k cells of a plain row are worked. -/
structure RwK (l : List Stc) (t : Pw) (k : Nat) (u : Pw) : Prop where
  len : u.lp.length = t.lp.length + k
  next : u.next = t.next + k
  rows : u.rows = t.rows
  old : ∀ j, j < t.lp.length → u.lp[j]? = t.lp[j]?
  new : ∀ j, j < k → ∃ x, u.lp[t.lp.length + j]? = some x ∧ x.par = [((t.next + j : Nat) : Int)] ∧ ((cellK l j).kind = 1 → x.purl = (cellK l j).purl)
theorem rw_k {row : Int} {l : List Stc} (hl : ∀ s ∈ l, s.kind = 1 ∨ s.kind = 8) (t : Pw) : ∀ k, k ≤ l.length → RwK l t k (rowRun row l t k)
  | 0, _ => ⟨rfl, rfl, rfl, fun _ _ => rfl, fun j hj => by omega⟩
  | k + 1, hk => by
    obtain ⟨h1, h2, h3, h4, h5⟩ := rw_k (row := row) hl t k (by omega)
    have hx : l[k]? = some l[k] := List.getElem?_eq_getElem (by omega)
    have hc := hl _ (List.getElem_mem (show k < l.length by omega))
    have hu := (plain_one hc).1
    have hck : cellK l k = l[k] := by unfold cellK; rw [List.getD_eq_getElem?_getD, hx]; rfl
    rw [rowRun_next hx]
    obtain ⟨x, e1, e2, e3⟩ := news_one hc row (k : Int) (usedN (rowRun row l t k).next (usesS l[k]).toNat) (rowRun row l t k).lp
    unfold stepC
    rw [e1]
    have eu : (usesS l[k]).toNat = 1 := by rw [hu]; rfl
    rw [eu] at e2 ⊢
    have eu1 : usedN (rowRun row l t k).next 1 = [((t.next + k : Nat) : Int)] := by rw [h2]; rfl
    rw [eu1] at e2
    refine ⟨by simp only; rw [List.length_append, h1]; rfl, by simp only; omega, h3, fun j hj => ?_, fun j hj => ?_⟩
    · simp only
      rw [List.getElem?_append_left (by omega)]
      exact h4 j hj
    · simp only
      rcases Nat.lt_or_ge j k with h | h
      · rw [List.getElem?_append_left (by omega)]
        exact h5 j h
      · obtain rfl : j = k := by omega
        rw [List.getElem?_append_right (by omega), show t.lp.length + j - (rowRun row l t j).lp.length = 0 by omega]
        exact ⟨x, rfl, e2, fun hk1 => by rw [hck] at hk1 ⊢; exact e3 hk1⟩
def parK (n r k : Nat) : List Int := if r = 0 then [] else [((n * (r - 1) + k : Nat) : Int)]
def purlK (fs : List (List Stc)) (r k : Nat) : Bool := if r = 0 then false else (cellK (fs.getD (r - 1) []) k).purl
def slipK (fs : List (List Stc)) (r k : Nat) : Bool := if r = 0 then false else decide ((cellK (fs.getD (r - 1) []) k).kind = 8)
/-- The loops of a plain chart. -/
structure LpK (n : Nat) (fs : List (List Stc)) (i : Nat) (t : Pw) : Prop where
  len : t.lp.length = n * (i + 1)
  next : t.next = n * i
  rows : t.rows = (List.range (i + 2)).map fun r : Nat => ((n * r : Nat) : Int)
  at_ : ∀ r k, r ≤ i → k < n → ∃ x, t.lp[n * r + k]? = some x ∧ x.par = parK n r k ∧ (slipK fs r k = false → x.purl = purlK fs r k)
theorem lp_k {n : Nat} {fs : List (List Stc)} (h : PlC n fs) : ∀ i, i ≤ fs.length → LpK n fs i (workP n fs i)
  | 0, _ => by
    refine ⟨by show (startP n).lp.length = _; rw [startP_len]; omega, by simp [workP, startP], by simp [workP, startP, List.range_succ], fun r k hr hk => ?_⟩
    obtain rfl : r = 0 := by omega
    refine ⟨⟨0, (k : Int), [], false⟩, ?_, rfl, fun _ => rfl⟩
    show ((List.range n).map fun i : Nat => (⟨0, (i : Int), [], false⟩ : Lp))[n * 0 + k]? = _
    rw [Nat.mul_zero, Nat.zero_add, List.getElem?_map, List.getElem?_range hk]
    rfl
  | i + 1, hi => by
    obtain ⟨h1, h2, h3, h4⟩ := lp_k h i (by omega)
    have hx : fs[i]? = some fs[i] := List.getElem?_eq_getElem (by omega)
    have hmem : fs[i] ∈ fs := List.getElem_mem (by omega)
    have hlen := h.len _ hmem
    have hgd : fs.getD i [] = fs[i] := by rw [List.getD_eq_getElem?_getD, hx]; rfl
    rw [workP_next hx]
    obtain ⟨r1, r2, r3, r4, r5⟩ := rw_k (row := (i : Int) + 1) (h.kind _ hmem) (workP n fs i) fs[i].length (Nat.le_refl _)
    have m1 : n * (i + 1) = n * i + n := Nat.mul_succ n i
    have m2 : n * (i + 1 + 1) = n * (i + 1) + n := Nat.mul_succ n (i + 1)
    unfold endR
    refine ⟨by simp only; omega, by simp only; omega, ?_, fun r k hr hk => ?_⟩
    · simp only
      rw [r3, h3, List.range_succ (n := i + 2), List.map_append]
      congr 1
      simp only [List.map_cons, List.map_nil]
      congr 1
      rw [r1, h1, hlen, m2]
    · simp only
      rcases Nat.lt_or_ge r (i + 1) with hlt | hge
      · have m3 : n * (r + 1) ≤ n * (i + 1) := Nat.mul_le_mul_left n (by omega)
        have m4 : n * (r + 1) = n * r + n := Nat.mul_succ n r
        rw [r4 _ (by omega)]
        exact h4 r k (by omega) hk
      · obtain rfl : r = i + 1 := by omega
        obtain ⟨x, e1, e2, e3⟩ := r5 k (by omega)
        rw [h1] at e1
        rw [h2] at e2
        refine ⟨x, e1, ?_, fun hs => ?_⟩
        · rw [e2]; unfold parK
          rw [if_neg (by omega), Nat.add_sub_cancel]
        · unfold slipK at hs
          rw [if_neg (by omega), Nat.add_sub_cancel, hgd, decide_eq_false_iff_not] at hs
          unfold purlK
          rw [if_neg (by omega), Nat.add_sub_cancel, hgd]
          refine e3 ?_
          have hmc : cellK fs[i] k ∈ fs[i] := by
            unfold cellK
            rw [List.getD_eq_getElem?_getD, List.getElem?_eq_getElem (by omega)]
            exact List.getElem_mem (by omega)
          rcases h.kind _ hmem _ hmc with h6 | h6
          · exact h6
          · exact absurd h6 hs
/-! ### the law's rows -/
def rwS (n : Nat) (fs : List (List Stc)) : Nat → Nat → St2
  | 0, q => ((List.range q).map mk0, (List.range n).map fun k : Nat => (k : Int))
  | i + 1, q => rowK (decide (i % 2 = 0)) n (fs.getD i []) (stRows n fs i) q
def mN (n : Nat) (fs : List (List Stc)) (i q : Nat) : Nat := (rwS n fs i q).1.length
def curK (n : Nat) (fs : List (List Stc)) (i k : Nat) : Int := (stRows n fs i).2.getD k 0
def ordI (i n q : Nat) : Nat := ordK (decide (i % 2 = 1)) n q
theorem ordI_lt {i n q : Nat} (h : q < n) : ordI i n q < n := ordK_lt h
theorem rwS_end (n : Nat) (fs : List (List Stc)) : ∀ i, rwS n fs i n = stRows n fs i
  | 0 => rfl
  | _ + 1 => rfl
theorem rwS_zero (n : Nat) (fs : List (List Stc)) (i : Nat) : rwS n fs (i + 1) 0 = stRows n fs i := rfl
theorem mN_next (n : Nat) (fs : List (List Stc)) (i : Nat) : mN n fs (i + 1) 0 = mN n fs i n := by unfold mN; rw [rwS_zero, rwS_end]
theorem mN_zero (n : Nat) (fs : List (List Stc)) : mN n fs 0 0 = 0 := rfl
theorem odd_even (i : Nat) : decide ((i + 1) % 2 = 1) = decide (i % 2 = 0) := by
  by_cases h : i % 2 = 0
  · rw [decide_eq_true h, decide_eq_true (by omega)]
  · rw [decide_eq_false h, decide_eq_false (by omega)]
theorem rows_pre (n : Nat) (fs : List (List Stc)) {i j : Nat} (h : i ≤ j) : (stRows n fs i).1 <+: (stRows n fs j).1 := by
  induction j with
  | zero => rw [Nat.le_zero.1 h]; exact List.prefix_refl _
  | succ m ih =>
    rcases Nat.lt_or_ge i (m + 1) with h1 | h1
    · exact (ih (by omega)).trans (rowK_pre (decide (m % 2 = 0)) n (fs.getD m []) (stRows n fs m) (Nat.zero_le n))
    · rw [show i = m + 1 by omega]; exact List.prefix_refl _
theorem rwS_pre (n : Nat) (fs : List (List Stc)) {i q j : Nat} (hq : q ≤ n) (h : i ≤ j) : (rwS n fs i q).1 <+: (stRows n fs j).1 := by
  refine List.IsPrefix.trans ?_ (rows_pre n fs h)
  rw [← rwS_end]
  cases i with
  | zero =>
    show (List.range q).map mk0 <+: (List.range n).map mk0
    exact List.IsPrefix.map _ (by
      obtain ⟨d, rfl⟩ : ∃ d, n = q + d := ⟨n - q, by omega⟩
      rw [List.range_add]
      exact List.prefix_append _ _)
  | succ i => exact rowK_pre _ _ _ _ hq
theorem pre_get {α : Type} {a b : List α} (h : a <+: b) {k : Nat} {x : α} (hx : a[k]? = some x) : b[k]? = some x := by
  obtain ⟨t, rfl⟩ := h
  rw [List.getElem?_append_left (List.getElem?_eq_some_iff.1 hx).1]
  exact hx
/-- A slipped loop is that of its parent. -/
theorem slip_cur {n : Nat} {fs : List (List Stc)} {i q : Nat} (hq : q < n) (hs : slipK fs i (ordI i n q) = true) : 0 < i ∧ mN n fs i (q + 1) = mN n fs i q ∧ curK n fs i (ordI i n q) = curK n fs (i - 1) (ordI i n q) := by
  cases i with
  | zero => cases hs
  | succ i =>
    have hs : decide ((cellK (fs.getD i []) (ordI (i + 1) n q)).kind = 8) = true := hs
    have h8 := of_decide_eq_true hs
    unfold ordI at h8 ⊢
    rw [odd_even] at h8 ⊢
    have e : rowK (decide (i % 2 = 0)) n (fs.getD i []) (stRows n fs i) (q + 1) = rowK (decide (i % 2 = 0)) n (fs.getD i []) (stRows n fs i) q := by
      show stK _ _ _ = _
      unfold stK
      rw [if_pos h8]
    refine ⟨Nat.succ_pos _, ?_, ?_⟩
    · unfold mN
      show (rowK _ _ _ _ _).1.length = (rowK _ _ _ _ _).1.length
      rw [e]
    · show (rowK (decide (i % 2 = 0)) n (fs.getD i []) (stRows n fs i) n).2.getD _ 0 = _
      rw [rowK_done _ _ n hq (Nat.le_refl _), e, rowK_later _ _ _ _ (Nat.le_refl _) hq]
      rfl
/-- A loop that is made. -/
theorem made_cur {n : Nat} {fs : List (List Stc)} {i q j : Nat} (hq : q < n) (hij : i ≤ j) (hs : slipK fs i (ordI i n q) = false) : mN n fs i (q + 1) = mN n fs i q + 1 ∧ curK n fs i (ordI i n q) = (mN n fs i q : Int) ∧ mN n fs i q < (stRows n fs j).1.length ∧
    (stRows n fs j).1[mN n fs i q]? = some ⟨if i = 0 then [] else [curK n fs (i - 1) (ordI i n q)], if purlK fs i (ordI i n q) then 1 else 0, (ordI i n q : Int), 1⟩ := by
  have hp := rwS_pre n fs (i := i) (q := q + 1) (j := j) (by omega) hij
  cases i with
  | zero =>
    have hm : ∀ q, mN n fs 0 q = q := fun q => by unfold mN rwS; rw [List.length_map, List.length_range]
    have hg : (rwS n fs 0 (q + 1)).1[q]? = some (mk0 q) := by
      unfold rwS
      rw [List.getElem?_map, List.getElem?_range (by omega)]; rfl
    have hf := pre_get hp hg
    rw [hm, hm]
    refine ⟨rfl, ?_, (List.getElem?_eq_some_iff.1 hf).1, hf⟩
    unfold curK
    show ((List.range n).map fun k : Nat => (k : Int)).getD q 0 = _
    rw [List.getD_eq_getElem?_getD, List.getElem?_map, List.getElem?_range hq]; rfl
  | succ i =>
    have hs : decide ((cellK (fs.getD i []) (ordI (i + 1) n q)).kind = 8) = false := hs
    have h8 := of_decide_eq_false hs
    unfold ordI at h8 ⊢
    rw [odd_even] at h8 ⊢
    have hl1 := (stRows_len n fs i).1
    have hlt : ordK (decide (i % 2 = 0)) n q < n := ordK_lt hq
    have e : rowK (decide (i % 2 = 0)) n (fs.getD i []) (stRows n fs i) (q + 1) = ((rowK (decide (i % 2 = 0)) n (fs.getD i []) (stRows n fs i) q).1 ++ [⟨[(rowK (decide (i % 2 = 0)) n (fs.getD i []) (stRows n fs i) q).2.getD (ordK (decide (i % 2 = 0)) n q) 0], wantS (cellK (fs.getD i []) (ordK (decide (i % 2 = 0)) n q)), (ordK (decide (i % 2 = 0)) n q : Int), 1⟩], (rowK (decide (i % 2 = 0)) n (fs.getD i []) (stRows n fs i) q).2.set (ordK (decide (i % 2 = 0)) n q) ((rowK (decide (i % 2 = 0)) n (fs.getD i []) (stRows n fs i) q).1.length : Int)) := by
      show stK _ _ _ = _
      unfold stK
      rw [if_neg h8]
    have hlate := rowK_later (left := decide (i % 2 = 0)) (fs.getD i []) (stRows n fs i) q q (Nat.le_refl _) hq
    rw [hlate] at e
    have hg : (rwS n fs (i + 1) (q + 1)).1[mN n fs (i + 1) q]? = some ⟨[(stRows n fs i).2.getD (ordK (decide (i % 2 = 0)) n q) 0], wantS (cellK (fs.getD i []) (ordK (decide (i % 2 = 0)) n q)), (ordK (decide (i % 2 = 0)) n q : Int), 1⟩ := by
      show (rowK _ _ _ _ (q + 1)).1[(rowK _ _ _ _ q).1.length]? = _
      rw [e, List.getElem?_append_right (Nat.le_refl _), Nat.sub_self]
      rfl
    have hf := pre_get hp hg
    refine ⟨?_, ?_, (List.getElem?_eq_some_iff.1 hf).1, ?_⟩
    · unfold mN
      show (rowK _ _ _ _ (q + 1)).1.length = (rowK _ _ _ _ q).1.length + 1
      rw [e, List.length_append]; rfl
    · show (rowK (decide (i % 2 = 0)) n (fs.getD i []) (stRows n fs i) n).2.getD _ 0 = _
      rw [rowK_done _ _ n hq (Nat.le_refl _), e]
      show (List.set _ _ _).getD _ 0 = _
      rw [getD_set (by rw [rowK_len, hl1]; exact hlt), if_pos rfl]
      rfl
    · rw [hf]
      rfl
/-! ### the list `is` of the law -/
structure IsK (n : Nat) (fs : List (List Stc)) (i q : Nat) (L : List Int) : Prop where
  rows : ∀ r k, r < i → k < n → L.getD (n * r + k) 0 = curK n fs r k
  row : ∀ q', q' < q → L.getD (n * i + ordI i n q') 0 = curK n fs i (ordI i n q')
theorem IsK.start (n : Nat) (fs : List (List Stc)) (L : List Int) : IsK n fs 0 0 L := ⟨fun r k h _ => by omega, fun q' h => by omega⟩
theorem IsK.step {n : Nat} {fs : List (List Stc)} {i q : Nat} {L : List Int} (h : IsK n fs i q L) (hq : q < n) {v : Int} (hv : v = curK n fs i (ordI i n q)) (hl : n * i + ordI i n q < L.length) : IsK n fs i (q + 1) (L.set (n * i + ordI i n q) v) := by
  refine ⟨fun r k hr hk => ?_, fun q' hq' => ?_⟩
  · have m1 : n * (r + 1) ≤ n * i := Nat.mul_le_mul_left n (by omega)
    have m2 : n * (r + 1) = n * r + n := Nat.mul_succ n r
    rw [getD_set hl, if_neg (by omega)]
    exact h.rows r k hr hk
  · rw [getD_set hl]
    by_cases e : q' = q
    · rw [e, if_pos rfl]; exact hv
    · have hne : ordI i n q' ≠ ordI i n q := fun x => e (ordK_inj (by omega) hq x)
      rw [if_neg (by omega)]
      exact h.row q' (by omega)
theorem IsK.next {n : Nat} {fs : List (List Stc)} {i : Nat} {L : List Int} (h : IsK n fs i n L) : IsK n fs (i + 1) 0 L := by
  refine ⟨fun r k hr hk => ?_, fun q' h => by omega⟩
  rcases Nat.lt_or_ge r i with h1 | h1
  · exact h.rows r k h1 hk
  · obtain rfl : r = i := by omega
    obtain ⟨q, hq, e⟩ := ordK_inv (left := decide (r % 2 = 1)) hk
    have := h.row q hq
    unfold ordI at this
    rw [e] at this
    exact this
/-- What lies on the needles at the end. -/
theorem KnS.on {n : Nat} {M : List Mk} {cur B : List Int} {j : Nat} {t : BedS} (h : KnS n M cur B j t) (hB : bedOkL B) {k : Nat} (hk : k < n) : heldAt t.hooks 0 (k : Int) ++ heldAt t.hooks 1 (k : Int) = [cur.getD k 0] := by
  rw [h.held 0 _ (Or.inl rfl), h.held 1 _ (Or.inr rfl), Int.toNat_natCast]
  rcases hB k with e | e
  · rw [if_pos ⟨by omega, by omega, e⟩, if_neg (by rw [e]; omega)]; rfl
  · rw [if_neg (by rw [e]; omega), if_pos ⟨by omega, by omega, e⟩]; rfl
end Go.Proofs.YtbnddpknejgmhaaGreat
namespace Go.Proofs.YtbnddpknejgmhaaGreat
open Go.RowKit Go.Shelf
set_option maxRecDepth 100000

theorem run_app_any {e t : TypeId} {i : TypeInfo} {z : Value} {size bytes : Nat} (ht : Tryz.prog.underlying t = some (.slice e)) (hi : Tryz.prog.info? e = some i) (hz : i.zero = some z) (hsize : i.size = size) (hby : i.bytes = bytes) (hzs : z.cells.size = size) (hsz : 0 < size)
    {w : World} {base n : Nat} {v : Value} {xs : List Value} (hown : w.ownsRow base e size v n xs) (A : Option Addr) (m c : Nat) (news : List Value) (hl : news.length = m * size) (hA : A = none → m = 0) (hnews : ∀ ad, A = some ad → ∀ j u, news[j]? = some u → w.cell? (ad.add j) = some u) (h1 : ∀ u ∈ news, u.oneCell' = true)
    (h63 : n + m ≤ maxLen) (hbytes : (n + m) * bytes ≤ 140737488355328) (hbase : base ≤ w.heap.size) :
    ∃ A' c' w', (Builtin.append_ #[t, t] t #[v, .slice A m c]).run Tryz.prog w = .ok (.slice A' (n + m) c') w' ∧ w'.ownsRow base e size (.slice A' (n + m) c') (n + m) (xs ++ news) ∧ w.grownBy w' v.ownBlock ∧ ∀ k, (Value.slice A' (n + m) c').ownBlock = some k → v.ownBlock = some k ∨ w.heap.size ≤ k := by
  cases A with
  | some ad =>
    obtain ⟨v', w', hr, h2, h3, -, h5⟩ := run_append_own_at (P := Tryz.prog) w base t t e i z size bytes ht hi hz hsize hby hzs hsz v n xs hown ad m c news hl (hnews ad rfl) h1 h63 hbytes hbase
    obtain ⟨A', c', rfl, -⟩ := own_slice h2
    refine ⟨A', c', w', hr, h2, h3, fun k hk => ?_⟩
    rcases h5 with h5 | h5
    · exact Or.inl (h5 ▸ hk)
    · rw [h5] at hk; cases hk; exact Or.inr (Nat.le_refl _)
  | none =>
    obtain rfl := hA rfl
    obtain rfl : news = [] := List.eq_nil_of_length_eq_zero (by simpa using hl)
    rw [Nat.add_zero, List.append_nil]
    rcases hown.2 with ⟨rfl, h0⟩ | ⟨g, cap, cur, rfl, h4, h5, hnc, h6⟩
    · subst h0
      refine ⟨none, 0, w, ?_, hown, ⟨rfl, rfl, rfl, Nat.le_refl _, fun _ _ _ => rfl⟩, fun k hk => Or.inl hk⟩
      simp [Builtin.append_, run_underlying ht, sizeOf, typeInfo, hi, Builtin.lenOf, Builtin.firstCells]
    · refine ⟨some ⟨g, 0, none⟩, cap, w, ?_, hown, ⟨rfl, rfl, rfl, Nat.le_refl _, fun _ _ _ => rfl⟩, fun k hk => Or.inl hk⟩
      simp [Builtin.append_, run_underlying ht, sizeOf, typeInfo, hi, Builtin.lenOf, Builtin.firstCells, hnc, storeCells, loadCells]

theorem wpList_append_run {P : Program} (w : World) {ops : Array Oper} {rest : List Oper} {o : Oper} {a : Act} {Q : Exit → Act → World → Prop} (hgd : o.guard = none) (d s : Operand) (t t' : TypeId)
    (ho : o.op = .call { callee := .builtin .append, args := #[d, s], argTypes := #[t, t'] }) (v u : Value) (hd : a.eval d = v) (hs : a.eval s = u) {v' : Value} {w' : World}
    (hr : (Builtin.append_ #[t, t'] o.type #[v, u]).run P w = .ok v' w') (h : wpList P ops Q rest (a.put o.dst v') w') : wpList P ops Q (o :: rest) a w :=
  wpList_plain hgd fun K hK => by
    unfold Oper.wp
    simp [execOp, ho, resolve, invoke, builtin, hd, hs, hr, Result.andThen]
    exact hK _ _ h
end Go.Proofs.YtbnddpknejgmhaaGreat
namespace Go.Proofs.YtbnddpknejgmhaaGreat
open Go.RowKit Go.Shelf Go.Sort
set_option maxRecDepth 100000

theorem below_drewT {B : Nat} {w W : World} (h : Below B w W) (n : Nat) : Below B w (W.drewN n) := by
  obtain ⟨a, b, c, d, e⟩ := h
  exact ⟨a, b, c, d, e⟩
abbrev prC (p : Int × Int) : List Value := [.int .i64 p.1, .int .i64 p.2]
/-- A slice of pairs. -/
def SlPr (w : World) (B : Nat) (A : Option Addr) (l : List (Int × Int)) : Prop := SlS 2 w B A (l.map prC)
theorem SlPr.below {w w' : World} {B : Nat} {A : Option Addr} {l : List (Int × Int)} (h : SlPr w B A l) (hb : Below B w w') : SlPr w' B A l := SlS.below h hb
theorem SlPr.more {w : World} {B B' : Nat} {A : Option Addr} {l : List (Int × Int)} (h : SlPr w B A l) (hb : B ≤ B') : SlPr w B' A l := SlS.more h hb
theorem SlPr.nil {w : World} {B : Nat} {A : Option Addr} : SlPr w B A [] := fun h => absurd rfl h
theorem SlPr.at_ {w : World} {B : Nat} {A : Option Addr} {l : List (Int × Int)} (h : SlPr w B A l) {k : Nat} (hk : k < l.length) :
    ∃ b off p, A = some ⟨b, off, none⟩ ∧ b < B ∧ l[k]? = some p ∧ w.cell? ⟨b, off + k * 2, none⟩ = some (.int .i64 p.1) ∧ w.cell? ⟨b, off + k * 2 + 1, none⟩ = some (.int .i64 p.2) := by
  obtain ⟨b, off, cs, e, hB, hz, hc⟩ := SlS.at_ h (k := k) (by simpa using hk)
  rw [List.getElem?_map] at hz
  cases hl : l[k]? with
  | none => rw [hl] at hz; cases hz
  | some i =>
    rw [hl] at hz
    simp only [Option.map_some, Option.some.injEq] at hz
    subst hz
    exact ⟨b, off, i, e, hB, rfl, hc 0 _ rfl, hc 1 _ rfl⟩
theorem al_t (W : World) (o : Obj) : Below W.heap.size W (W.alloc o) := (Below.refl _ _).alloc (Nat.le_refl _) o
set_option maxHeartbeats 1000000 in
theorem sameI_any (A A' : Option Addr) (c c' : Nat) (l : List Int) (w : World) (h : SlI w w.heap.size A l) (h' : SlI w w.heap.size A' l) (hn : l.length ≤ 4611686018427387904) :
    Calls Tryz.prog 15 #[.slice A l.length c, .slice A' l.length c'] w fun e w' => e = .returned (.bool true) ∧ ∃ m, w' = w.drewN m := by
  have hne : (((l.length : Nat) : Int) == ((l.length : Nat) : Int)) = true := by simp
  go_enter Tryz.func15, Tryz.ntmps15
  go_wp2
  go_loopw [5] (fun i wr => ∃ k : Nat, k ≤ l.length ∧ i = .int .i64 k ∧ Hid (∃ m, wr = w.drewN m)) (fun i _ => l.length - (intOf i).toNat)
  case atStart => exact ⟨0, Nat.zero_le _, rfl, 0, rfl⟩
  case round =>
    obtain ⟨k, hk, rfl, HM⟩ := hrel
    have hbw : Below w.heap.size w wr := by obtain ⟨m, rfl⟩ := HM.out; exact below_drewT (Below.refl _ _) m
    by_cases hlt : k < l.length
    · obtain ⟨b, off, z, rfl, hB, hz, hc⟩ := h.at_ hlt
      obtain ⟨b', off', z', rfl, hB', hz', hc'⟩ := h'.at_ hlt
      rw [hz] at hz'
      obtain rfl : z = z' := by simpa using hz'
      have h1 := (bcell hbw hB _).trans hc
      have h2 := (bcell hbw hB' _).trans hc'
      clear hc hc' h h' hz hz' hbw
      go_wp2
      go_quiet (fail)
      go_wp2
      go_roundw
      case rel => exact ⟨k + 1, by omega, by go_num, by obtain ⟨m, hm⟩ := HM.out; exact ⟨_, by rw [hm, World.drewN_drewN]⟩⟩
      case measure => simp [intOf]; omega
    · clear h h' hbw
      go_wp2
      go_ret
      exact ⟨rfl, HM.out⟩
def pxJ (v : Value) (l : List Int) : Own := ⟨3, 1, l.length, v, l.map (Value.int .i64)⟩
theorem pxJ_form {w : World} {B : Nat} {v : Value} {l : List Int} {L : List Own} (h : Owns w B (pxJ v l :: L)) : ∃ a c, v = .slice a l.length c := by
  have h0 : w.ownsRow B 3 1 v l.length (l.map (Value.int .i64)) := h.head
  rcases h0.2 with ⟨rfl, e⟩ | ⟨g, cap, cur, rfl, -⟩
  · rw [e]; exact ⟨none, 0, rfl⟩
  · exact ⟨_, _, rfl⟩
theorem pxJ_sl {w : World} {B : Nat} {a : Option Addr} {n c : Nat} {l : List Int} {L : List Own} (h : Owns w B (pxJ (.slice a n c) l :: L)) : SlI w w.heap.size a l := fun hne => by
  have h0 : w.ownsRow B 3 1 (.slice a n c) l.length (l.map (Value.int .i64)) := h.head
  have h1 := h0
  rcases h0.2 with ⟨-, e⟩ | ⟨g, cap, cur, hv, hg, hh, -⟩
  · exact absurd (List.length_eq_zero_iff.1 e) hne
  · cases hv
    refine ⟨g, 0, rfl, (Array.getElem?_eq_some_iff.1 hh).1, fun j z hz => ?_⟩
    have hj := (List.getElem?_eq_some_iff.1 hz).1
    rw [Nat.zero_add, World.ownsRow.cellAt h1 j (by omega), List.getElem?_map, hz]
    rfl
theorem pxJ_app {w : World} {B c : Nat} {a : Option Addr} {l : List Int} {L : List Own} (h : Owns w B (pxJ (.slice a l.length c) l :: L)) (hB : B ≤ w.heap.size) (hl : l.length ≤ 100000) (x : Int) :
    ∃ A' c' w', (Builtin.append_ #[43, 43] 43 #[.slice a l.length c, .slice (some ⟨w.heap.size, 0, none⟩) 1 1]).run Tryz.prog (w.alloc (.cells #[.int .i64 x] 3)) = .ok (.slice A' (l.length + 1) c') w' ∧ Owns w' B (pxJ (.slice A' (l.length + 1) c') (l ++ [x]) :: L) ∧ Below B w w' := by
  obtain ⟨ii, hii, hii0, hii1, hii2⟩ := info_parts info_int'
  have hal := al_t w (.cells #[.int .i64 x] 3)
  have h9 := h.to hal
  have h0 : (w.alloc (.cells #[.int .i64 x] 3)).ownsRow B 3 1 (.slice a l.length c) l.length (l.map (Value.int .i64)) := h9.head
  have hsz := hal.size
  obtain ⟨A', c', w', hr, ho, hg, hn⟩ := run_app_any Tryz.underlying43 hii hii0 hii1 hii2 rfl (by decide) h0 (some ⟨w.heap.size, 0, none⟩) 1 1 [.int .i64 x] rfl (fun e => by cases e) (fun ad e j u hu => by
    cases e
    have hj : j = 0 := by have := (List.getElem?_eq_some_iff.1 hu).1; simp at this; exact this
    subst hj
    have e : u = .int .i64 x := by simpa using hu.symm
    subst e
    exact cell_new rfl rfl rfl) (fun u hu => by rw [List.mem_singleton.1 hu]; rfl) (by unfold maxLen; omega) (by omega) (by omega)
  refine ⟨A', c', w', hr, ?_, (hal.mono hB).trans (Below.of_grown hg (by omega) (fun k e => (World.ownsRow.lt h0 k e).1))⟩
  refine h9.turn (o' := pxJ (.slice A' (l.length + 1) c') (l ++ [x])) hg ?_ hn
  unfold pxJ Own.lies
  rw [List.length_append, List.map_append]
  exact ho
theorem info_prT : (Tryz.prog.info? 123).map (fun i => (i.zero, i.size, i.bytes)) = some (some (.agg #[.int .i64 0, .int .i64 0]), 2, 16) := by kernel_rfl
def pxP (v : Value) (l : List (Int × Int)) : Own := ⟨123, 2, l.length, v, (l.map prC).flatten⟩
theorem cells_two (l : List (Int × Int)) : ∀ cs ∈ l.map prC, cs.length = 2 := fun cs h => by
  obtain ⟨p, _, rfl⟩ := List.mem_map.1 h
  rfl
abbrev prB (p : Int × Int) : Obj := .cells #[.int .i64 p.1, .int .i64 p.2] 123
theorem pxP_app {w : World} {B c : Nat} {a : Option Addr} {l : List (Int × Int)} {L : List Own} (h : Owns w B (pxP (.slice a l.length c) l :: L)) (hB : B ≤ w.heap.size) (hl : l.length ≤ 100000) (p : Int × Int) :
    ∃ A' c' w', (Builtin.append_ #[44, 44] 44 #[.slice a l.length c, .slice (some ⟨w.heap.size, 0, none⟩) 1 1]).run Tryz.prog (w.alloc (prB p)) = .ok (.slice A' (l.length + 1) c') w' ∧ Owns w' B (pxP (.slice A' (l.length + 1) c') (l ++ [p]) :: L) ∧ Below B w w' := by
  obtain ⟨ii, hii, hii0, hii1, hii2⟩ := info_parts info_prT
  have hal := al_t w (prB p)
  have h9 := h.to hal
  have h0 : (w.alloc (prB p)).ownsRow B 123 2 (.slice a l.length c) l.length (l.map prC).flatten := h9.head
  have hsz := hal.size
  have hnew : ∀ j u, (prC p)[j]? = some u → (w.alloc (prB p)).cell? ((⟨w.heap.size, 0, none⟩ : Addr).add j) = some u := newsT w _ _ _ rfl
  obtain ⟨A', c', w', hr, ho, hg, hn⟩ := run_app_any Tryz.underlying44 hii hii0 hii1 hii2 rfl (by decide) h0 (some ⟨w.heap.size, 0, none⟩) 1 1 (prC p) rfl (fun e => by cases e) (fun ad e => by cases e; exact hnew) (fun u hu => by
    simp only [List.mem_cons, List.not_mem_nil, or_false] at hu
    rcases hu with rfl | rfl <;> rfl) (by unfold maxLen; omega) (by omega) (by omega)
  refine ⟨A', c', w', hr, ?_, (hal.mono hB).trans (Below.of_grown hg (by omega) (fun k e => (World.ownsRow.lt h0 k e).1))⟩
  refine h9.turn (o' := pxP (.slice A' (l.length + 1) c') (l ++ [p])) hg ?_ hn
  unfold pxP Own.lies
  rw [List.length_append, List.map_append, List.flatten_append]
  simpa using ho
theorem pxP_form {w : World} {B : Nat} {v : Value} {l : List (Int × Int)} {L : List Own} (h : Owns w B (pxP v l :: L)) : ∃ a c, v = .slice a l.length c := by
  obtain ⟨a, c, e, -⟩ := own_slice h.head
  exact ⟨a, c, e⟩
theorem pxP_sl {w : World} {B : Nat} {a : Option Addr} {c : Nat} {l : List (Int × Int)} {L : List Own} (h : Owns w B (pxP (.slice a l.length c) l :: L)) : SlPr w w.heap.size a l := by
  have h0 : w.ownsRow B 123 2 (.slice a l.length c) l.length (l.map prC).flatten := h.head
  exact SlS.of_own (cells_two l) (by rw [List.length_map]) h0
theorem box_new (w : World) (T : TypeId) (cs : List Value) : w.heap.size = w.heap.size → (w.alloc (.cells cs.toArray T)).ownsRow w.heap.size T cs.length (.slice (some ⟨w.heap.size, 0, none⟩) 1 1) 1 cs := fun _ => by
  have e : (w.alloc (.cells cs.toArray T)).heap[w.heap.size]? = some (.cells cs.toArray T (0, 0)) := Array.getElem?_push_size
  have := own_of_whole (B := w.heap.size) (n := 1) (c := 1) (sz := cs.length) e (Nat.le_refl _) (Nat.le_refl _) (by unfold maxLen; omega) (by simp)
  simpa using this
end Go.Proofs.YtbnddpknejgmhaaGreat
