/- Layer 28, the program: check. Layer 28, memory: a map of marks beside rows that the call owns. -/
import Derived.Test.YtbibndpkcilblaaKLf
import Derived.Test.YtbibndpkcilblaaKG2
import Derived.Test.YtbibndpkcilblaaKG7
import Derived.Test.YtbibndpkcilblaaKG8
namespace Go.Proofs.Ytbibndpkcilblaa
open Go.RowKit Go.Shelf Go.Sort
set_option maxRecDepth 100000

/-- Whether a list fails to be a drop at an index. -/
def badAt (M lv : Nat) (drop : List Int) (i : Nat) : Bool := decide (drop.getD i 0 < (lv : Int)) || decide ((M : Int) ≤ drop.getD i 0) || (decide (0 < i) && decide (drop.getD i 0 ≤ drop.getD (i - 1) 0))
def dropB (M lv : Nat) (drop : List Int) : Bool := (List.range drop.length).all fun i => !badAt M lv drop i
theorem dropB_yes {M lv : Nat} {drop : List Int} (h : ∀ i, i < drop.length → badAt M lv drop i = false) : dropB M lv drop = true := by
  unfold dropB
  rw [List.all_eq_true]
  intro i hi
  rw [h i (List.mem_range.1 hi)]; rfl
theorem dropB_no {M lv : Nat} {drop : List Int} {i : Nat} (hi : i < drop.length) (h : badAt M lv drop i = true) : dropB M lv drop = false := by
  unfold dropB
  rw [List.all_eq_false]
  exact ⟨i, List.mem_range.2 hi, by rw [h]; decide⟩
theorem badAt_of {M lv : Nat} {drop : List Int} {i : Nat} {x : Int} (hx : drop[i]? = some x) : badAt M lv drop i = (decide (x < (lv : Int)) || decide ((M : Int) ≤ x) || (decide (0 < i) && decide (x ≤ drop.getD (i - 1) 0))) := by
  unfold badAt
  rw [List.getD_eq_getElem?_getD, hx]; rfl
theorem dropB_ok {lp : List Lp} {lv : Nat} {drop : List Int} (h : dropB lp.length lv drop = true) : DropOk lp lv drop := by
  have h0 : ∀ (i : Nat) (x : Int), drop[i]? = some x → ((lv : Int) ≤ x ∧ x < (lp.length : Int)) ∧ (0 < i → drop.getD (i - 1) 0 < x) := fun i x hx => by
    have hi := (List.getElem?_eq_some_iff.1 hx).1
    unfold dropB at h
    rw [List.all_eq_true] at h
    have := h i (List.mem_range.2 hi)
    rw [badAt_of hx] at this
    simp only [Bool.not_eq_true', Bool.or_eq_false_iff, Bool.and_eq_false_iff, decide_eq_false_iff_not] at this
    obtain ⟨⟨h1, h2⟩, h3⟩ := this
    refine ⟨by omega, fun h0 => ?_⟩
    rcases h3 with h3 | h3
    · exact absurd h0 h3
    · omega
  refine ⟨fun d hd => ?_, ?_⟩
  · obtain ⟨i, hi⟩ := List.mem_iff_getElem?.1 hd
    exact (h0 i d hi).1
  · rw [List.pairwise_iff_getElem]
    have hs : ∀ (j i : Nat) (hi : i < drop.length) (hj : j < drop.length), i < j → drop[i] < drop[j] := by
      intro j
      induction j with
      | zero => intro i _ _ h; omega
      | succ j ih =>
        intro i hi hj hij
        have h1 := (h0 (j + 1) drop[j + 1] (List.getElem?_eq_getElem hj)).2 (by omega)
        rw [show j + 1 - 1 = j from rfl, List.getD_eq_getElem?_getD, List.getElem?_eq_getElem (by omega : j < drop.length)] at h1
        have h1' : drop[j] < drop[j + 1] := h1
        by_cases e : i = j
        · subst e; exact h1'
        · have := ih i hi (by omega) (by omega)
          omega
    exact fun i j hi hj hij => hs j i hi hj hij
def BlPost (x : Bool) (w : World) (e : Ending) (w' : World) : Prop := e = .returned (.bool x) ∧ Below w.heap.size w w'
set_option maxHeartbeats 4000000 in
theorem pcheck_any (M lv : Nat) (a k b : Option Addr) (c kc nb bc : Nat) (da : Option Addr) (dc : Nat) (drop : List Int) (hD : drop.length ≤ 300) (w : World) (hs : SlI w w.heap.size da drop) :
    Calls Try.prog 31 #[.agg #[.slice a M c, .slice k M kc, .slice b nb bc, .int .i64 (lv : Int)], .slice da drop.length dc] w fun e w' => BlPost (dropB M lv drop) w e w' := by
  have hal := al_t w (.cells #[.slice a M c, .slice k M kc, .slice b nb bc, .int .i64 (lv : Int)] 63)
  obtain ⟨g1, -⟩ := bxT_at (bxT_new w 63 [.slice a M c, .slice k M kc, .slice b nb bc, .int .i64 (lv : Int)])
  obtain ⟨qb, hqb⟩ : ∃ qb, qb = w.heap.size := ⟨_, rfl⟩
  have HX : Hid ((w.alloc (.cells #[.slice a M c, .slice k M kc, .slice b nb bc, .int .i64 (lv : Int)] 63)).cell? ⟨qb, 0, none⟩ = some (.slice a M c) ∧ (w.alloc (.cells #[.slice a M c, .slice k M kc, .slice b nb bc, .int .i64 (lv : Int)] 63)).cell? ⟨qb, 3, none⟩ = some (.int .i64 (lv : Int)) ∧ SlI (w.alloc (.cells #[.slice a M c, .slice k M kc, .slice b nb bc, .int .i64 (lv : Int)] 63)) (w.alloc (.cells #[.slice a M c, .slice k M kc, .slice b nb bc, .int .i64 (lv : Int)] 63)).heap.size da drop ∧ Below w.heap.size w (w.alloc (.cells #[.slice a M c, .slice k M kc, .slice b nb bc, .int .i64 (lv : Int)] 63))) := by
    rw [hqb]
    exact ⟨g1 0 _ rfl, g1 3 _ rfl, (hs.below hal).more hal.size, hal⟩
  obtain ⟨D, hDe⟩ : ∃ D, D = drop.length := ⟨_, rfl⟩
  have HDe := Lib.hid hDe
  rw [← hDe] at hD ⊢
  clear hal g1 hs hDe
  go_enter Try.func31, Try.ntmps31
  go_upto_region 1 with fail
  refine abs_world (Q := fun W => Code.wp _ _ _ _ W) (F := fun W => W.cell? ⟨qb, 0, none⟩ = some (.slice a M c) ∧ W.cell? ⟨qb, 3, none⟩ = some (.int .i64 (lv : Int)) ∧ SlI W W.heap.size da drop ∧ Below w.heap.size w W) _ HX.out ?_
  rw [show (Value.pointer (some ⟨w.heap.size, 0, none⟩)) = Value.pointer (some ⟨qb, 0, none⟩) by rw [hqb]]
  clear HX hqb
  rintro W ⟨y0, y3, hsl, hb⟩
  have HS := Lib.hid hsl
  have HB := Lib.hid hb
  clear hsl hb
  go_wp2
  go_loop [5, 6, 9] (fun s5 s6 s9 => ∃ (i : Nat) (v5 v6 : Value), i ≤ D ∧ s9 = .int .i64 (i : Int) ∧ v5 = s5 ∧ v6 = s6 ∧ Hid (∀ j, j < i → badAt M lv drop j = false)) (fun _ _ s9 => D - (intOf s9).toNat)
  case atStart => exact ⟨0, _, _, Nat.zero_le _, rfl, rfl, rfl, fun j hj => absurd hj (Nat.not_lt_zero j)⟩
  case round =>
    obtain ⟨i, v5, v6, hi, rfl, rfl, rfl, HI⟩ := hrel
    by_cases hlt : i < D
    case neg =>
      have d1 : decide ((i : Int) < (D : Int)) = false := decide_eq_false (by omega)
      have d1' : decide (i < D) = false := decide_eq_false hlt
      have hid : i = drop.length := by have := HDe.out; omega
      have HR : Hid (dropB M lv drop = true) := dropB_yes (by rw [← hid]; exact HI.out)
      clear hid
      go_wp2
      go_ret
      exact ⟨by rw [HR.out]; rfl, HB.out⟩
    case pos =>
      have d1 : decide ((i : Int) < (D : Int)) = true := decide_eq_true (by omega)
      have d1' : decide (i < D) = true := decide_eq_true hlt
      obtain ⟨bb, off, x, rfl, -, hx, x0⟩ := HS.out.at_ (k := i) (by have := HDe.out; omega)
      have HXa := Lib.hid (badAt_of (M := M) (lv := lv) hx)
      have hiD : (i : Int) < (D : Int) := by omega
      have hi0 : (0 : Int) ≤ (i : Int) := by omega
      have hi300 : i ≤ 300 := by omega
      by_cases h1 : x < (lv : Int)
      case pos =>
        have e1 : decide (x < (lv : Int)) = true := decide_eq_true h1
        have HR : Hid (dropB M lv drop = false) := dropB_no (i := i) (by have := HDe.out; omega) (by rw [HXa.out, e1]; rfl)
        clear h1 hx
        go_wp2
        go_ret
        exact ⟨by rw [HR.out]; rfl, HB.out⟩
      case neg =>
        have e1 : decide (x < (lv : Int)) = false := decide_eq_false h1
        by_cases h2 : (M : Int) ≤ x
        case pos =>
          have e2 : decide ((M : Int) ≤ x) = true := decide_eq_true h2
          have e2' : decide (x ≥ (M : Int)) = true := decide_eq_true h2
          have HR : Hid (dropB M lv drop = false) := dropB_no (i := i) (by have := HDe.out; omega) (by rw [HXa.out, e1, e2]; rfl)
          clear h1 h2 hx
          go_wp2
          go_ret
          exact ⟨by rw [HR.out]; rfl, HB.out⟩
        case neg =>
          have e2 : decide ((M : Int) ≤ x) = false := decide_eq_false h2
          have e2' : decide (x ≥ (M : Int)) = false := decide_eq_false h2
          by_cases h3 : 0 < i
          case neg =>
            have e3 : decide (0 < i) = false := decide_eq_false h3
            have e3' : decide ((i : Int) > 0) = false := decide_eq_false (by omega)
            have e3'' : decide ((0 : Int) < (i : Int)) = false := decide_eq_false (by omega)
            have HQ : Hid (∀ j, j < i + 1 → badAt M lv drop j = false) := fun j hj => by
              by_cases e : j = i
              · subst e; rw [HXa.out, e1, e2, e3]; rfl
              · exact HI.out j (by omega)
            clear h1 h2 h3 hx
            go_wp2
            go_round
            case rel => exact ⟨i + 1, _, _, by omega, by go_num, rfl, rfl, HQ.out⟩
            case measure => simp [intOf]; omega
          case pos =>
            have e3 : decide (0 < i) = true := decide_eq_true h3
            have e3' : decide ((i : Int) > 0) = true := decide_eq_true (by omega)
            have e3'' : decide ((0 : Int) < (i : Int)) = true := decide_eq_true (by omega)
            have hz : drop[i - 1]? = some (drop[i - 1]'(by have := HDe.out; omega)) := List.getElem?_eq_getElem _
            obtain ⟨z, hze⟩ : ∃ z, z = drop[i - 1]'(by have := HDe.out; omega) := ⟨_, rfl⟩
            rw [← hze] at hz
            have hzd : drop.getD (i - 1) 0 = z := by rw [List.getD_eq_getElem?_getD, hz]; rfl
            obtain ⟨bb', off', z', ev, -, hz', z0⟩ := HS.out.at_ (k := i - 1) (by have := HDe.out; omega)
            cases ev
            rw [hz] at hz'
            cases hz'
            obtain ⟨i', rfl⟩ : ∃ i', i = i' + 1 := ⟨i - 1, by omega⟩
            rw [show i' + 1 - 1 = i' from rfl] at z0 hzd
            have hw1 : IntKind.i64.wrap (((i' + 1 : Nat) : Int) - 1) = (i' : Int) := by rw [show ((i' + 1 : Nat) : Int) - 1 = (i' : Int) by omega]; exact IntWalk.i64_in _ (by omega)
            have hi0' : (0 : Int) ≤ (i' : Int) := by omega
            have hiD' : (i' : Int) < (D : Int) := by omega
            by_cases h4 : x ≤ z
            case pos =>
              have e4 : decide (x ≤ z) = true := decide_eq_true h4
              have e4' : decide (z ≥ x) = true := decide_eq_true h4
              have HR : Hid (dropB M lv drop = false) := dropB_no (i := i' + 1) (by have := HDe.out; omega) (by rw [HXa.out, e1, e2, e3, show i' + 1 - 1 = i' from rfl, hzd, e4]; rfl)
              clear h1 h2 h3 h4 hx hz hze hzd
              go_wp2
              go_ret
              exact ⟨by rw [HR.out]; rfl, HB.out⟩
            case neg =>
              have e4 : decide (x ≤ z) = false := decide_eq_false h4
              have e4' : decide (z ≥ x) = false := decide_eq_false h4
              have HQ : Hid (∀ j, j < i' + 1 + 1 → badAt M lv drop j = false) := fun j hj => by
                by_cases e : j = i' + 1
                · subst e; rw [HXa.out, e1, e2, e3, show i' + 1 - 1 = i' from rfl, hzd, e4]; rfl
                · exact HI.out j (by omega)
              clear h1 h2 h3 h4 hx hz hze hzd
              go_wp2
              go_round
              case rel => exact ⟨i' + 1 + 1, _, _, by omega, by go_num, rfl, rfl, HQ.out⟩
              case measure => simp [intOf]; omega
end Go.Proofs.Ytbibndpkcilblaa
namespace Go.Proofs.Ytbibndpkcilblaa
open Go.RowKit Go.Shelf Go.Sort
set_option maxRecDepth 100000

theorem row_map {w : World} {B mb n : Nat} {G : Int → Option Value} {o : Own} (h : o.lies w B) (hm : MapV w mb n G) : o.v.ownBlock ≠ some mb := fun e => by
  have h0 : w.ownsRow B o.e o.sz o.v o.n o.xs := h
  obtain ⟨D, ⟨es, clock, hh, -⟩, -⟩ := hm
  rcases h0.2 with ⟨e0, -⟩ | ⟨g, cap, cur, e0, -, hg, -⟩
  · rw [e0] at e; cases e
  · rw [e0] at e
    cases e
    rw [hg] at hh
    cases hh
structure RnA (B mb n : Nat) (G : Int → Option Value) (X : List Own) (W : World) : Prop where
  own : Owns W B X
  mp : MapV W mb n G
  lo : B ≤ mb
section
variable {B mb n : Nat} {G : Int → Option Value} {X : List Own} {W : World}
theorem RnA.to (h : RnA B mb n G X W) {W' : World} (hb : Below W.heap.size W W') : RnA B mb n G X W' := ⟨h.own.to hb, h.mp.below hb h.mp.lt, h.lo⟩
theorem RnA.mem (h : RnA B mb n G X W) {o : Own} (ho : o ∈ X) : o.lies W B := h.own.all o ho
theorem RnA.lift (h : RnA B mb n G X W) {X' : List Own} (hs : X'.Sublist X) : RnA B mb n G X' W := ⟨h.own.sub hs, h.mp, h.lo⟩
theorem RnA.perm (h : RnA B mb n G X W) {X' : List Own} (hp : X.Perm X') : RnA B mb n G X' W := ⟨h.own.perm hp, h.mp, h.lo⟩
theorem RnA.add (h : RnA B mb n G X W) {W' : World} {o : Own} (hb : Below W.heap.size W W') (hB : B ≤ W.heap.size) (ho : o.lies W' W.heap.size) : RnA B mb n G (o :: X) W' := ⟨h.own.add hb hB ho, h.mp.below hb h.mp.lt, h.lo⟩
theorem RnA.nil (h : RnA B mb n G X W) : RnA B mb n G (pxJ (.slice none 0 0) [] :: X) W := ⟨h.own.none 3 1, h.mp, h.lo⟩
theorem RnA.turn {o o' : Own} {W' : World} (h : RnA B mb n G (o :: X) W) (hg : W.grownBy W' o.v.ownBlock) (ho : Owns W' B (o' :: X)) : RnA B mb n G (o' :: X) W' :=
  ⟨ho, h.mp.kept hg (fun e => row_map h.own.head h.mp e.symm), h.lo⟩
theorem RnA.ext {G' : Int → Option Value} (h : RnA B mb n G X W) (he : ∀ k, G k = G' k) : RnA B mb n G' X W := ⟨h.own, h.mp.ext he, h.lo⟩
/-- m[k] = v. -/
theorem RnA.put (h : RnA B mb n G X W) (hB : B ≤ W.heap.size) (hn : n < maxLen) {k : Int} (hk : wfK k) (v : Value) :
    ∃ w', (Instr.mapUpdate 71 (.map (some mb)) (.int .i64 k) v).run Try.prog W = .ok () w' ∧ RnA B mb (n + 1) (fun j => if j = k then some v else G j) X w' ∧ Below B W w' := by
  obtain ⟨w', hr, hm, ht⟩ := h.mp.put hn Try.underlying71 hk v
  refine ⟨w', hr, ⟨⟨fun o ho => World.ownsRow.kept (h.own.all o ho) ht.grown (Or.inr (row_map (h.own.all o ho) h.mp)), h.own.apart⟩, hm, h.lo⟩, Below.of_grown ht.grown hB (fun k e => by cases e; exact h.lo)⟩
/-- m[k]. -/
theorem RnA.look (h : RnA B mb n G X W) {k : Int} (hk : wfK k) : (Instr.lookup 71 (.map (some mb)) (.int .i64 k) false).run Try.prog W = .ok ((G k).getD (.bool false)) W := h.mp.look Try.underlying71 (by kernel_rfl) hk
theorem RnA.apps {a : Option Addr} {c : Nat} {l : List Int} (h : RnA B mb n G (pxJ (.slice a l.length c) l :: X) W) (hB : B ≤ W.heap.size) (hl : l.length ≤ 1000000000) (A2 : Option Addr) (c2 : Nat) (l2 : List Int) (hl2 : l2.length ≤ 1000000000) (h2 : SlI W W.heap.size A2 l2) (hne : A2 = none → l2.length = 0) :
    ∃ A' c' w', (Builtin.append_ #[25, 25] 25 #[.slice a l.length c, .slice A2 l2.length c2]).run Try.prog W = .ok (.slice A' (l.length + l2.length) c') w' ∧ RnA B mb n G (pxJ (.slice A' (l.length + l2.length) c') (l ++ l2) :: X) w' ∧ Below B W w' := by
  obtain ⟨ii, hii, hii0, hii1, hii2⟩ := info_parts info_int'
  have h0 : W.ownsRow B 3 1 (.slice a l.length c) l.length (l.map (Value.int .i64)) := h.own.head
  obtain ⟨A', c', w', hr, ho, hg, hn⟩ := run_app_any Try.underlying25 hii hii0 hii1 hii2 rfl (by decide) h0 A2 l2.length c2 (l2.map (Value.int .i64)) (by rw [List.length_map, Nat.mul_one]) hne (fun ad e j u hu => by
    rw [List.getElem?_map] at hu
    cases hz : l2[j]? with
    | none => rw [hz] at hu; cases hu
    | some z =>
      rw [hz] at hu
      simp only [Option.map_some, Option.some.injEq] at hu
      subst hu
      obtain ⟨b, off, eA, -, hc⟩ := h2 (fun e => by subst e; simp at hz)
      rw [e] at eA
      cases eA
      rw [addr_plus]
      exact hc j z hz) (fun u hu => by
    obtain ⟨z, -, rfl⟩ := List.mem_map.1 hu
    rfl) (by unfold maxLen; omega) (by omega) hB
  refine ⟨A', c', w', hr, h.turn hg ?_, Below.of_grown hg hB (fun k e => (World.ownsRow.lt h0 k e).1)⟩
  refine h.own.turn (o' := pxJ (.slice A' (l.length + l2.length) c') (l ++ l2)) hg ?_ hn
  unfold pxJ Own.lies
  rw [List.length_append, List.map_append]
  exact ho
theorem RnA.push {a : Option Addr} {c : Nat} {l : List Int} (h : RnA B mb n G (pxJ (.slice a l.length c) l :: X) W) (hB : B ≤ W.heap.size) (hl : l.length ≤ 1000000000) (x : Int) :
    ∃ A' c' w', (Builtin.append_ #[25, 25] 25 #[.slice a l.length c, .slice (some ⟨W.heap.size, 0, none⟩) 1 1]).run Try.prog (W.alloc (.cells #[.int .i64 x] 3)) = .ok (.slice A' (l.length + 1) c') w' ∧ RnA B mb n G (pxJ (.slice A' (l.length + 1) c') (l ++ [x]) :: X) w' ∧ Below B W w' := by
  have hal := al_t W (.cells #[.int .i64 x] 3)
  obtain ⟨A', c', w', hr, ho, hb⟩ := (h.to hal).apps (Nat.le_trans hB hal.size) hl (some ⟨W.heap.size, 0, none⟩) 1 [x] (by simp) (fun _ => ⟨W.heap.size, 0, rfl, by simp, fun j y hy => by
    cases j with
    | zero => simp at hy; subst hy; exact cell_new rfl rfl rfl
    | succ j => simp at hy⟩) (fun e => by cases e)
  exact ⟨A', c', w', hr, ho, (hal.mono hB).trans hb⟩
theorem RnA.sort {a : Option Addr} {c m : Nat} {l : List Int} (h : RnA B mb n G (pxJ (.slice a m c) l :: X) W) (hm : l.length = m) (hl : m ≤ 1000000000) (hB : B ≤ W.heap.size) :
    Calls Try.prog 55 #[.slice a m c] W fun e w' => e = .returned (.tuple #[]) ∧ RnA B mb n G (pxJ (.slice a m c) (sortZ l) :: X) w' ∧ Below B W w' := by
  subst hm
  by_cases h0 : l.length = 0
  · have e : l = [] := List.length_eq_zero_iff.1 h0
    subst e
    refine (Try.slices_Sort_int_none a c W).mono ?_
    rintro e w' ⟨rfl, rfl⟩
    have : sortZ [] = [] := by simp [sortZ]
    rw [this]
    exact ⟨rfl, h, Below.refl _ _⟩
  · have h1 : W.ownsRow B 3 1 (.slice a l.length c) l.length (l.map (Value.int .i64)) := h.own.head
    rcases h1.2 with ⟨-, e⟩ | ⟨gb, cap, cur, hv, hbase, hgb, r1, r2, r3, r4⟩
    · exact absurd e h0
    · cases hv
      have hH : Holds (Value.int .i64) W gb 0 l.toArray := holds_of_block_i hgb (by simpa [intV] using r4)
      have hgl : gb < W.heap.size := (Array.getElem?_eq_some_iff.1 hgb).1
      refine (Try.slices_Sort_int gb 0 c l W hH hgl (by omega)).mono ?_
      rintro e w' ⟨rfl, nn, os, rfl⟩
      have ho : (grow (putRow (Value.int .i64) (Sort.ahead W nn) gb 0 (sortZ l).toArray) os).ownsRow B 3 1 (.slice (some ⟨gb, 0, none⟩) l.length c) l.length (intV (sortZ l)) :=
        ownsRow_sorted_i (sortZ_len l) hbase hgb r1 r2 r3
      have hg : W.grownBy (grow (putRow (Value.int .i64) (Sort.ahead W nn) gb 0 (sortZ l).toArray) os) (some gb) := grownBy_sorted_i _
      refine ⟨rfl, h.turn hg (h.own.turn (o' := pxJ (.slice (some ⟨gb, 0, none⟩) l.length c) (sortZ l)) hg ?_ (fun k hk => Or.inl hk)), Below.of_grown hg hB (fun k e => by cases e; exact hbase)⟩
      unfold pxJ Own.lies
      rw [sortZ_len]
      exact ho
theorem RnA.compact {a : Option Addr} {c m : Nat} {l : List Int} (h : RnA B mb n G (pxJ (.slice a m c) l :: X) W) (hm : l.length = m) (hl : m ≤ 1000000000) (hB : B ≤ W.heap.size) :
    Calls Try.prog 57 #[.slice a m c] W fun e w' => ∃ A' c', e = .returned (.slice A' (Lib.compact l).length c') ∧ RnA B mb n G (pxJ (.slice A' (Lib.compact l).length c') (Lib.compact l) :: X) w' ∧ Below B W w' := by
  subst hm
  by_cases h0 : l.length = 0
  · have e : l = [] := List.length_eq_zero_iff.1 h0
    subst e
    refine (Try.slices_Compact_int_empty a c W).mono ?_
    rintro e w' ⟨rfl, rfl⟩
    exact ⟨a, c, rfl, h, Below.refl _ _⟩
  · have h1 : W.ownsRow B 3 1 (.slice a l.length c) l.length (l.map (Value.int .i64)) := h.own.head
    rcases h1.2 with ⟨-, e⟩ | ⟨gb, cap, cur, hv, hbase, hgb, r1, r2, r3, r4⟩
    · exact absurd e h0
    · cases hv
      have hcl : (Lib.compact l).length ≤ l.length := Lib.compact_length_le l
      have hz : (Lib.compact l ++ List.replicate (l.length - (Lib.compact l).length) 0).length = l.length := by rw [List.length_append, List.length_replicate]; omega
      refine (Try.slices_Compact_int gb 0 c l W (holdsJ h.own.head rfl) (by omega) r1).mono ?_
      rintro e w' ⟨rfl, q, rfl⟩
      have ho := Lib.ownsRow_putRow (q := q) h1 hz hcl
      rw [List.take_left] at ho
      have hg : W.grownBy (putRow (Value.int .i64) (Sort.ahead W q) gb 0 (Lib.compact l ++ List.replicate (l.length - (Lib.compact l).length) 0).toArray) (some gb) := grown_row _
      exact ⟨_, _, rfl, h.turn hg (h.own.turn (o' := pxJ (.slice (some ⟨gb, 0, none⟩) (Lib.compact l).length c) (Lib.compact l)) hg ho (fun k hk => Or.inl hk)), Below.of_grown hg hB (fun k e => by cases e; exact hbase)⟩
end
end Go.Proofs.Ytbibndpkcilblaa
