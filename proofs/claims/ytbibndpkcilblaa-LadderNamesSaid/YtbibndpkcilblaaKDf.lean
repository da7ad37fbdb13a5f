/- slices.DeleteFunc at a row of ints that the caller owns. -/
import Derived.Test.YtbibndpkcilblaaKIx28
import Derived.Test.YtbibndpkcilblaaKG5
namespace Go.Proofs.Ytbibndpkcilblaa
open Go.RowKit Go.Shelf Go.Sort
set_option maxRecDepth 100000

/-! Plain: what lies in the row while it is gone through. -/
def kept (pr : Int → Bool) (l : List Int) (j : Nat) : List Int := (l.take j).filter fun x => !pr x
theorem kept_next {pr : Int → Bool} {l : List Int} {j : Nat} {x : Int} (h : l[j]? = some x) : kept pr l (j + 1) = kept pr l j ++ if pr x then [] else [x] := by
  obtain ⟨hj, e⟩ := List.getElem?_eq_some_iff.1 h
  unfold kept
  rw [List.take_succ_eq_append_getElem hj, e, List.filter_append]
  congr 1
  cases hp : pr x with
  | true => rw [List.filter_cons_of_neg (by rw [hp]; simp)]; rfl
  | false => rw [List.filter_cons_of_pos (by rw [hp]; rfl)]; rfl
theorem kept_le (pr : Int → Bool) (l : List Int) (j : Nat) : (kept pr l j).length ≤ j := by
  unfold kept
  have := List.length_filter_le (fun x => !pr x) (l.take j)
  rw [List.length_take] at this
  omega
theorem kept_all (pr : Int → Bool) (l : List Int) : kept pr l l.length = l.filter fun x => !pr x := by unfold kept; rw [List.take_length]
theorem kept_none {pr : Int → Bool} {l : List Int} {k : Nat} (h : ∀ (j : Nat) (y : Int), j < k → l[j]? = some y → pr y = false) : kept pr l k = l.take k := by
  unfold kept
  rw [List.filter_eq_self]
  intro x hx
  obtain ⟨j, hj⟩ := List.mem_iff_getElem?.1 hx
  rw [List.getElem?_take] at hj
  split at hj
  · rename_i hlt
    rw [h j x hlt hj]; rfl
  · cases hj
/-- The row d behind the first j elements. -/
structure DfD (pr : Int → Bool) (l : List Int) (j : Nat) (d : List Int) : Prop where
  len : d.length = l.length
  lo : d.take (kept pr l j).length = kept pr l j
  hi : d.drop j = l.drop j
theorem DfD.at_ {pr : Int → Bool} {l d : List Int} {j : Nat} (h : DfD pr l j d) {x : Int} (hx : l[j]? = some x) : d[j]? = some x := by
  have e : (d.drop j)[0]? = (l.drop j)[0]? := by rw [h.hi]
  rw [List.getElem?_drop, List.getElem?_drop, Nat.add_zero] at e
  rw [e, hx]
theorem DfD.skip {pr : Int → Bool} {l d : List Int} {j : Nat} (h : DfD pr l j d) {x : Int} (hx : l[j]? = some x) (hp : pr x = true) : DfD pr l (j + 1) d := by
  have e : kept pr l (j + 1) = kept pr l j := by rw [kept_next hx, if_pos hp, List.append_nil]
  refine ⟨h.len, by rw [e]; exact h.lo, ?_⟩
  rw [← List.drop_drop, ← List.drop_drop, h.hi]
theorem DfD.keep {pr : Int → Bool} {l d : List Int} {j : Nat} (h : DfD pr l j d) (hlt : (kept pr l j).length < j) {x : Int} (hx : l[j]? = some x) (hp : pr x = false) : DfD pr l (j + 1) (d.set (kept pr l j).length x) := by
  have hj := (List.getElem?_eq_some_iff.1 hx).1
  have e : kept pr l (j + 1) = kept pr l j ++ [x] := by rw [kept_next hx, hp]; rfl
  have hl := h.len
  refine ⟨by rw [List.length_set]; exact h.len, ?_, ?_⟩
  · rw [e, List.length_append, List.length_singleton]
    apply List.ext_getElem?
    intro m
    rw [List.getElem?_take]
    by_cases h1 : m < (kept pr l j).length
    · rw [if_pos (by omega), List.getElem?_set_ne (by omega), List.getElem?_append_left h1]
      have : (d.take (kept pr l j).length)[m]? = (kept pr l j)[m]? := by rw [h.lo]
      rw [List.getElem?_take, if_pos h1] at this
      exact this
    · by_cases h2 : m = (kept pr l j).length
      · subst h2
        rw [if_pos (by omega), List.getElem?_set_self (by omega), List.getElem?_append_right (Nat.le_refl _), Nat.sub_self]; rfl
      · rw [if_neg (by omega), List.getElem?_eq_none (by rw [List.length_append, List.length_singleton]; omega)]
  · rw [List.drop_set_of_lt (by omega), ← List.drop_drop, ← List.drop_drop, h.hi]
theorem kept_lt {pr : Int → Bool} {l : List Int} {k : Nat} {x : Int} (hx : l[k]? = some x) (hp : pr x = true) : ∀ j, k < j → (kept pr l j).length < j
  | 0, h => absurd h (Nat.not_lt_zero _)
  | j + 1, h => by
    by_cases e : k = j
    · subst e
      rw [kept_next hx, if_pos hp, List.append_nil]
      have := kept_le pr l k
      omega
    · have ih := kept_lt hx hp j (by omega)
      by_cases hj : j < l.length
      · rw [kept_next (List.getElem?_eq_getElem hj), List.length_append]
        split <;> simp <;> omega
      · have : kept pr l (j + 1) = kept pr l j := by unfold kept; rw [List.take_of_length_le (by omega), List.take_of_length_le (by omega)]
        rw [this]; omega
theorem run_clear_rows {P : Program} (w : World) (t e ty : TypeId) (z : Value) (ht : P.underlying t = some (.slice e)) (hv : ∀ w, (zeroValue e).run P w = .ok z w) (g o m c : Nat) (cur : Array Value) (te : TypeId)
    (hg : w.heap[g]? = some (.cells cur te (0, 0))) (hz : z.cells = #[z]) (h1 : z.oneCell' = true) (hm : 0 < m) (hfit : o + m ≤ cur.size) :
    (Builtin.clear_ #[t] ty #[.slice (some ⟨g, o, none⟩) m c]).run P w = .ok (.tuple #[]) (w.setRow g (splice cur.toList o (List.replicate m z)).toArray) := by
  have hzc : (Builtin.zeroCells z.cells m).toList = List.replicate m z := by
    rw [hz]
    apply List.ext_getElem
    · simp [Builtin.zeroCells]
    · intro j h1 h2
      simp [Builtin.zeroCells, Nat.mod_one]
  have hst := run_storeCells_at P g o te (List.replicate m z) 0 cur w hg (by simpa using hfit) (fun v hv => by rw [(List.mem_replicate.1 hv).2]; exact h1)
  obtain ⟨m, rfl⟩ : ∃ k, m = k + 1 := ⟨m - 1, by omega⟩
  simp [Builtin.clear_, run_underlying ht, hv, hzc, hst, splice]
theorem zero_intT (w : World) : (zeroValue 3).run Try.prog w = .ok (.int .i64 0) w := by kernel_rfl
theorem intV_set (d : List Int) (i : Nat) (x : Int) : (intV d).set i (.int .i64 x) = intV (d.set i x) := by unfold intV; rw [List.map_set]
theorem intV_len (d : List Int) : (intV d).length = d.length := by unfold intV; rw [List.length_map]
/-- What DeleteFunc leaves. -/
def DfPost (w : World) (B : Nat) (v : Value) (L : List Int) (e : Ending) (w' : World) : Prop := ∃ v', e = .returned v' ∧ ownI w' B v' L ∧ w.grownBy w' v.ownBlock ∧ ∀ k, v'.ownBlock = some k → v.ownBlock = some k
theorem grown_refl (w : World) (r : Option Nat) : w.grownBy w r := ⟨rfl, rfl, rfl, Nat.le_refl _, fun _ _ _ => rfl⟩
set_option maxHeartbeats 8000000 in
theorem delF_any (g : Nat) (lb : Array Value) (eg : ∀ args w, (callFunc g args).run Try.prog w = .ok (.enter g args) w) (pr : Int → Bool) (B c : Nat) (A : Option Addr) (l : List Int) (hn : l.length ≤ 1000000) (w : World)
    (hl : ownI w B (.slice A l.length c) l)
    (hp : ∀ x W', w.grownBy W' (Value.slice A l.length c).ownBlock → Calls Try.prog g (#[.int .i64 x] ++ lb) W' fun e w2 => e = .returned (.bool (pr x)) ∧ w2 = W') :
    Calls Try.prog 50 #[.slice A l.length c, .func (.func g) #[] lb] w fun e w' => DfPost w B (.slice A l.length c) (l.filter fun x => !pr x) e w' := by
  have HI := Lib.hid (idxJ_any g lb eg pr A c l w hl.slI (by omega) (fun x _ W' hb => (hp x W' (grown_below hb)).mono fun e w2 h => ⟨h.1, by rw [h.2]; exact Below.refl _ _⟩))
  have HP := Lib.hid hp
  have HL := Lib.hid hl
  clear hl hp
  obtain ⟨ix, hix⟩ : ∃ ix, ix = idxE pr l := ⟨_, rfl⟩
  rw [← hix] at HI
  by_cases hany : l.any pr = true
  case neg =>
    have hall : ∀ x ∈ l, pr x = false := by
      rw [Bool.not_eq_true, List.any_eq_false] at hany
      exact fun x hx => by simpa using hany x hx
    have e1 : ix = -1 := by rw [hix]; exact idxE_none (fun j y hj hy => hall y (List.mem_of_getElem? hy))
    have e2 : (l.filter fun x => !pr x) = l := List.filter_eq_self.2 fun x hx => by rw [hall x hx]; rfl
    rw [e2]
    subst e1
    clear hix e2 hall hany eg
    go_enter Try.func50, Try.ntmps50
    go_wp2_with ((go_at_call 60; refine HI.out.mono ?_; rintro e w1 ⟨rfl, hb1⟩))
    go_ret
    exact ⟨_, rfl, own_below HL.out hb1 (Nat.le_refl _), grown_below hb1, fun k h => h⟩
  case pos =>
    obtain ⟨k0, x0, hk0, hx0, hlt0⟩ : ∃ (k0 : Nat) (x0 : Int), l[k0]? = some x0 ∧ pr x0 = true ∧ ∀ (j : Nat) (y : Int), j < k0 → l[j]? = some y → pr y = false := by
      obtain ⟨x, hx⟩ := Option.isSome_iff_exists.1 (List.find?_isSome.2 (List.any_eq_true.1 hany))
      obtain ⟨k, h1, h2, h3⟩ := find_at hx
      exact ⟨k, x, h1, h2, h3⟩
    have e1 : ix = (k0 : Int) := by rw [hix]; exact idxE_hit hk0 hx0 hlt0
    have hkl := (List.getElem?_eq_some_iff.1 hk0).1
    obtain ⟨b, rfl, hBb⟩ : ∃ b, A = some ⟨b, 0, none⟩ ∧ B ≤ b := by
      rcases HL.out.2 with ⟨hv, h0⟩ | ⟨b, cap, cur, hv, hb, -⟩
      · omega
      · cases hv; exact ⟨b, rfl, hb⟩
    obtain ⟨cur0, -, -, hnc, hcm, -⟩ := own_whole HL.out
    have hD0 : DfD pr l (k0 + 1) l := by
      have e : kept pr l (k0 + 1) = l.take k0 := by rw [kept_next hk0, if_pos hx0, List.append_nil, kept_none hlt0]
      refine ⟨rfl, ?_, rfl⟩
      rw [e, List.length_take, Nat.min_eq_left (by omega)]
    have hi0 : (kept pr l (k0 + 1)).length = k0 := by rw [kept_next hk0, if_pos hx0, List.append_nil, kept_none hlt0, List.length_take, Nat.min_eq_left (by omega)]
    have HLt := Lib.hid (fun j (hj : k0 < j) => kept_lt hk0 hx0 j hj)
    have HD0 := Lib.hid hD0
    have HKl := Lib.hid (kept_all pr l)
    unfold maxLen at hcm
    subst e1
    have hne1 : ((k0 : Int) == -1) = false := beq_eq_false_iff_ne.2 (by omega)
    have HI0 := Lib.hid hi0
    clear hix hany hlt0 hx0 hk0 hD0 hi0
    go_enter Try.func50, Try.ntmps50
    go_wp2_with ((go_at_call 60; refine HI.out.mono ?_; rintro e w1 ⟨rfl, hb1⟩))
    have HW1 : Hid (ownI w1 B (.slice (some ⟨b, 0, none⟩) l.length c) l ∧ w.grownBy w1 (some b)) := ⟨own_below HL.out hb1 (Nat.le_refl _), grown_below hb1⟩
    clear hb1 HI hne1
    go_loopw [5, 6] (fun s5 s6 wr => ∃ (j : Nat) (d : List Int), k0 < j ∧ j ≤ l.length ∧ s6 = .int .i64 (j : Int) ∧ s5 = .int .i64 (((kept pr l j).length : Nat) : Int) ∧ Hid (DfD pr l j d) ∧ Hid (wr.ownsRow B 3 1 (.slice (some ⟨b, 0, none⟩) l.length c) l.length (intV d) ∧ w.grownBy wr (some b))) (fun _ s6 _ => l.length - (intOf s6).toNat)
    case atStart => exact ⟨k0 + 1, l, by omega, by omega, by go_num, by rw [HI0.out], HD0.out, HW1.out⟩
    case round =>
      obtain ⟨j, d, hj0, hj, rfl, rfl, HD, HW⟩ := hrel
      clear HD0 HW1 HI0
      obtain ⟨W, hW⟩ : ∃ x : World, x = wr := ⟨_, rfl⟩
      rw [← hW] at HW ⊢
      clear hW
      have hil := HLt.out j hj0
      have hil : (kept pr l j).length < j := hil
      by_cases hlt : j < l.length
      case pos =>
        obtain ⟨x, hx⟩ : ∃ x, l[j]? = some x := ⟨_, List.getElem?_eq_getElem hlt⟩
        have hcx : W.cell? ⟨b, j, none⟩ = some (.int .i64 x) := by
          rw [World.ownsRow.cellAt HW.out.1 j (by omega)]
          unfold intV
          rw [List.getElem?_map, HD.out.at_ hx]; rfl
        have hfr : ∀ k, W.frozen? ⟨b, k, none⟩ = false := fun k => World.ownsRow.frozenAt HW.out.1 k
        have HPx := Lib.hid (HP.out x W HW.out.2)
        have hci : ∃ u, W.cell? ⟨b, (kept pr l j).length, none⟩ = some (.int .i64 u) := by
          have hd : (kept pr l j).length < d.length := by rw [HD.out.len]; omega
          refine ⟨d[(kept pr l j).length], ?_⟩
          rw [World.ownsRow.cellAt HW.out.1 _ (by omega)]
          unfold intV
          rw [List.getElem?_map, List.getElem?_eq_getElem hd]; rfl
        obtain ⟨u, hcu⟩ := hci
        have HDx := Lib.hid (And.intro hx HD.out)
        obtain ⟨i, hi⟩ : ∃ i, i = (kept pr l j).length := ⟨_, rfl⟩
        have HI := Lib.hid hi
        rw [← hi] at hcu hil ⊢
        cases hq : pr x with
        | true =>
          rw [hq] at HPx
          have HDn := Lib.hid (HDx.out.2.skip hx hq)
          have HIn : Hid ((kept pr l (j + 1)).length = i) := by show _ = _; rw [hi, kept_next hx, if_pos hq, List.append_nil]
          clear hx hq hi hcu hfr HD
          go_wp2_with ((go_at_fn g; refine HPx.out.mono ?_; rintro e w2 ⟨rfl, rfl⟩))
          go_roundw
          case rel => exact ⟨j + 1, d, by omega, by omega, by go_num, by rw [HIn.out], HDn.out, HW.out⟩
          case measure => simp [intOf]; omega
        | false =>
          rw [hq] at HPx
          have HDn := Lib.hid (HDx.out.2.keep (by rw [← hi]; exact hil) hx hq)
          have HIn : Hid ((kept pr l (j + 1)).length = i + 1) := by show _ = _; rw [hi, kept_next hx, hq]; simp
          rw [← hi] at HDn
          have HSt : Hid ((W.setCell ⟨b, i, none⟩ (.int .i64 x)).ownsRow B 3 1 (.slice (some ⟨b, 0, none⟩) l.length c) l.length (intV (d.set i x)) ∧ w.grownBy (W.setCell ⟨b, i, none⟩ (.int .i64 x)) (some b)) := by
            obtain ⟨h1, h2⟩ := World.ownsRow.stored HW.out.1 i (.int .i64 x)
            rw [intV_set] at h1
            exact ⟨h1, grown_trans HW.out.2 h2⟩
          clear hx hq hi HD
          go_wp2_with ((go_at_fn g; refine HPx.out.mono ?_; rintro e w2 ⟨rfl, rfl⟩))
          go_roundw
          case rel => exact ⟨j + 1, d.set i x, by omega, by omega, by go_num, by rw [HIn.out]; go_num, HDn.out, HSt.out⟩
          case measure => simp [intOf]; omega
      case neg =>
        obtain rfl : j = l.length := by omega
        obtain ⟨cur, hg, -, -, -, hcs, htk, -⟩ := own_whole HW.out.1
        have hlo := HD.out.lo
        have hdl := HD.out.len
        have hkl2 := HKl.out
        have hnn : ∀ x : Nat, x * 1 = x := Nat.mul_one
        rw [hnn] at hcs htk
        have hfin : ∀ r : List Value, (kept pr l l.length).length + r.length = l.length → DfPost w B (.slice (some ⟨b, 0, none⟩) l.length c) (l.filter fun x => !pr x) (.returned (.slice (some ⟨b, 0, none⟩) (kept pr l l.length).length c)) (W.setRow b (splice cur.toList (kept pr l l.length).length r).toArray) := fun r hr => by
          have h3 : (kept pr l l.length).length + r.length ≤ cur.toList.length := by
            have e : cur.toList.length = c := by rw [Array.length_toList]; exact hcs
            omega
          refine ⟨_, rfl, ?_, grown_trans HW.out.2 (grown_setRow W b _), fun k h => h⟩
          have := own_of_whole (B := B) (n := (kept pr l l.length).length) (c := c) (sz := 1) (heap_setRow (cs := (splice cur.toList (kept pr l l.length).length r).toArray) hg) hBb (by omega) (by unfold maxLen; omega) (by rw [splice_len h3, Array.length_toList, hcs, Nat.mul_one])
          rw [Nat.mul_one, splice_take (by omega) (Nat.le_refl _)] at this
          unfold ownI
          rw [← hkl2]
          have e : cur.toList.take (kept pr l l.length).length = intV (kept pr l l.length) := by
            have e2 : cur.toList.take (kept pr l l.length).length = (cur.toList.take l.length).take (kept pr l l.length).length := by rw [List.take_take, Nat.min_eq_left (by omega)]
            rw [e2, htk]
            unfold intV
            rw [← List.map_take, hlo]
          rw [e] at this
          exact this
        have hcl : ∀ ty, (Builtin.clear_ #[25] ty #[.slice (some ⟨b, (kept pr l l.length).length, none⟩) (l.length - (kept pr l l.length).length) (c - (kept pr l l.length).length)]).run Try.prog W = .ok (.tuple #[]) (W.setRow b (splice cur.toList (kept pr l l.length).length (List.replicate (l.length - (kept pr l l.length).length) (.int .i64 0))).toArray) := fun ty =>
          run_clear_rows (P := Try.prog) W 25 3 ty (.int .i64 0) Try.underlying25 zero_intT b _ _ _ cur _ hg rfl rfl (by omega) (by rw [hcs]; omega)
        have HF := Lib.hid (hfin (List.replicate (l.length - (kept pr l l.length).length) (.int .i64 0)) (by rw [List.length_replicate]; omega))
        obtain ⟨i, hi⟩ : ∃ i, i = (kept pr l l.length).length := ⟨_, rfl⟩
        rw [← hi] at hcl HF hil ⊢
        have hic : ¬ c = i := by omega
        have hq1 : i ≤ c := by omega
        have hq2 : i ≤ l.length := by omega
        clear hfin hlo hdl hkl2 hnn hcs htk hg hi HD HW HKl hj hlt
        go_wp2_with (refine wpList_clear_run _ rfl _ 25 rfl _ (by rfl) (hcl _) ?_)
        go_ret
        exact HF.out
end Go.Proofs.Ytbibndpkcilblaa
