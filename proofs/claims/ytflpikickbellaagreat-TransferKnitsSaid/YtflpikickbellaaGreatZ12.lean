/- Layer 32, plain. -/
import Derived.Test.YtflpikickbellaaGreatZ10
import Derived.Sort.MapsRangeIn
import Derived.Sort.KeysCollected
import Derived.RangeFuncSeq
namespace Go.Proofs.YtflpikickbellaaGreat
open Go.RowKit
set_option maxRecDepth 100000
def okL (s : Sft) (l : List Int) : Prop := ∀ x ∈ l, ∃ i : Nat, x = (i : Int) ∧ i < s.n
theorem okL_app {s : Sft} {l : List Int} {i : Nat} (h : okL s l) (hi : i < s.n) : okL s (l ++ [(i : Int)]) := fun x hx => by
 rcases List.mem_append.1 hx with h1 | h1
 · exact h x h1
 · exact ⟨i, List.mem_singleton.1 h1, hi⟩
theorem inner_ok {s : Sft} {t : Int} : ∀ (f : Nat) (come : Nat → Bool) (out : List Int) (come' : Nat → Bool) (out' : List Int), okL s out → innerN s t f come out = some (come', out') → okL s out' ∧ out'.length + leftN s come' = out.length + leftN s come
 | 0, come, out, come', out', h, he => by
   cases he
   exact ⟨h, rfl⟩
 | f + 1, come, out, come', out', h, he => by
   cases hh : hasN s come t with
   | false =>
     rw [inner_end hh] at he
     cases he
     exact ⟨h, rfl⟩
   | true =>
     cases hp : pickN s come t with
     | none => rw [inner_none hh hp] at he; cases he
     | some i =>
       rw [inner_go hh hp] at he
       obtain ⟨p1, -, p3, -⟩ := pickN_some hp
       have h1 := leftN_put p1 p3
       obtain ⟨h2, h3⟩ := inner_ok f _ _ _ _ (okL_app h p1) he
       refine ⟨h2, ?_⟩
       rw [List.length_append, List.length_singleton] at h3
       omega
theorem outer_ok {s : Sft} : ∀ (f : Nat) (come : Nat → Bool) (out l : List Int), okL s out → outerN s f come out = some l → okL s l ∧ l.length ≤ out.length + leftN s come
 | 0, come, out, l, h, he => by
   cases he
   exact ⟨h, Nat.le_add_right _ _⟩
 | f + 1, come, out, l, h, he => by
   by_cases hs : stopsN s come = []
   · rw [outer_end hs] at he
     cases he
     exact ⟨h, Nat.le_add_right _ _⟩
   · cases hp : nextN s come with
     | none =>
       have e : outerN s (f + 1) come out = none := by
        show (if stopsN s come = [] then _ else _) = _
        rw [if_neg hs, hp]
       rw [e] at he; cases he
     | some t =>
       have e : outerN s (f + 1) come out = match innerN s t s.n come out with | .none => .none | some r => outerN s f r.1 r.2 := by
        show (if stopsN s come = [] then _ else _) = _
        rw [if_neg hs, hp]
        try rfl
       rw [e] at he
       cases hi : innerN s t s.n come out with
       | none => rw [hi] at he; cases he
       | some r =>
         rw [hi] at he
         obtain ⟨h1, h2⟩ := inner_ok s.n come out r.1 r.2 h hi
         obtain ⟨h3, h4⟩ := outer_ok f r.1 r.2 l h1 he
         exact ⟨h3, by omega⟩
theorem ordE_ok (s : Sft) : okL s (ordE s).1 ∧ (ordE s).1.length ≤ s.n := by
 have h0 : okL s [] := fun x hx => by cases hx
 unfold ordE
 split
 · exact ⟨h0, Nat.zero_le _⟩
 · split
   · exact ⟨h0, Nat.zero_le _⟩
   · rename_i l he
     obtain ⟨h1, h2⟩ := outer_ok s.n _ [] l h0 he
     have := leftN_le s fun _ => false
     exact ⟨h1, by show l.length ≤ s.n; simp only [List.length_nil] at h2; omega⟩
theorem plndE_l {s : Sft} (h : (plndE s).2 = 0) : (plndE s).1 = (ordE s).1 ∧ sftE s = 0 := by
 unfold plndE at h ⊢
 split at h
 · rename_i h1; exact absurd h h1
 · rename_i h1
   have h1' : (ordE s).2 = 0 := by simpa using h1
   have h0 : sftE s = 0 := by
    by_cases e : sftE s = 0
    · exact e
    · have : ordE s = ([], sftE s) := by unfold ordE; rw [if_pos e]
      rw [this] at h1'; exact absurd h1' e
   split at h
   · cases h
   · rename_i h2
     rw [if_neg h1, if_neg h2]
     exact ⟨rfl, h0⟩
def xferF (i : Nat) : Ins := ⟨7, false, 0, i, i, 0, 0⟩
def xferB (i : Nat) (t : Int) : Ins := ⟨7, false, 1, i, t, 0, 0⟩
def rackI (r : Int) : Ins := ⟨8, false, 0, 0, 0, 0, r⟩
def turnI (now o : Int) : List Ins := if o = now then [] else [rackI o]
def stepP (s : Sft) (st : Int × List Ins) (x : Int) : Int × List Ins := (offN s x.toNat, st.2 ++ (turnI st.1 (offN s x.toNat) ++ [xferB x.toNat (s.to_.getD x.toNat 0)]))
def frontP (s : Sft) (i : Nat) : List Ins := ((List.range i).filter (movedN s)).map xferF
def runP (s : Sft) (l : List Int) (k : Nat) : Int × List Ins := (l.take k).foldl (stepP s) (0, frontP s s.n)
def plnI (s : Sft) (l : List Int) : List Ins := (runP s l l.length).2 ++ turnI (runP s l l.length).1 0
def plE (s : Sft) : List Ins × Int := if (plndE s).2 ≠ 0 then ([], (plndE s).2) else (plnI s (plndE s).1, 0)
theorem frontP_next (s : Sft) (i : Nat) : frontP s (i + 1) = frontP s i ++ if movedN s i then [xferF i] else [] := by
 unfold frontP
 rw [List.range_succ, List.filter_append, List.map_append]
 congr 1
 cases h : movedN s i with
 | true => rw [List.filter_cons_of_pos h]; rfl
 | false => rw [List.filter_cons_of_neg (by rw [h]; simp)]; rfl
theorem frontP_len (s : Sft) (i : Nat) : (frontP s i).length ≤ i := by
 unfold frontP
 rw [List.length_map]
 have := List.length_filter_le (movedN s) (List.range i)
 rwa [List.length_range] at this
theorem runP_zero (s : Sft) (l : List Int) : runP s l 0 = (0, frontP s s.n) := rfl
theorem runP_next {s : Sft} {l : List Int} {k i : Nat} (h : l[k]? = some (i : Int)) : runP s l (k + 1) = (offN s i, (runP s l k).2 ++ (turnI (runP s l k).1 (offN s i) ++ [xferB i (s.to_.getD i 0)])) := by
 unfold runP
 obtain ⟨hk, e⟩ := List.getElem?_eq_some_iff.1 h
 rw [List.take_succ_eq_append_getElem hk, e, List.foldl_append]
 rfl
theorem turnI_len (a b : Int) : (turnI a b).length ≤ 1 := by unfold turnI; split <;> simp
theorem runP_len {s : Sft} {l : List Int} (h : okL s l) : ∀ k, k ≤ l.length → (runP s l k).2.length ≤ s.n + 2 * k
 | 0, _ => by rw [runP_zero]; exact frontP_len s s.n
 | k + 1, hk => by
   have ih := runP_len h k (by omega)
   obtain ⟨i, hi, -⟩ := h l[k] (List.getElem_mem (by omega))
   rw [runP_next (i := i) (by rw [List.getElem?_eq_getElem (by omega), hi])]
   simp only [List.length_append, List.length_singleton]
   have := turnI_len (runP s l k).1 (offN s i)
   omega
end Go.Proofs.YtflpikickbellaaGreat
namespace Go.Proofs.YtflpikickbellaaGreat
open Go.RowKit Go.Shelf Go.Sort
set_option maxRecDepth 100000
def kept (pr : Int → Bool) (l : List Int) (j : Nat) : List Int := (l.take j).filter fun x => !pr x
theorem kept_next {pr : Int → Bool} {l : List Int} {j : Nat} {x : Int} (h : l[j]? = some x) : kept pr l (j + 1) = kept pr l j ++ if pr x then [] else [x] := by
 obtain ⟨hj, e⟩ := List.getElem?_eq_some_iff.1 h
 unfold kept
 rw [List.take_succ_eq_append_getElem hj, e, List.filter_append]
 congr 1
 cases hp : pr x with
 | true => rw [List.filter_cons_of_neg (by rw [hp]; simp)]; rfl
 | false => rw [List.filter_cons_of_pos (by rw [hp]; rfl)]; rfl
theorem kept_le (pr : Int → Bool) (l : List Int) (j : Nat) : (kept pr l j).length ≤ j := by
 unfold kept
 have := List.length_filter_le (fun x => !pr x) (l.take j)
 rw [List.length_take] at this
 omega
theorem kept_all (pr : Int → Bool) (l : List Int) : kept pr l l.length = l.filter fun x => !pr x := by unfold kept; rw [List.take_length]
theorem kept_none {pr : Int → Bool} {l : List Int} {k : Nat} (h : ∀ (j : Nat) (y : Int), j < k → l[j]? = some y → pr y = false) : kept pr l k = l.take k := by
 unfold kept
 rw [List.filter_eq_self]
 intro x hx
 obtain ⟨j, hj⟩ := List.mem_iff_getElem?.1 hx
 rw [List.getElem?_take] at hj
 split at hj
 · rename_i hlt
   rw [h j x hlt hj]; rfl
 · cases hj
structure DfD (pr : Int → Bool) (l : List Int) (j : Nat) (d : List Int) : Prop where
 len : d.length = l.length
 lo : d.take (kept pr l j).length = kept pr l j
 hi : d.drop j = l.drop j
theorem DfD.at_ {pr : Int → Bool} {l d : List Int} {j : Nat} (h : DfD pr l j d) {x : Int} (hx : l[j]? = some x) : d[j]? = some x := by
 have e : (d.drop j)[0]? = (l.drop j)[0]? := by rw [h.hi]
 rw [List.getElem?_drop, List.getElem?_drop, Nat.add_zero] at e
 rw [e, hx]
theorem DfD.skip {pr : Int → Bool} {l d : List Int} {j : Nat} (h : DfD pr l j d) {x : Int} (hx : l[j]? = some x) (hp : pr x = true) : DfD pr l (j + 1) d := by
 have e : kept pr l (j + 1) = kept pr l j := by rw [kept_next hx, if_pos hp, List.append_nil]
 refine ⟨h.len, by rw [e]; exact h.lo, ?_⟩
 rw [← List.drop_drop, ← List.drop_drop, h.hi]
theorem DfD.keep {pr : Int → Bool} {l d : List Int} {j : Nat} (h : DfD pr l j d) (hlt : (kept pr l j).length < j) {x : Int} (hx : l[j]? = some x) (hp : pr x = false) : DfD pr l (j + 1) (d.set (kept pr l j).length x) := by
 have hj := (List.getElem?_eq_some_iff.1 hx).1
 have e : kept pr l (j + 1) = kept pr l j ++ [x] := by rw [kept_next hx, hp]; rfl
 have hl := h.len
 refine ⟨by rw [List.length_set]; exact h.len, ?_, ?_⟩
 · rw [e, List.length_append, List.length_singleton]
   apply List.ext_getElem?
   intro m
   rw [List.getElem?_take]
   by_cases h1 : m < (kept pr l j).length
   · rw [if_pos (by omega), List.getElem?_set_ne (by omega), List.getElem?_append_left h1]
     have : (d.take (kept pr l j).length)[m]? = (kept pr l j)[m]? := by rw [h.lo]
     rw [List.getElem?_take, if_pos h1] at this
     exact this
   · by_cases h2 : m = (kept pr l j).length
     · subst h2
       rw [if_pos (by omega), List.getElem?_set_self (by omega), List.getElem?_append_right (Nat.le_refl _), Nat.sub_self]; rfl
     · rw [if_neg (by omega), List.getElem?_eq_none (by rw [List.length_append, List.length_singleton]; omega)]
 · rw [List.drop_set_of_lt (by omega), ← List.drop_drop, ← List.drop_drop, h.hi]
theorem kept_lt {pr : Int → Bool} {l : List Int} {k : Nat} {x : Int} (hx : l[k]? = some x) (hp : pr x = true) : ∀ j, k < j → (kept pr l j).length < j
 | 0, h => absurd h (Nat.not_lt_zero _)
 | j + 1, h => by
   by_cases e : k = j
   · subst e
     rw [kept_next hx, if_pos hp, List.append_nil]
     have := kept_le pr l k
     omega
   · have ih := kept_lt hx hp j (by omega)
     by_cases hj : j < l.length
     · rw [kept_next (List.getElem?_eq_getElem hj), List.length_append]
       split <;> simp <;> omega
     · have : kept pr l (j + 1) = kept pr l j := by unfold kept; rw [List.take_of_length_le (by omega), List.take_of_length_le (by omega)]
       rw [this]; omega
theorem run_clear_rows {P : Program} (w : World) (t e ty : TypeId) (z : Value) (ht : P.underlying t = some (.slice e)) (hv : ∀ w, (zeroValue e).run P w = .ok z w) (g o m c : Nat) (cur : Array Value) (te : TypeId)
 (hg : w.heap[g]? = some (.cells cur te (0, 0))) (hz : z.cells = #[z]) (h1 : z.oneCell' = true) (hm : 0 < m) (hfit : o + m ≤ cur.size) :
 (Builtin.clear_ #[t] ty #[.slice (some ⟨g, o, none⟩) m c]).run P w = .ok (.tuple #[]) (w.setRow g (splice cur.toList o (List.replicate m z)).toArray) := by
 have hzc : (Builtin.zeroCells z.cells m).toList = List.replicate m z := by
  rw [hz]
  apply List.ext_getElem
  · simp [Builtin.zeroCells]
  · intro j h1 h2
    simp [Builtin.zeroCells, Nat.mod_one]
 have hst := run_storeCells_at P g o te (List.replicate m z) 0 cur w hg (by simpa using hfit) (fun v hv => by rw [(List.mem_replicate.1 hv).2]; exact h1)
 obtain ⟨m, rfl⟩ : ∃ k, m = k + 1 := ⟨m - 1, by omega⟩
 simp [Builtin.clear_, run_underlying ht, hv, hzc, hst, splice]
theorem zero_intT (w : World) : (zeroValue 3).run Tryz.prog w = .ok (.int .i64 0) w := by kernel_rfl
theorem intV_set (d : List Int) (i : Nat) (x : Int) : (intV d).set i (.int .i64 x) = intV (d.set i x) := by unfold intV; rw [List.map_set]
def DfPost (w : World) (B : Nat) (v : Value) (L : List Int) (e : Ending) (w' : World) : Prop := ∃ v', e = .returned v' ∧ ownI w' B v' L ∧ w.grownBy w' v.ownBlock ∧ ∀ k, v'.ownBlock = some k → v.ownBlock = some k
set_option maxHeartbeats 8000000 in
theorem delF_any (g : Nat) (lb : Array Value) (eg : ∀ args w, (callFunc g args).run Tryz.prog w = .ok (.enter g args) w) (pr : Int → Bool) (nb : Nat) (zv : Value) (B c : Nat) (A : Option Addr) (l : List Int) (hn : l.length ≤ 1000000) (w : World)
 (hl : ownI w B (.slice A l.length c) l) (hnb : (Value.slice A l.length c).ownBlock ≠ some nb) (hz : w.cell? ⟨nb, 0, none⟩ = some zv)
 (hp : ∀ x W', W'.cell? ⟨nb, 0, none⟩ = some zv → Calls Tryz.prog g (#[.int .i64 x] ++ lb) W' fun e w2 => e = .returned (.bool (pr x)) ∧ w2 = W') :
 Calls Tryz.prog 55 #[.slice A l.length c, .func (.func g) #[] lb] w fun e w' => DfPost w B (.slice A l.length c) (l.filter fun x => !pr x) e w' := by
 have HI := Lib.hid (idxJ_any g lb eg pr A c l w hl.slI (by omega) (fun x _ W' hb => (hp x W' ((bcell hb (lt_of_cell hz) _).trans hz)).mono fun e w2 h => ⟨h.1, by rw [h.2]; exact Below.refl _ _⟩))
 have HP := Lib.hid hp
 have HL := Lib.hid hl
 have HZ := Lib.hid hz
 clear hl hp hz
 obtain ⟨ix, hix⟩ : ∃ ix, ix = idxE pr l := ⟨_, rfl⟩
 rw [← hix] at HI
 by_cases hany : l.any pr = true
 case neg =>
  have hall : ∀ x ∈ l, pr x = false := by
   rw [Bool.not_eq_true, List.any_eq_false] at hany
   exact fun x hx => by simpa using hany x hx
  have e1 : ix = -1 := by rw [hix]; exact idxE_none (fun j y hj hy => hall y (List.mem_of_getElem? hy))
  have e2 : (l.filter fun x => !pr x) = l := List.filter_eq_self.2 fun x hx => by rw [hall x hx]; rfl
  rw [e2]
  subst e1
  clear hix e2 hall hany eg
  go_enter Tryz.func55, Tryz.ntmps55
  go_wp2_with ((go_at_call 91; refine HI.out.mono ?_; rintro e w1 ⟨rfl, hb1⟩))
  go_ret
  exact ⟨_, rfl, own_below HL.out hb1 (Nat.le_refl _), grown_below hb1, fun k h => h⟩
 case pos =>
  obtain ⟨k0, x0, hk0, hx0, hlt0⟩ : ∃ (k0 : Nat) (x0 : Int), l[k0]? = some x0 ∧ pr x0 = true ∧ ∀ (j : Nat) (y : Int), j < k0 → l[j]? = some y → pr y = false := by
   obtain ⟨x, hx⟩ := Option.isSome_iff_exists.1 (List.find?_isSome.2 (List.any_eq_true.1 hany))
   obtain ⟨k, h1, h2, h3⟩ := find_at hx
   exact ⟨k, x, h1, h2, h3⟩
  have e1 : ix = (k0 : Int) := by rw [hix]; exact idxE_hit hk0 hx0 hlt0
  have hkl := (List.getElem?_eq_some_iff.1 hk0).1
  obtain ⟨b, rfl, hBb⟩ : ∃ b, A = some ⟨b, 0, none⟩ ∧ B ≤ b := by
   rcases HL.out.2 with ⟨hv, h0⟩ | ⟨b, cap, cur, hv, hb, -⟩
   · omega
   · cases hv; exact ⟨b, rfl, hb⟩
  obtain ⟨cur0, -, -, hnc, hcm, -⟩ := own_whole HL.out
  have hD0 : DfD pr l (k0 + 1) l := by
   have e : kept pr l (k0 + 1) = l.take k0 := by rw [kept_next hk0, if_pos hx0, List.append_nil, kept_none hlt0]
   refine ⟨rfl, ?_, rfl⟩
   rw [e, List.length_take, Nat.min_eq_left (by omega)]
  have hi0 : (kept pr l (k0 + 1)).length = k0 := by rw [kept_next hk0, if_pos hx0, List.append_nil, kept_none hlt0, List.length_take, Nat.min_eq_left (by omega)]
  have HLt := Lib.hid (fun j (hj : k0 < j) => kept_lt hk0 hx0 j hj)
  have HD0 := Lib.hid hD0
  have HKl := Lib.hid (kept_all pr l)
  unfold maxLen at hcm
  subst e1
  have hne1 : ((k0 : Int) == -1) = false := beq_eq_false_iff_ne.2 (by omega)
  have HI0 := Lib.hid hi0
  clear hix hany hlt0 hx0 hk0 hD0 hi0
  go_enter Tryz.func55, Tryz.ntmps55
  go_wp2_with ((go_at_call 91; refine HI.out.mono ?_; rintro e w1 ⟨rfl, hb1⟩))
  have HW1 : Hid (ownI w1 B (.slice (some ⟨b, 0, none⟩) l.length c) l ∧ w.grownBy w1 (some b)) := ⟨own_below HL.out hb1 (Nat.le_refl _), grown_below hb1⟩
  clear hb1 HI hne1
  go_loopw [5, 6] (fun s5 s6 wr => ∃ (j : Nat) (d : List Int), k0 < j ∧ j ≤ l.length ∧ s6 = .int .i64 (j : Int) ∧ s5 = .int .i64 (((kept pr l j).length : Nat) : Int) ∧ Hid (DfD pr l j d) ∧ Hid (wr.ownsRow B 3 1 (.slice (some ⟨b, 0, none⟩) l.length c) l.length (intV d) ∧ w.grownBy wr (some b))) (fun _ s6 _ => l.length - (intOf s6).toNat)
  case atStart => exact ⟨k0 + 1, l, by omega, by omega, by go_num, by rw [HI0.out], HD0.out, HW1.out⟩
  case round =>
   obtain ⟨j, d, hj0, hj, rfl, rfl, HD, HW⟩ := hrel
   clear HD0 HW1 HI0
   obtain ⟨W, hW⟩ : ∃ x : World, x = wr := ⟨_, rfl⟩
   rw [← hW] at HW ⊢
   clear hW
   have hil := HLt.out j hj0
   have hil : (kept pr l j).length < j := hil
   have hcz := (World.cell?_of_block (a := ⟨nb, 0, none⟩) (HW.out.2.block nb (lt_of_cell HZ.out) (fun e => hnb e.symm))).trans HZ.out
   have HCz := Lib.hid hcz
   clear hcz
   by_cases hlt : j < l.length
   case pos =>
    obtain ⟨x, hx⟩ : ∃ x, l[j]? = some x := ⟨_, List.getElem?_eq_getElem hlt⟩
    have hcx : W.cell? ⟨b, j, none⟩ = some (.int .i64 x) := by
     rw [World.ownsRow.cellAt HW.out.1 j (by omega)]
     unfold intV
     rw [List.getElem?_map, HD.out.at_ hx]; rfl
    have hfr : ∀ k, W.frozen? ⟨b, k, none⟩ = false := fun k => World.ownsRow.frozenAt HW.out.1 k
    have HPx := Lib.hid (HP.out x W HCz.out)
    have hci : ∃ u, W.cell? ⟨b, (kept pr l j).length, none⟩ = some (.int .i64 u) := by
     have hd : (kept pr l j).length < d.length := by rw [HD.out.len]; omega
     refine ⟨d[(kept pr l j).length], ?_⟩
     rw [World.ownsRow.cellAt HW.out.1 _ (by omega)]
     unfold intV
     rw [List.getElem?_map, List.getElem?_eq_getElem hd]; rfl
    obtain ⟨u, hcu⟩ := hci
    have HDx := Lib.hid (And.intro hx HD.out)
    obtain ⟨i, hi⟩ : ∃ i, i = (kept pr l j).length := ⟨_, rfl⟩
    have HI := Lib.hid hi
    rw [← hi] at hcu hil ⊢
    cases hq : pr x with
    | true =>
      rw [hq] at HPx
      have HDn := Lib.hid (HDx.out.2.skip hx hq)
      have HIn : Hid ((kept pr l (j + 1)).length = i) := by show _ = _; rw [hi, kept_next hx, if_pos hq, List.append_nil]
      clear hx hq hi hcu hfr HD
      go_wp2_with ((go_at_fn g; refine HPx.out.mono ?_; rintro e w2 ⟨rfl, rfl⟩))
      go_roundw
      case rel => exact ⟨j + 1, d, by omega, by omega, by go_num, by rw [HIn.out], HDn.out, HW.out⟩
      case measure => simp [intOf]; omega
    | false =>
      rw [hq] at HPx
      have HDn := Lib.hid (HDx.out.2.keep (by rw [← hi]; exact hil) hx hq)
      have HIn : Hid ((kept pr l (j + 1)).length = i + 1) := by show _ = _; rw [hi, kept_next hx, hq]; simp
      rw [← hi] at HDn
      have HSt : Hid ((W.setCell ⟨b, i, none⟩ (.int .i64 x)).ownsRow B 3 1 (.slice (some ⟨b, 0, none⟩) l.length c) l.length (intV (d.set i x)) ∧ w.grownBy (W.setCell ⟨b, i, none⟩ (.int .i64 x)) (some b)) := by
       obtain ⟨h1, h2⟩ := World.ownsRow.stored HW.out.1 i (.int .i64 x)
       rw [intV_set] at h1
       exact ⟨h1, grown_trans HW.out.2 h2⟩
      clear hx hq hi HD
      go_wp2_with ((go_at_fn g; refine HPx.out.mono ?_; rintro e w2 ⟨rfl, rfl⟩))
      go_roundw
      case rel => exact ⟨j + 1, d.set i x, by omega, by omega, by go_num, by rw [HIn.out]; go_num, HDn.out, HSt.out⟩
      case measure => simp [intOf]; omega
   case neg =>
    obtain rfl : j = l.length := by omega
    obtain ⟨cur, hg, -, -, -, hcs, htk, -⟩ := own_whole HW.out.1
    have hlo := HD.out.lo
    have hdl := HD.out.len
    have hkl2 := HKl.out
    have hnn : ∀ x : Nat, x * 1 = x := Nat.mul_one
    rw [hnn] at hcs htk
    have hfin : ∀ r : List Value, (kept pr l l.length).length + r.length = l.length → DfPost w B (.slice (some ⟨b, 0, none⟩) l.length c) (l.filter fun x => !pr x) (.returned (.slice (some ⟨b, 0, none⟩) (kept pr l l.length).length c)) (W.setRow b (splice cur.toList (kept pr l l.length).length r).toArray) := fun r hr => by
     have h3 : (kept pr l l.length).length + r.length ≤ cur.toList.length := by
      have e : cur.toList.length = c := by rw [Array.length_toList]; exact hcs
      omega
     refine ⟨_, rfl, ?_, grown_trans HW.out.2 (grown_setRow W b _), fun k h => h⟩
     have := own_of_whole (B := B) (n := (kept pr l l.length).length) (c := c) (sz := 1) (heap_setRow (cs := (splice cur.toList (kept pr l l.length).length r).toArray) hg) hBb (by omega) (by unfold maxLen; omega) (by rw [splice_len h3, Array.length_toList, hcs, Nat.mul_one])
     rw [Nat.mul_one, splice_take (by omega) (Nat.le_refl _)] at this
     unfold ownI
     rw [← hkl2]
     have e : cur.toList.take (kept pr l l.length).length = intV (kept pr l l.length) := by
      have e2 : cur.toList.take (kept pr l l.length).length = (cur.toList.take l.length).take (kept pr l l.length).length := by rw [List.take_take, Nat.min_eq_left (by omega)]
      rw [e2, htk]
      unfold intV
      rw [← List.map_take, hlo]
     rw [e] at this
     exact this
    have hcl : ∀ ty, (Builtin.clear_ #[22] ty #[.slice (some ⟨b, (kept pr l l.length).length, none⟩) (l.length - (kept pr l l.length).length) (c - (kept pr l l.length).length)]).run Tryz.prog W = .ok (.tuple #[]) (W.setRow b (splice cur.toList (kept pr l l.length).length (List.replicate (l.length - (kept pr l l.length).length) (.int .i64 0))).toArray) := fun ty =>
     run_clear_rows (P := Tryz.prog) W 22 3 ty (.int .i64 0) Tryz.underlying22 zero_intT b _ _ _ cur _ hg rfl rfl (by omega) (by rw [hcs]; omega)
    have HF := Lib.hid (hfin (List.replicate (l.length - (kept pr l l.length).length) (.int .i64 0)) (by rw [List.length_replicate]; omega))
    obtain ⟨i, hi⟩ : ∃ i, i = (kept pr l l.length).length := ⟨_, rfl⟩
    rw [← hi] at hcl HF hil ⊢
    have hic : ¬ c = i := by omega
    have hq1 : i ≤ c := by omega
    have hq2 : i ≤ l.length := by omega
    clear hfin hlo hdl hkl2 hnn hcs htk hg hi HD HW HKl hj hlt HCz
    go_wp2_with (refine wpList_clear_run _ rfl _ 22 rfl _ (by rfl) (hcl _) ?_)
    go_ret
    exact HF.out
end Go.Proofs.YtflpikickbellaaGreat
namespace Go.Proofs.YtflpikickbellaaGreat
open Go.RowKit Go.Shelf Go.Sort Go.Maps
attribute [local go_sem] Oper.semAt_some
set_option maxRecDepth 100000
theorem keys_any (mb : Nat) (w : World) :
 Calls Tryz.prog 30 #[.map (some mb)] w fun e w' => e = .returned (.func (.func 60) #[] #[.pointer (some ⟨w.heap.size, 0, none⟩)]) ∧ w.alloc (.cells #[.map (some mb)] 79) = w' := by
 have hmf : ∀ (fn : Fn) (first cap : Array Value) (w : World), (Instr.makeFunc fn first cap).run Tryz.prog w = .ok (.func fn first cap) w := fun _ _ _ _ => rfl
 go_enter Tryz.func30, Tryz.ntmps30
 go_wp2
 go_ret
 exact ⟨rfl, rfl⟩
set_option maxHeartbeats 4000000 in
theorem keys_stops (n : Nat) (hn : 1 ≤ n) (Bs mb nn : Nat) (D : DataW Value) (w : World) (hBs : Bs < w.heap.size) (hm : w.cell? ⟨Bs, 0, none⟩ = some (.map (some mb))) (hown : w.ownsMap Tryz.prog 3 rawR mb nn D) :
 SeqStopsK Fence.wide n Tryz.prog 60 #[.pointer (some ⟨Bs, 0, none⟩)] encI1 KeepsWalks (fun xs => xs.Perm (intKeys D)) (fun _ => True) (Maps.size D) w := by
 intro l J Jx W hW hJ hJx hY h0
 have hm0 := (hW.cell (p := ⟨Bs, 0, none⟩) hBs).trans hm
 have hown0 : W.ownsMap Tryz.prog 3 rawR mb nn D := by
  have hbl := hown.lt
  obtain ⟨es, clock, hb, Ft, hs, hD⟩ := hown
  exact ⟨es, clock, (hW.block mb hbl).trans hb, Ft, hs, hD⟩
 clear hm hown hW hBs
 have HY := Lib.hid hY
 have HJ := Lib.hid hJ
 clear hY hJ hJx
 refine callsIn_of_wp Tryz.func60 rfl trivial ?_ rfl
 simp only [Tryz.ntmps60, List.size_toArray, List.length_cons, List.length_nil, Nat.reduceAdd, Nat.reduceSub, Array.replicate_succ, Array.replicate_zero, List.push_toArray, List.append_toArray, List.nil_append, List.cons_append]
 gi_wp2_with (first
  | (gi_at_range; refine wpListIn_range_own _ rfl _ 79 rfl 3 22 (int_keyed Tryz.underlying3) Tryz.underlying79 _ mb nn _ rfl hown0 ?_; intro w0 hrg0 hg0 hs0)
  | gi_in)
 go_frame
 have HRg0 := Lib.hid hrg0
 have HJ0 := Lib.hid (HJ.out [] W w0 none h0 hg0 (fun r e => by cases e))
 clear hrg0 hg0 hs0 h0 hm0
 gi_loopw [3] (fun _ wr => ∃ (left : Lit → Bool) (cnt : Nat) (ss : List Int), Hid (wr.ranges Tryz.prog 3 rawR mb W.heap.size nn D left cnt) ∧ Hid (ss.length + cnt ≤ Maps.size D) ∧ Hid (CollectedI D left ss) ∧ Hid (J ss wr))
  (fun _ wr => wr.rangeLeft mb W.heap.size)
 case atStart => exact ⟨_, _, [], HRg0.out, (by show _ ≤ _; simp), CollectedI.start D, HJ0.out⟩
 case round =>
  obtain ⟨left, cnt, ss, HRg, HCs, HC, HJs⟩ := hrel
  clear HRg0 HJ0
  gi_wp2_with (first
   | (gi_at_next; refine wpListIn_next_ranges _ rfl _ rfl 3 (int_keyed Tryz.underlying3) rawR encZ id (fun key kl hk => by obtain ⟨x, hx, _⟩ := Maps.keyOf_i64 Tryz.underlying3 hk; exact ⟨x, hx⟩) (fun v _ _ => ⟨v, rfl⟩) mb W.heap.size nn _ _ _ rfl HRg.out ?_ ?_)
   | gi_in)
  · intro hc0 hl0
    have HF := Lib.hid (HC.out.perm hown0 (int_keyed Tryz.underlying3) Tryz.underlying3 hl0)
    clear hc0 hl0 HC HCs HRg
    gi_wp2
    go_end0
    exact ⟨⟨_, rfl⟩, .inl ⟨ss, HF.out, HJs.out⟩⟩
  · intro x c kl yd yp w2 cnt2 hkey hlk hv hat hrg2 hlt hg2 hs2 hen
    obtain ⟨x', ex, rfl, _⟩ := Maps.keyOf_i64 Tryz.underlying3 hkey
    obtain rfl : x = x' := encZ_inj ex
    have hJ2 : J ss w2 := HJ.out ss wr w2 (some W.heap.size) HJs.out hg2 (fun r e => by cases e; exact ⟨Nat.le_refl _, HRg.out.iter_walk⟩)
    obtain ⟨fn, tmps, assign, body, hy, hR⟩ := HY.out ss x w2 hJ2 (by have := HCs.out; omega)
    unfold encI1 at hy
    have HR := Lib.hid hR
    have HRg2 := Lib.hid hrg2
    have HC2 := Lib.hid (HC.out.step hlk hat)
    have HCs2 : Hid ((ss ++ [x]).length + cnt2 ≤ Maps.size D) := by
     have h := HCs.out
     show _ ≤ _
     rw [List.length_append, List.length_singleton]
     omega
    have HLe : Hid (wr.rangeLeft mb W.heap.size = cnt ∧ cnt2 < cnt) := ⟨HRg.out.left_eq, hlt⟩
    clear hs2 hR hrg2 hlk hat hJ2 hg2 hlt HRg HC HCs HJs hkey hv ex hown0
    gi_wp2
    refine HR.out.mono ?_
    rintro e W3 (⟨rfl, hJ3, hk3⟩ | ⟨rfl, hJx3⟩)
    · have HJ3 := Lib.hid hJ3
      have HRg3 := Lib.hid (HRg2.out.of_walks hk3)
      clear hk3 hJ3 HRg2
      gi_wp2
      go_roundw
      case rel => exact ⟨_, cnt2, ss ++ [x], HRg3.out, HCs2.out, HC2.out, HJ3.out⟩
      case measure => rw [HRg3.out.left_eq, HLe.out.1]; exact HLe.out.2
    · gi_wp2
      refine bodyPost_ret (results_none rfl _ _ _) rfl ?_
      exact ⟨⟨_, rfl⟩, .inr ⟨_, trivial, hJx3⟩⟩
theorem seq_walks {w W w6 : World} {ob : Nat} {vo vo' : Value} {pre : List Int} {o : Obj} (hown : W.ownsRow w.heap.size 3 1 vo pre.length (intV pre)) (h6 : (W.alloc o).grownBy w6 vo.ownBlock) : KeepsWalks W (w6.setCell ⟨ob, 0, none⟩ vo') := by
 refine ((KeepsWalks.alloc W o).trans (KeepsWalks.of_grownBy h6 fun j x e hx => ?_)).trans (KeepsWalks.setCell _ _ _)
 rcases hown.2 with ⟨hv, _⟩ | ⟨g, cap, cur, hv, _, hh, _⟩
 · rw [hv] at e; cases e
 · rw [hv] at e
   cases e
   have := ((Below.refl W.heap.size W).alloc (Nat.le_refl _) o).block g (Array.getElem?_eq_some_iff.1 hh).1
   rw [this, hh] at hx
   cases hx; rfl
set_option maxHeartbeats 4000000 in
theorem appendSeqK (g : Nat) (lb : Array Value) (eg : ∀ args w, (callFunc g args).run Tryz.prog w = .ok (.enter g args) w) (S : List Int → Prop) (N : Nat) (hN : N ≤ 1000000) (w : World)
 (hseq : ∀ W, Below w.heap.size w W → SeqStopsK Fence.wide 2 Tryz.prog g lb encI1 KeepsWalks S (fun _ => True) N W) :
 Calls Tryz.prog 92 #[.slice none 0 0, .func (.func g) #[] lb] w fun e w' => ∃ v xs, e = .returned v ∧ S xs ∧ w'.ownsRow w.heap.size 3 1 v xs.length (intV xs) ∧ Below w.heap.size w w' := by
 obtain ⟨i0, hi, hz0, hz1, hz2⟩ := info_parts info_int'
 refine (callsIn_wide (n := 3)).1 ?_
 refine callsIn_of_wp_marks Tryz.func92 rfl trivial ?_ rfl
 simp only [Tryz.ntmps92, List.size_toArray, List.length_cons, List.length_nil, Nat.reduceAdd, Nat.reduceSub, Array.replicate_succ, Array.replicate_zero, List.push_toArray, List.append_toArray, List.nil_append, List.cons_append]
 have HSq := Lib.hid hseq
 clear hseq
 gi_wp2
 refine abs_world (Q := fun W => Code.wpIn _ _ _ _ _ _ W) (F := fun W => W.heap.size = w.heap.size + 1 ∧ Below w.heap.size w W ∧ SeqI w w.heap.size N [] W) _ ?_ ?_
 · have hb := (Below.refl w.heap.size w).alloc (Nat.le_refl _) (.cells #[.slice none 0 0] 22)
   exact ⟨by simp, hb, .slice none 0 0, hb, by simp, ⟨cell_new rfl rfl rfl, thawed_new' _ _ _ 0 rfl⟩, World.ownsRow_nil _ _ _ _, (fun e => by cases e), Nat.zero_le _⟩
 rintro w3 ⟨hz3, hB3, hI3⟩
 have HI3 := Lib.hid hI3
 clear hI3
 refine wpIn_rangeFunc_ownH rfl (by omega) (gf := g) (lb := lb) rfl trivial eg
  (HSq.out w3 hB3) walksK_t walksK_b (Below.refl _ _) (fun _ => rfl)
  (SeqI w w.heap.size N) (fun _ _ _ => False)
  (SeqI.from w w.heap.size N _ (by omega))
  (fun _ _ _ _ _ hs _ _ => hs)
  HI3.out
  (fun (x : Int) (a' : Act) (_ : World) => a' = { tmps := #[.slice none 0 0, .func (.func g) #[] lb, .pointer (some ⟨w.heap.size, 0, none⟩), undef, .slice none 0 0, .int .i64 x, .func (.func g) #[] lb, .int .i64 x, undef, undef, undef, undef, undef], defers := [] })
  (fun _ _ _ _ _ _ h _ _ => h) ?assign ?body ?done ?stop
 case assign =>
  intro l2 pre x W K hI hK
  unfold encI1
  gi_wp2
  exact hK _ _ (KeepsFrom.refl _ _) (KeepsWalks.refl _) hI rfl
 case body =>
  rintro l2 pre x a' W hl2 hrec ⟨vo, hB, hz, ⟨hc, hf⟩, hown, hne, hN2⟩ rfl hpre
  have uc := fun o => cell_al hc o
  have vf := fun o => (Below.frozen ((Below.refl W.heap.size W).alloc (Nat.le_refl _) o) (p := ⟨w.heap.size, 0, none⟩) (lt_of_cell hc)).trans hf
  have HO := Lib.hid hown
  have HB := Lib.hid (show _ ∧ _ ∧ _ from ⟨hB, hc, hf⟩)
  have hwz := hB.size
  clear hown hB
  gi_wp2_with (gi_at_builtin; refine wpListIn_append_own_at _ rfl _ _ 22 rfl w.heap.size 3 i0 (.int .i64 0) 1 8 Tryz.underlying22 hi hz0 hz1 hz2 rfl (by decide) vo pre.length (intV pre) rfl (HO.out.alloc _) ⟨W.heap.size, 0, none⟩ 1 1 [.int .i64 x] rfl rfl (newsT W _ _ _ rfl) (by intro v hv; rw [List.mem_singleton.1 hv]; rfl) (by unfold maxLen; omega) (by omega) (by simp; omega) ?_; intro v' w6 hown6 hgrow6 _ hat6; have HT := Lib.hid (seq_round (Nat.le_refl _) (show w.heap.size < w3.heap.size by omega) HB.out.1 hz HB.out.2.1 HB.out.2.2 HO.out hne hpre hgrow6 hat6 hown6); have HK := Lib.hid (seq_walks (ob := w.heap.size) (vo' := v') HO.out hgrow6); have hc6 : w6.cell? ⟨w.heap.size, 0, none⟩ = some vo := (World.cell?_of_block (hgrow6.block w.heap.size (lt_of_cell (uc _)) (fun e => hne e.symm))).trans (uc _); have hf6 : w6.frozen? ⟨w.heap.size, 0, none⟩ = false := (World.frozen?_of_block (hgrow6.block w.heap.size (lt_of_cell (uc _)) (fun e => hne e.symm))).trans (vf _); obtain ⟨a9, c9, rfl, hc9⟩ := own_slice hown6; clear hown6 hgrow6 hat6)
  exact ⟨HT.out.1, HK.out, HT.out.2.2⟩
 case done =>
  rintro D xs W hD hS ⟨vo, hB, hz, ⟨hc, hf⟩, hown, hne, hN2⟩ hK
  have HOwn := Lib.hid hown
  have HB := Lib.hid hB
  clear hown hB
  gi_wp2
  refine ⟨by simp, .inl ⟨_, _, rfl, run_takeDeferred hK, ?_⟩⟩
  have hk : (W.putObj D (.deferred none)).ownsRow w.heap.size 3 1 vo xs.length (intV xs) := HOwn.out.kept (grownBy_putObj' W D _) (by
   cases hv : vo.ownBlock with
   | none => exact Or.inl rfl
   | some g =>
     refine Or.inr fun e => ?_
     rcases HOwn.out.2 with ⟨hv2, _⟩ | ⟨g', cap, cur, hv2, _, hh, _⟩
     · rw [hv2] at hv; cases hv
     · rw [hv2] at hv; cases hv; cases e
       rw [hh] at hK; cases hK)
  exact ⟨_, results_tmp rfl _ _ _, vo, xs, rfl, hS, hk, HB.out.trans (belowK_b (w := w) (Nat.le_refl _) W D _ _ (by omega) hK rfl rfl)⟩
 case stop =>
  rintro D c' pre W _ _ h _
  exact h.elim
set_option maxHeartbeats 1000000 in
theorem collectK (g : Nat) (lb : Array Value) (eg : ∀ args w, (callFunc g args).run Tryz.prog w = .ok (.enter g args) w) (S : List Int → Prop) (N : Nat) (hN : N ≤ 1000000) (w : World)
 (hseq : ∀ W, Below w.heap.size w W → SeqStopsK Fence.wide 2 Tryz.prog g lb encI1 KeepsWalks S (fun _ => True) N W) :
 Calls Tryz.prog 47 #[.func (.func g) #[] lb] w fun e w' => ∃ v xs, e = .returned v ∧ S xs ∧ ownI w' w.heap.size v xs ∧ Below w.heap.size w w' := by
 have HA := Lib.hid (appendSeqK g lb eg S N hN w hseq)
 clear hseq eg
 go_enter Tryz.func47, Tryz.ntmps47
 go_wp2_with (go_at_call 92; refine HA.out.mono ?_; rintro e w1 ⟨v, xs, rfl, hS, hown, hb⟩)
 go_ret
 exact ⟨v, xs, rfl, hS, hown, hb⟩
def KyOf (G : Int → Option Value) (xs : List Int) : Prop := xs.Nodup ∧ ∀ k, k ∈ xs ↔ (G k).isSome = true
theorem keys_of {w : World} {mb n Bs : Nat} {G : Int → Option Value} (h : MapV w mb n G) (hBs : Bs < w.heap.size) (hm : w.cell? ⟨Bs, 0, none⟩ = some (.map (some mb))) {N : Nat} (hN : ∀ L : List Int, L.Nodup → (∀ k ∈ L, (G k).isSome = true) → L.length ≤ N) :
 ∃ D : DataW Value, Maps.size D ≤ N ∧ (∀ xs, xs.Perm (intKeys D) → KyOf G xs) ∧ ∀ W, Below w.heap.size w W → SeqStopsK Fence.wide 2 Tryz.prog 60 #[.pointer (some ⟨Bs, 0, none⟩)] encI1 KeepsWalks (fun xs => xs.Perm (intKeys D)) (fun _ => True) (Maps.size D) W := by
 obtain ⟨D, h1, h2, h3, h4, -, h5⟩ := h.keys
 refine ⟨D, by rw [h5]; exact hN _ h3 (fun k hk => (h4 k).1 hk), fun xs hp => ⟨hp.nodup_iff.2 h3, fun k => by rw [hp.mem_iff]; exact h4 k⟩, fun W hb => ?_⟩
 refine keys_stops 2 (by omega) Bs mb n D W (Nat.lt_of_lt_of_le hBs hb.size) ((bcell hb hBs _).trans hm) ?_
 have hbl := h1.lt
 obtain ⟨es, clock, hh, Ft, hs, hD⟩ := h1
 exact ⟨es, clock, (hb.block mb hbl).trans hh, Ft, hs, hD⟩
theorem collectKeys_any {w : World} {mb n Bs : Nat} {G : Int → Option Value} (h : MapV w mb n G) (hBs : Bs < w.heap.size) (hm : w.cell? ⟨Bs, 0, none⟩ = some (.map (some mb))) {N : Nat} (hN1 : N ≤ 1000000) (hN : ∀ L : List Int, L.Nodup → (∀ k ∈ L, (G k).isSome = true) → L.length ≤ N) :
 Calls Tryz.prog 47 #[.func (.func 60) #[] #[.pointer (some ⟨Bs, 0, none⟩)]] w fun e w' => ∃ v xs, e = .returned v ∧ KyOf G xs ∧ ownI w' w.heap.size v xs ∧ Below w.heap.size w w' := by
 obtain ⟨D, h1, h2, h3⟩ := keys_of h hBs hm hN
 refine (collectK _ _ (enters_of Tryz.func60 (by kernel_rfl) rfl) _ _ (by omega) w h3).mono ?_
 rintro e w' ⟨v, xs, rfl, hS, ho, hb⟩
 exact ⟨v, xs, rfl, h2 xs hS, ho, hb⟩
end Go.Proofs.YtflpikickbellaaGreat
namespace Go.Proofs.YtflpikickbellaaGreat
open Go.RowKit Go.Shelf Go.Sort
set_option maxRecDepth 100000
def LPost (w : World) (r : List Int × Int) (e : Ending) (w' : World) : Prop := ∃ a c, e = .returned (.tuple #[.slice a r.1.length c, .int .i64 r.2]) ∧ SlI w' w'.heap.size a r.1 ∧ Below w.heap.size w w'
theorem LPost.none {w w' : World} {r : List Int × Int} {x : Int} (h : r = ([], x)) (hb : Below w.heap.size w w') : LPost w r (.returned (.tuple #[.slice none 0 0, .int .i64 x])) w' := by
 subst h
 exact ⟨Option.none, 0, rfl, SlI.nil, hb⟩
theorem LPost.some_ {w w' : World} {r : List Int × Int} {l : List Int} {a : Option Addr} {c : Nat} (h : r = (l, 0)) (hs : SlI w' w'.heap.size a l) (hb : Below w.heap.size w w') : LPost w r (.returned (.tuple #[.slice a l.length c, .int .i64 0])) w' := by
 subst h
 exact ⟨a, c, rfl, hs, hb⟩
theorem ordE_e {s : Sft} (h : sftE s ≠ 0) : ordE s = ([], sftE s) := by unfold ordE; rw [if_pos h]
theorem ordE_none {s : Sft} (h : sftE s = 0) (ho : outerN s s.n (fun _ => false) [] = none) : ordE s = ([], 6) := by unfold ordE; rw [if_neg (by simpa using h), ho]
theorem ordE_some {s : Sft} {l : List Int} (h : sftE s = 0) (ho : outerN s s.n (fun _ => false) [] = some l) : ordE s = (l, 0) := by unfold ordE; rw [if_neg (by simpa using h), ho]
end Go.Proofs.YtflpikickbellaaGreat
