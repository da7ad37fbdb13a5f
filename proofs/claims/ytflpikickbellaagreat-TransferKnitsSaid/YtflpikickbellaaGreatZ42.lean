/- Layer 27, the program. -/
import Derived.Test.YtflpikickbellaaGreatZ41
namespace Go.Proofs.YtflpikickbellaaGreat
open Go.RowKit Go.Shelf Go.Sort
set_option maxRecDepth 100000
def workX (start : Int) (p : List RowC) : Pw := if chartE start p = 0 then workP start.toNat (p.map faceL) p.length else ⟨[], [], [], [], 0⟩
theorem workX_ok {start : Int} {p : List RowC} (h : chartE start p = 0) : workX start p = workP start.toNat (p.map faceL) p.length := by unfold workX; rw [if_pos h]
theorem workX_err {start : Int} {p : List RowC} (h : chartE start p ≠ 0) : workX start p = ⟨[], [], [], [], 0⟩ := by unfold workX; rw [if_neg h]
def OfX (x : Int) (t : Pw) (w : World) (e : Ending) (w' : World) : Prop := ∃ vL vB vC vR vs, e = .returned (.tuple #[.agg #[vL, vR, vB, vC, .int .i64 (t.next : Int)], .int .i64 x]) ∧ vs.length = t.lp.length ∧ Owns w' w.heap.size (pxL vL t.lp vs :: pxJ vB t.bound :: pxP vC t.cross :: pxJ vR t.rows :: parO t.lp vs) ∧ Below w.heap.size w w'
theorem pof_x (start : Int) (A : Option Addr) (c : Nat) (p : List RowC) (hnb : ∀ r ∈ p, r.1 = false) (hkb : ∀ r ∈ p, ∀ s ∈ r.2, kindB s = false) (hw : RowsWf p) (h12 : chartE start p = 0 → p.length ≤ 12) (w : World) (hs : SlC w w.heap.size A p) :
 Calls Tryz.prog 43 #[.agg #[.int .i64 start, .slice A p.length c]] w fun e w' => OfX (chartE start p) (workX start p) w e w' := by
 by_cases he : chartE start p = 0
 · have h := pof_ok start A c p hnb hkb hw he (h12 he) w hs
   refine h.mono ?_
   rintro e w' h
   rw [workX_ok he, he]
   exact h
 · refine (pof_err start A c p hw he w hs).mono ?_
   rintro e w' ⟨rfl, hb⟩
   rw [workX_err he]
   exact ⟨nilV, nilV, nilV, nilV, [], rfl, rfl, (((Owns.nil.none 3 1).none 48 2).none 3 1).none 68 4, hb⟩
theorem Owns.more {w : World} {B B' : Nat} {L : List Own} (h : Owns w B' L) (hB : B ≤ B') : Owns w B L := ⟨fun o ho => own_more (h.all o ho) hB, h.apart⟩
structure OfF (start : Int) (A : Option Addr) (c : Nat) (p : List RowC) (cb : Nat) (w W : World) : Prop where
 cb0 : W.cell? ⟨cb, 0, none⟩ = some (.int .i64 start)
 cb1 : W.cell? ⟨cb, 1, none⟩ = some (.slice A p.length c)
 call : Calls Tryz.prog 43 #[.agg #[.int .i64 start, .slice A p.length c]] W fun e w' => OfX (chartE start p) (workX start p) W e w'
 bel : Below w.heap.size w W
theorem of_front (start : Int) (A : Option Addr) (c : Nat) (p : List RowC) (hnb : ∀ r ∈ p, r.1 = false) (hkb : ∀ r ∈ p, ∀ s ∈ r.2, kindB s = false) (hw : RowsWf p) (h12 : chartE start p = 0 → p.length ≤ 12) (w : World) (hs : SlC w w.heap.size A p) : OfF start A c p w.heap.size w (w.alloc (.cells #[.int .i64 start, .slice A p.length c] 61)) := by
 have hb := al_t w (.cells #[.int .i64 start, .slice A p.length c] 61)
 obtain ⟨g1, -⟩ := bxT_at (bxT_new w 61 [.int .i64 start, .slice A p.length c])
 exact ⟨g1 0 _ rfl, g1 1 _ rfl, pof_x start A c p hnb hkb hw h12 _ ((hs.below hb).more hb.size), hb⟩
structure OfB (t : Pw) (qb : Nat) (vL vB vC vR : Value) (vs : List Value) (w W : World) : Prop where
 vl : vs.length = t.lp.length
 own : Owns W w.heap.size (pxL vL t.lp vs :: pxJ vB t.bound :: pxP vC t.cross :: pxJ vR t.rows :: parO t.lp vs)
 cells : W.cell? ⟨qb, 0, none⟩ = some vL ∧ W.cell? ⟨qb, 1, none⟩ = some vR ∧ W.cell? ⟨qb, 2, none⟩ = some vB ∧ W.cell? ⟨qb, 3, none⟩ = some vC
 bel : Below w.heap.size w W
theorem OfF.behind {start : Int} {A : Option Addr} {c cb : Nat} {p : List RowC} {w W W' : World} {t : Pw} {vL vB vC vR : Value} {vs : List Value} (h : OfF start A c p cb w W) (hv : vs.length = t.lp.length) (ho : Owns W' W.heap.size (pxL vL t.lp vs :: pxJ vB t.bound :: pxP vC t.cross :: pxJ vR t.rows :: parO t.lp vs)) (hb : Below W.heap.size W W') :
 OfB t W'.heap.size vL vB vC vR vs w (W'.alloc (.cells #[vL, vR, vB, vC, .int .i64 (t.next : Int)] 101)) := by
 have hal := al_t W' (.cells #[vL, vR, vB, vC, .int .i64 (t.next : Int)] 101)
 obtain ⟨g1, -⟩ := bxT_at (bxT_new W' 101 [vL, vR, vB, vC, .int .i64 (t.next : Int)])
 exact ⟨hv, (ho.to hal).more h.bel.size, ⟨g1 0 _ rfl, g1 1 _ rfl, g1 2 _ rfl, g1 3 _ rfl⟩, h.bel.trans ((hb.trans (hal.mono hb.size)).mono h.bel.size)⟩
def LoPost (x : Int) (L : List Lp) (w : World) (e : Ending) (w' : World) : Prop := ∃ vL vs, e = .returned (.tuple #[vL, .int .i64 x]) ∧ vs.length = L.length ∧ Owns w' w.heap.size (pxL vL L vs :: parO L vs) ∧ Below w.heap.size w w'
set_option maxHeartbeats 2000000 in
theorem Of_any (start : Int) (A : Option Addr) (c : Nat) (p : List RowC) (hnb : ∀ r ∈ p, r.1 = false) (hkb : ∀ r ∈ p, ∀ s ∈ r.2, kindB s = false) (hw : RowsWf p) (h12 : chartE start p = 0 → p.length ≤ 12) (w : World) (hs : SlC w w.heap.size A p) :
 Calls Tryz.prog 18 #[.agg #[.int .i64 start, .slice A p.length c]] w fun e w' => LoPost (chartE start p) (workX start p).lp w e w' := by
 have hF := of_front start A c p hnb hkb hw h12 w hs
 obtain ⟨t, ht⟩ : ∃ t, t = workX start p := ⟨_, rfl⟩
 obtain ⟨x, hx⟩ : ∃ x, x = chartE start p := ⟨_, rfl⟩
 have c0 := hF.cb0
 have c1 := hF.cb1
 have HC := Lib.hid hF.call
 rw [← ht, ← hx] at HC
 rw [← ht, ← hx]
 have HF := Lib.hid hF
 clear hF hs hw ht hx
 go_enter Tryz.func18, Tryz.ntmps18
 go_upto_region 2 with (go_at_call 43; refine HC.out.mono ?_; rintro e w2 ⟨vL, vB, vC, vR, vs, rfl, hv, ho, hb⟩; obtain ⟨va, wa, rfl⟩ := pxL_form ho; obtain ⟨vb, wb, rfl⟩ := pxJ_form ho.tail; obtain ⟨vc, wc, rfl⟩ := pxP_form ho.tail.tail; obtain ⟨vd, wd, rfl⟩ := pxJ_form ho.tail.tail.tail; have HB := Lib.hid (HF.out.behind hv ho hb); clear hv ho hb)
 obtain ⟨d0, d1, d2, d3⟩ := HB.out.cells
 go_wp2
 go_ret2
 exact ⟨_, vs, rfl, HB.out.vl, HB.out.own.sub (List.Sublist.cons_cons _ ((List.sublist_cons_self _ _).trans ((List.sublist_cons_self _ _).trans (List.sublist_cons_self _ _)))), HB.out.bel⟩
theorem flat_inv {L : List (List Value)} (hL : ∀ cs ∈ L, cs.length = 7) {j : Nat} {u : Value} (h : L.flatten[j]? = some u) : ∃ cs, L[j / 7]? = some cs ∧ cs[j % 7]? = some u := by
 have hj := (List.getElem?_eq_some_iff.1 h).1
 rw [flat_len hL] at hj
 have hq : j / 7 < L.length := by omega
 have h1 : L[j / 7]? = some L[j / 7] := List.getElem?_eq_getElem hq
 have hc := hL _ (List.getElem_mem hq)
 have hm : j % 7 < L[j / 7].length := by rw [hc]; omega
 refine ⟨_, h1, ?_⟩
 have h2 := flat_at hL h1 (List.getElem?_eq_getElem hm)
 rw [show j / 7 * 7 + j % 7 = j by omega, h] at h2
 rw [List.getElem?_eq_getElem hm]
 exact h2.symm
theorem pxO_apps {w : World} {B c : Nat} {a : Option Addr} {l : List Ins} {L : List Own} (h : Owns w B (pxO (.slice a l.length c) l :: L)) (hB : B ≤ w.heap.size) (hl : l.length ≤ 10000) (A2 : Option Addr) (c2 : Nat) (l2 : List Ins) (hl2 : l2.length ≤ 10000) (h2 : SlX w w.heap.size A2 l2) :
 ∃ A' c' w', (Builtin.append_ #[29, 29] 29 #[.slice a l.length c, .slice A2 l2.length c2]).run Tryz.prog w = .ok (.slice A' (l.length + l2.length) c') w' ∧ Owns w' B (pxO (.slice A' (l.length + l2.length) c') (l ++ l2) :: L) ∧ Below B w w' := by
 obtain ⟨ii, hii, hii0, hii1, hii2⟩ := info_parts info_insT
 have h0 : w.ownsRow B 63 7 (.slice a l.length c) l.length (l.map Ins.cells).flatten := h.head
 have hlen : (l2.map Ins.cells).flatten.length = l2.length * 7 := by rw [flat_len (cells_seven l2), List.length_map]
 obtain ⟨A', c', w', hr, ho, hg, hn⟩ := run_app_any Tryz.underlying29 hii hii0 hii1 hii2 rfl (by decide) h0 A2 l2.length c2 (l2.map Ins.cells).flatten hlen (fun e => by
  cases l2 with
  | nil => rfl
  | cons x t =>
    obtain ⟨b, off, e2, -⟩ := h2 (by simp)
    rw [e] at e2
    cases e2) (fun ad e j u hu => by
  obtain ⟨cs, h3, h4⟩ := flat_inv (cells_seven l2) hu
  have hq := (List.getElem?_eq_some_iff.1 h3).1
  obtain ⟨b, off, cs', e2, -, h5, h6⟩ := SlS.at_ h2 hq
  rw [h3] at h5
  cases h5
  rw [e] at e2
  cases e2
  rw [addr_plus]
  have h7 := h6 (j % 7) u h4
  rw [show off + j / 7 * 7 + j % 7 = off + j by omega] at h7
  exact h7) (fun u hu => by
  obtain ⟨j, hj⟩ := List.mem_iff_getElem?.1 hu
  obtain ⟨cs, h3, h4⟩ := flat_inv (cells_seven l2) hj
  rw [List.getElem?_map] at h3
  cases hx : l2[j / 7]? with
  | none => rw [hx] at h3; cases h3
  | some x =>
    rw [hx] at h3
    simp only [Option.map_some, Option.some.injEq] at h3
    subst h3
    have hj7 := (List.getElem?_eq_some_iff.1 h4).1
    have hj7 : j % 7 < 7 := Nat.mod_lt _ (by omega)
    rcases (by omega : j % 7 = 0 ∨ j % 7 = 1 ∨ j % 7 = 2 ∨ j % 7 = 3 ∨ j % 7 = 4 ∨ j % 7 = 5 ∨ j % 7 = 6) with e | e | e | e | e | e | e <;> (rw [e] at h4; cases h4; rfl)) (by unfold maxLen; omega) (by omega) hB
 refine ⟨A', c', w', hr, ?_, Below.of_grown hg hB (fun k e => (World.ownsRow.lt h0 k e).1)⟩
 refine h.turn (o' := pxO (.slice A' (l.length + l2.length) c') (l ++ l2)) hg ?_ hn
 unfold pxO Own.lies
 rw [List.length_append, List.map_append, List.flatten_append]
 exact ho
theorem pxO_empty (W : World) : Owns (W.alloc (.cells #[] 63)) W.heap.size [pxO (.slice (some ⟨W.heap.size, 0, none⟩) 0 0) []] := by
 refine ⟨fun o ho => ?_, List.pairwise_singleton _ _⟩
 rw [List.mem_singleton.1 ho]
 have e : (W.alloc (.cells #[] 63)).heap[W.heap.size]? = some (.cells #[] 63 (0, 0)) := Array.getElem?_push_size
 exact own_of_whole (B := W.heap.size) (n := 0) (c := 0) (sz := 7) e (Nat.le_refl _) (Nat.le_refl _) (by unfold maxLen; omega) rfl
theorem workX_one {l : List Stc} {s : Sft} {n nd : Nat} {P : List (List Int)} (h : TkS l s n nd P) : (workX (n : Int) [(false, l)]).lp.map Lp.par = P ∧ (workX (n : Int) [(false, l)]).lp.length = n + nd := by
 have e : workX (n : Int) [(false, l)] = endR (rowRun 1 l (startP n) l.length) := by
  rw [workX_ok (tk_chart h), Int.toNat_natCast]
  rfl
 have e2 : (workX (n : Int) [(false, l)]).lp.map Lp.par = P := by rw [e, h.lp]; rfl
 refine ⟨e2, ?_⟩
 have := h.len
 rw [← e2, List.length_map] at this
 exact this
end Go.Proofs.YtflpikickbellaaGreat
namespace Go.Proofs.YtflpikickbellaaGreat
open Go.RowKit Go.Shelf
set_option maxRecDepth 100000
def greatS (n : Nat) : Bool := decide (60 < n ∧ n ≤ 200) || decide (300 < n)
set_option maxHeartbeats 1000000 in
theorem rgreatS_any (A : Option Addr) (n c : Nat) (w : World) : Calls Tryz.prog 16 #[.slice A n c] w fun e w' => e = .returned (.bool (greatS n)) ∧ Below w.heap.size w w' := by
 have hbl := Lib.hid (Below.refl w.heap.size w)
 by_cases h1 : 300 < n
 · have HE : Hid (greatS n = true) := by unfold Hid greatS; simp [h1]
   clear hbl
   go_enter Tryz.func16, Tryz.ntmps16
   go_wp2
   all_goals go_ret
   all_goals exact ⟨ret_bool (by rw [HE.out]; try simp [*]; try omega), Below.refl _ _⟩
 · by_cases h2 : 60 < n ∧ n ≤ 200
   · have HE : Hid (greatS n = true) := by unfold Hid greatS; simp [h2]
     obtain ⟨h3, h4⟩ := h2
     go_enter Tryz.func16, Tryz.ntmps16
     go_wp2
     all_goals go_ret
     all_goals exact ⟨ret_bool (by rw [HE.out]; try simp [*]; try omega), Below.refl _ _⟩
   · have HE : Hid (greatS n = false) := by unfold Hid greatS; simp [h2]; omega
     go_enter Tryz.func16, Tryz.ntmps16
     go_wp2
     all_goals go_ret
     all_goals exact ⟨ret_bool (by rw [HE.out]; try simp [*]; try omega), Below.refl _ _⟩
end Go.Proofs.YtflpikickbellaaGreat
