/- PassesKnits: On, at a state that runs hand back. Layer 31: the set of hooks in a map. Layer 31: needles, use, yarn, column, racked. -/
import Derived.Test.YtbnddpknejgmhaaGreatKP43
import Derived.Test.YtbnddpknejgmhaaGreatKP12
import Derived.Test.YtbnddpknejgmhaaGreatKP32
import Derived.Test.YtbnddpknejgmhaaGreatKP44
import Derived.Test.YtbnddpknejgmhaaGreatKP2
import Derived.Test.YtbnddpknejgmhaaGreatKP1
import Derived.Maps.OwnSet
import Derived.Maps.OwnIn
import Derived.DeepKeys4
import Derived.Deep.RegionWith
namespace Go.Proofs.YtbnddpknejgmhaaGreat
open Go.RowKit Go.Shelf Go.Sort
set_option maxRecDepth 100000

set_option maxHeartbeats 4000000 in
theorem on_row (s : BedS) (p : BedP) (hg : Good s) (hn : s.hooks.length ≤ 9000 ∧ s.feeds.length ≤ 9000 ∧ s.made.length ≤ 9000) (b n : Int) (hb : 0 ≤ b) (hbn : b ≤ 1 ∧ needleP n) (w : World) (hs : BedAt w w.heap.size p s) :
    Calls Tryz.prog 14 #[s.val p, .int .u8 b, .int .i64 n] w fun e w' => ∃ v, e = .returned (.tuple #[v, .int .i64 0]) ∧ (pxJ v (heldAt s.hooks b n)).lies w' w.heap.size ∧ Below w.heap.size w w' := by
  have hwf := hg.wf
  have he := hg.err
  have HC := Lib.hid (fun (w1 : World) (hb : Below w.heap.size w w1) => bcheck_any s p hwf ⟨by omega, by omega, by omega⟩ w1 ((hs.below hb).more hb.size))
  have HAl := Lib.hid ((Below.refl w.heap.size w).alloc (Nat.le_refl _) (.cells #[.int .i64 s.rack, .slice p.ah s.hooks.length p.ch, .slice p.af s.feeds.length p.cf, .slice p.am s.made.length p.cm] 39))
  have HCS := Lib.hid (bed_box w s p)
  have HN := Lib.hid (fun w => needle_any n w)
  unfold RetB8 at HC
  rw [he] at HC
  have HCo := Lib.hid (fun (w1 : World) (hb : Below w.heap.size w w1) => copied_any s p hn ⟨fun h hh => (bed_loops he h hh).2, bed_parents he⟩ w1 ((hs.below hb).more hb.size))
  have HTk := Lib.hid (fun (B pb : Nat) (w1 : World) (hBw : B ≤ w1.heap.size) (h : WorkX 84 w1 B pb s []) => take_any B pb s [] (bed_seek he hwf hn.1) b n ⟨hb, hbn.1⟩ hbn.2 w1 hBw h)
  rw [decide_eq_true hbn.2] at HN
  unfold BedS.val at HC HCo ⊢
  have hb1 : ¬ 1 < b := by omega
  clear hs he hbn hwf hg
  go_enter Tryz.func14, Tryz.ntmps14
  go_upto_region 1 with fail
  obtain ⟨c0, c1, c2, c3⟩ := HCS.out _ (Below.refl _ _)
  go_wp2_with fail
  refine (HC.out _ HAl.out).mono ?_
  rintro e w1 ⟨rfl, hb1⟩
  have HB1 := Lib.hid (HAl.out.trans (hb1.mono (by simp)))
  obtain ⟨d0, d1, d2, d3⟩ := HCS.out w1 (hb1.mono (by simp))
  clear hb1 c0 c1 c2 c3
  go_wp2_with (go_at_call 39; refine (HN.out _).mono ?_; rintro e w2 ⟨rfl, rfl⟩)
  refine (HCo.out _ HB1.out).mono ?_
  rintro e w2 ⟨pb, rfl, hw2, hb2⟩
  have HW2 := Lib.hid hw2
  have HB2 := Lib.hid hb2
  clear hw2 hb2 d0 d1 d2 d3
  go_wp2_with fail
  refine (HTk.out _ _ _ HB2.out.size HW2.out).mono ?_
  rintro e w3 ⟨v, rfl, hw3, hb3⟩
  have HS3 := Lib.hid (hw3.row List.mem_cons_self)
  obtain ⟨A, c, rfl, -, -⟩ := rowI_form (hw3.row List.mem_cons_self)
  have HB3 := Lib.hid (HB1.out.trans ((HB2.out.trans hb3).mono HB1.out.size))
  have HX := Lib.hid (And.intro HB1.out.size HB2.out.size)
  clear hw3 hb3
  go_wp2
  go_ret2
  refine ⟨_, rfl, ?_, HB3.out⟩
  exact World.ownsRow.mono HS3.out HB1.out.size
/-- Where the rows of the chart's loops begin. -/
theorem work_rows (n : Nat) (A : Option Addr) (c : Nat) (p : List RowC) (he : chartE (n : Int) p = 0) (hp : plainB (n : Int) p = true) (h12 : p.length ≤ 12) (w : World) (hs : SlC w w.heap.size A p) :
    Calls Tryz.prog 12 #[.agg #[.int .i64 (n : Int), .slice A p.length c]] w fun e w' => ∃ a la ca b lb cb x lx cx ra rc, e = .returned (.agg #[.slice a la ca, .slice b lb cb, .slice x lx cx, .slice ra (p.length + 2) rc]) ∧ (pxJ (.slice ra (p.length + 2) rc) (rowsK n p.length)).lies w' w.heap.size ∧ Below w.heap.size w w' := by
  have hwk := wk_chart he h12
  have hz := chart_zero he
  have hea := err_at hz.2.2
  obtain ⟨-, hlp⟩ := of_loops he hp h12
  rw [workX_ok he] at hlp
  rw [Int.toNat_natCast] at hwk hlp
  refine (rwork_any n A c p (p.map faceL) (List.length_map _) hwk w hs fun k r f hr hf W A' c' hsl => ?_).mono ?_
  · rw [face_at hr] at hf
    cases hf
    have h := hea.1 k r hr
    exact rseen_own r A' c' h.2.1 (by omega) W hsl
  · rintro e w' ⟨vL, vB, vC, vR, vs, rfl, hv, ho, hb⟩
    obtain ⟨a, ca, rfl⟩ := pxL_form ho
    obtain ⟨b, cb, rfl⟩ := pxJ_form ho.tail
    obtain ⟨x, cx, rfl⟩ := pxP_form ho.tail.tail
    obtain ⟨ra, rc, rfl⟩ := pxJ_form ho.tail.tail.tail
    have hr : (workP n (p.map faceL) p.length).rows = rowsK n p.length := hlp.rows
    have hx := ho.tail.tail.tail.head
    rw [hr] at hx ⊢
    rw [rowsK_len] at hx ⊢
    exact ⟨_, _, _, _, _, _, _, _, _, ra, rc, rfl, hx, hb⟩
theorem seen_row {start : Int} {p : List RowC} (he : chartE start p = 0) {k : Nat} {r : RowC} (hr : p[k]? = some r) (A : Option Addr) (c : Nat) (W : World) (hs : SlT W W.heap.size A r.2) :
    Calls Tryz.prog 13 #[.agg #[.bool r.1, .slice A r.2.length c]] W fun e w' => SnPost (faceL r) W e w' := by
  have h := (err_at (chart_zero he).2.2).1 k r hr
  exact rseen_own r A c h.2.1 (by omega) W hs
theorem pxJ_some {w : World} {B : Nat} {a : Option Addr} {n c : Nat} {l : List Int} (h : (pxJ (.slice a n c) l).lies w B) (hl : l ≠ []) : ∃ g, a = some ⟨g, 0, none⟩ := by
  have h0 : w.ownsRow B 3 1 (.slice a n c) l.length (l.map (Value.int .i64)) := h
  rcases h0.2 with ⟨-, e⟩ | ⟨g, cap, cur, hv, -⟩
  · exact absurd (List.length_eq_zero_iff.1 e) hl
  · cases hv
    exact ⟨g, rfl⟩
theorem KnF.new {w W : World} {cb : Nat} {start : Int} {A : Option Addr} {N c : Nat} {p : List RowC} {oa : Option Addr} {LP : List Lp} {t : BedS} {q : BedP} {tm : Nat} (h : KnC w cb start A N c p W) (hl : SlL W W.heap.size oa LP) (hb : BedAt W W.heap.size q t) :
    KnF w cb W.heap.size start A N c p oa LP t q tm (W.alloc (.cells #[.int .i64 t.rack, .slice q.ah t.hooks.length q.ch, .slice q.af t.feeds.length q.cf, .slice q.am tm q.cm] 39)).heap.size (W.alloc (.cells #[.int .i64 t.rack, .slice q.ah t.hooks.length q.ch, .slice q.af t.feeds.length q.cf, .slice q.am tm q.cm] 39)) := by
  have hal := al_t W (.cells #[.int .i64 t.rack, .slice q.ah t.hooks.length q.ch, .slice q.af t.feeds.length q.cf, .slice q.am tm q.cm] 39)
  have hc := lt_of_cell h.c0
  have hsz : (W.alloc (.cells #[.int .i64 t.rack, .slice q.ah t.hooks.length q.ch, .slice q.af t.feeds.length q.cf, .slice q.am tm q.cm] 39)).heap.size = W.heap.size + 1 := World.size_alloc ..
  have h2 := h.to hal
  exact ⟨h2.lo, h2.lo.size, by omega, by omega, h2.c0, h2.c1, h2.sl, (hl.below hal).more hal.size, cell_new rfl rfl rfl, cell_new rfl rfl rfl, cell_new rfl rfl rfl, cell_new rfl rfl rfl, (hb.below hal).more hal.size⟩
theorem at_world {P : Program} {ops : Array Oper} {o : Oper} {a : Act} {K : Act → World → Prop} {Q : Exit → Act → World → Prop} {E : Prop} (w : World) (h : if Region.wanted o (yielded ops a.tmps) = true then Oper.wp P o a w K Q else E) : if Region.wanted o (yielded ops a.tmps) = true then Oper.wp P o a w K Q else E := h
theorem step_append_w {P : Program} {ops : Array Oper} {o : Oper} {a : Act} {w : World} {K : Act → World → Prop} {Q : Exit → Act → World → Prop} {E : Prop}
    (hw : Region.wanted o (yielded ops a.tmps) = true) (d x : Operand) (dT sT : TypeId) (hop : o.op = Op.call { callee := Callee.builtin Builtin.append, args := #[d, x], argTypes := #[dT, sT] })
    (v u : Value) (hd : a.eval d = v) (hx : a.eval x = u) {v' : Value} {w' : World} (hr : (Builtin.append_ #[dT, sT] o.type #[v, u]).run P w = .ok v' w') (hK : K (a.put o.dst v') w') :
    if Region.wanted o (yielded ops a.tmps) = true then Oper.wp P o a w K Q else E := by
  rw [if_pos hw]
  unfold Oper.wp
  simp [execOp, hop, resolve, invoke, builtin, hd, hx, hr, Result.andThen]
  exact hK
/-- append(a, b...) of what two needles hold, if it is one loop. -/
theorem app_two {W : World} {B : Nat} {va vb : Value} {la lb : List Int} {v : Int} (ha : (pxJ va la).lies W B) (hb : (pxJ vb lb).lies W B) (hv : la ++ lb = [v]) (hB : B ≤ W.heap.size) :
    ∃ aA na ca bA nb cb, va = .slice aA na ca ∧ vb = .slice bA nb cb ∧ ∀ W', Below W.heap.size W W' → ∃ A' c' w', (Builtin.append_ #[43, 43] 43 #[.slice aA na ca, .slice bA nb cb]).run Tryz.prog W' = .ok (.slice A' 1 c') w' ∧ SlI w' w'.heap.size A' [v] ∧ Below B W' w' ∧ ∀ g z, W.heap.size ≤ g → g < W'.heap.size → w'.cell? ⟨g, z, none⟩ = W'.cell? ⟨g, z, none⟩ := by
  obtain ⟨aA, ca, rfl⟩ := pxJ_is ha rfl
  obtain ⟨bA, cb, rfl⟩ := pxJ_is hb rfl
  have hlen : la.length + lb.length = 1 := by have := congrArg List.length hv; rw [List.length_append] at this; exact this
  refine ⟨aA, la.length, ca, bA, lb.length, cb, rfl, rfl, fun W' hW => ?_⟩
  obtain ⟨ii, hii, hii0, hii1, hii2⟩ := info_parts info_int'
  have h0 : W'.ownsRow B 3 1 (.slice aA la.length ca) la.length (la.map (Value.int .i64)) := own_below (show W.ownsRow B 3 1 (.slice aA la.length ca) la.length (la.map (Value.int .i64)) from ha) hW (Nat.le_refl _)
  have h2 : SlI W' W'.heap.size bA lb := ((pxJ_lies hb).below hW).more hW.size
  obtain ⟨A', c', w', hr, ho, hg, -⟩ := run_app_any Tryz.underlying43 hii hii0 hii1 hii2 rfl (by decide) h0 bA lb.length cb (lb.map (Value.int .i64)) (by rw [List.length_map, Nat.mul_one]) (fun e => by
    cases lb with
    | nil => rfl
    | cons x t =>
      obtain ⟨b, off, e2, -⟩ := h2 (by simp)
      rw [e] at e2
      cases e2) (fun ad e j u hu => by
    rw [List.getElem?_map] at hu
    cases hz : lb[j]? with
    | none => rw [hz] at hu; cases hu
    | some z =>
      rw [hz] at hu
      cases hu
      obtain ⟨b, off, e2, -, hc⟩ := h2 (fun e3 => by rw [e3] at hz; cases hz)
      rw [e] at e2
      cases e2
      rw [addr_plus]
      exact hc j z hz) (fun u hu => by
    obtain ⟨z, -, rfl⟩ := List.mem_map.1 hu
    rfl) (by unfold maxLen; omega) (by omega) (Nat.le_trans hB hW.size)
  rw [hlen] at hr
  refine ⟨A', c', w', hr, ?_, Below.of_grown hg (Nat.le_trans hB hW.size) (fun k e => (World.ownsRow.lt h0 k e).1), fun g z h1 h3 => World.cell?_of_block (a := ⟨g, z, none⟩) (hg.block g h3 (fun e => by
    have h4 := (World.ownsRow.lt (show W.ownsRow B 3 1 (.slice aA la.length ca) la.length (la.map (Value.int .i64)) from ha) g e.symm).2
    omega))⟩
  have e : la.map (Value.int .i64) ++ lb.map (Value.int .i64) = [v].map (Value.int .i64) := by rw [← List.map_append, hv]
  rw [e, hlen] at ho
  exact pxJ_lies (B := B) (n := 1) (c := c') (l := [v]) (show w'.ownsRow B 3 1 (.slice A' 1 c') 1 ([v].map (Value.int .i64)) from ho)
/-- The list of one number against it. -/
theorem same_one {W : World} {A : Option Addr} {c : Nat} {v : Int} (h : SlI W W.heap.size A [v]) {g : Nat} (hg : W.cell? ⟨g, 0, none⟩ = some (.int .i64 v)) :
    Calls Tryz.prog 15 #[.slice A 1 c, .slice (some ⟨g, 0, none⟩) 1 1] W fun e w' => e = .returned (.bool true) ∧ Below W.heap.size W w' := by
  have h2 : SlI W W.heap.size (some ⟨g, 0, none⟩) [v] := fun _ => ⟨g, 0, rfl, lt_of_cell hg, fun j z hz => by
    have hj : j = 0 := by have := (List.getElem?_eq_some_iff.1 hz).1; simp at this; exact this
    subst hj
    obtain rfl : v = z := by simpa using hz
    exact hg⟩
  refine (sameI_any A (some ⟨g, 0, none⟩) c 1 [v] W h h2 (by simp)).mono ?_
  rintro e w' ⟨rfl, m, rfl⟩
  exact ⟨rfl, below_drewT (Below.refl _ _) m⟩
end Go.Proofs.YtbnddpknejgmhaaGreat
namespace Go.Proofs.YtbnddpknejgmhaaGreat
open Go.RowKit
open Go.Maps
set_option maxRecDepth 100000

abbrev Hook := Int × Int
abbrev hval (u : Hook) : Value := .agg #[.int .u8 u.1, .int .i64 u.2]
def okU (u : Hook) : Prop := (Lit.int .u8 u.1).wf = true ∧ (Lit.int .i64 u.2).wf = true
theorem laidOutB : Go.laidOutB Tryz.prog = true := by kernel_rfl
theorem hook_row : 170 < Tryz.prog.types.size := of_decide_eq_true (by kernel_rfl)
theorem hook_law : WideMaps.KeyLaw Tryz.prog 170 := deep_law_laid laidOutB (m := 2) (by omega) hook_row (by kernel_rfl) (by kernel_rfl)
theorem hook_keyed : Keyed Tryz.prog 170 := Keyed.of_law hook_law
theorem hook_keyType : Tryz.prog.keyType 170 = true := by kernel_rfl
theorem hook_c5 : Tryz.prog.cellsOf 5 = 1 := by kernel_rfl
theorem hook_c3 : Tryz.prog.cellsOf 3 = 1 := by kernel_rfl
theorem hook_cells : Tryz.prog.cellsOf 170 = 2 := by kernel_rfl
theorem hook_size : ∃ n, Tryz.prog.types.size + 1 = n + 2 := ⟨Tryz.prog.types.size - 1, by have := hook_row; omega⟩
theorem hook_key {u : Hook} (h : okU u) : ∃ l, keyOf Tryz.prog 170 (hval u) = some l := by
  obtain ⟨h1, h2⟩ := h
  obtain ⟨n, hn⟩ := hook_size
  unfold keyOf
  rw [Tryz.underlying170]
  simp only [hook_keyType, Bool.true_and]
  have hf : (hval u).formed Tryz.prog 170 = true := by
    simp [Value.formed, Tryz.underlying170]
    exact hook_cells.symm
  rw [if_pos hf, hn]
  simp [Program.keyLits, Tryz.underlying170, Tryz.underlying5, Tryz.underlying3, hook_c5, hook_c3, hook_cells, h1, h2, Value.cells]

noncomputable def litU (u : Hook) : Lit := (keyOf Tryz.prog 170 (hval u)).getD (.bool false)
theorem litU_key {u : Hook} (h : okU u) : keyOf Tryz.prog 170 (hval u) = some (litU u) := by
  obtain ⟨l, hl⟩ := hook_key h
  unfold litU
  rw [hl]; rfl
theorem litU_inj {u v : Hook} (hu : okU u) (hv : okU v) (h : litU u = litU v) : u = v := by
  have := hook_law.inj (litU_key hu) (h ▸ litU_key hv)
  simp only [hval, Value.agg.injEq, Array.mk.injEq, List.cons.injEq, Value.int.injEq, true_and, and_true] at this
  exact Prod.ext this.1 this.2

/-- Block mb is a map that holds true at the hooks U, and nothing else. -/
def HookSet (w : World) (mb n : Nat) (U : List Hook) : Prop :=
  ∃ D : DataW Unit, w.ownsMap Tryz.prog 170 (plainElem Tryz.prog 4) mb n D ∧ IsMap D ∧ ∀ u, okU u → D.atKey (litU u) (.lit (.bool false)) = .lit (.bool (decide (u ∈ U)))
theorem plainElem_bool_inv {v : Value} {z : DataW Unit × List MemPlace} (h : plainElem Tryz.prog 4 v = some z) : ∃ b, v = .bool b ∧ z = (.lit (.bool b), []) := by
  unfold plainElem at h
  rw [Tryz.underlying4] at h
  cases v <;> simp at h
  exact ⟨_, rfl, h.symm⟩
theorem zero_bool (w : World) : (zeroValue 4).run Tryz.prog w = .ok (.bool false) w := by
  obtain ⟨i0, hi, hz0, -, -⟩ := info_parts (P := Tryz.prog) (e := 4) (z := .bool false) (size := 1) (bytes := 1) (by kernel_rfl)
  simp [zeroValue, typeInfo, hi, hz0]
theorem HookSet.made (w : World) : HookSet (w.alloc (.map #[] 0)) w.heap.size 0 [] :=
  ⟨.map [], World.ownsMap_made _ _ _ _, isMap_empty, fun u _ => by simp [DataW.atKey]⟩
theorem HookSet.kept {w w' : World} {mb n : Nat} {U : List Hook} {row : Option Nat} (h : HookSet w mb n U) (hg : w.grownBy w' row) (hne : some mb ≠ row) : HookSet w' mb n U := by
  obtain ⟨D, h1, h2, h3⟩ := h
  exact ⟨D, h1.kept hg hne, h2, h3⟩
theorem HookSet.below {w w' : World} {mb n B : Nat} {U : List Hook} (h : HookSet w mb n U) (hb : Below B w w') (hB : mb < B) : HookSet w' mb n U := by
  obtain ⟨D, ⟨es, clock, hh, r⟩, h2, h3⟩ := h
  exact ⟨D, ⟨es, clock, (hb.block mb hB).trans hh, r⟩, h2, h3⟩
theorem HookSet.lt {w : World} {mb n : Nat} {U : List Hook} (h : HookSet w mb n U) : mb < w.heap.size := by
  obtain ⟨D, h1, h2, h3⟩ := h
  exact h1.lt
theorem HookSet.mono {w : World} {mb n n' : Nat} {U : List Hook} (h : HookSet w mb n U) (hn : n ≤ n') : HookSet w mb n' U := by
  obtain ⟨D, h1, h2, h3⟩ := h
  exact ⟨D, h1.mono hn, h2, h3⟩
theorem HookSet.look {w : World} {mb n : Nat} {U : List Hook} (h : HookSet w mb n U) {u : Hook} (hu : okU u) :
    (Instr.lookup 162 (.map (some mb)) (hval u) false).run Tryz.prog w = .ok (.bool (decide (u ∈ U))) w := by
  obtain ⟨D, h1, h2, h3⟩ := h
  obtain ⟨v, ps, hrun, hv⟩ := h1.lookup hook_keyed Tryz.underlying162 (zero_bool w) (plainElem_bool Tryz.underlying4 false) (litU_key hu)
  obtain ⟨b, rfl, hz⟩ := plainElem_bool_inv hv
  rw [h3 u hu] at hz
  simp only [Prod.mk.injEq, DataW.lit.injEq, Lit.bool.injEq] at hz
  rw [hrun, hz.1]
theorem HookSet.put {w : World} {mb n : Nat} {U : List Hook} (h : HookSet w mb n U) {u : Hook} (hu : okU u) (hn : n < maxLen) :
    ∃ w', (Instr.mapUpdate 162 (.map (some mb)) (hval u) (.bool true)).run Tryz.prog w = .ok () w' ∧ HookSet w' mb (n + 1) (u :: U) ∧ w.mapTurned w' mb := by
  obtain ⟨D, h1, h2, h3⟩ := h
  obtain ⟨w', hrun, hown, ht⟩ := h1.store hook_keyed Tryz.underlying162 hn (litU_key hu) (plainElem_bool Tryz.underlying4 true)
  refine ⟨w', hrun, ⟨_, hown, h2.put _ _, fun u' hu' => ?_⟩, ht⟩
  by_cases e : u' = u
  · subst e
    rw [atKey_put_same h2 (hook_keyed.key (litU_key hu))]
    simp
  · rw [atKey_put_other (fun h => e (litU_inj hu' hu h)), h3 u' hu']
    simp [e]
theorem wpList_put_hook (w : World) {ops : Array Oper} {rest : List Oper} {o : Oper} {a : Act} {Q : Exit → Act → World → Prop}
    (hg : o.guard = none) (m x v : Operand) (hop : o.op = Op.mapUpdate 162 m x v) (mb n : Nat) (U : List Hook) (hm : a.eval m = .map (some mb)) (hset : HookSet w mb n U) (hn : n < maxLen)
    (u : Hook) (hu : okU u) (hx : a.eval x = hval u) (hv : a.eval v = .bool true)
    (hK : ∀ w', HookSet w' mb (n + 1) (u :: U) → w.grownBy w' (some mb) → wpList Tryz.prog ops Q rest (a.put o.dst undef) w') :
    wpList Tryz.prog ops Q (o :: rest) a w := by
  refine wpList_plain hg fun K' hK' => ?_
  obtain ⟨w', hrun, r1, r2⟩ := hset.put hu hn
  unfold Oper.wp
  simp [execOp, hop, hm, hx, hv, hrun, Result.andThen]
  exact hK' _ _ (hK w' r1 r2.grown)
end Go.Proofs.YtbnddpknejgmhaaGreat
namespace Go.Proofs.YtbnddpknejgmhaaGreat
open Go.RowKit
set_option maxRecDepth 100000

def hooks (i : Ins) : List Hook := if i.op = 7 then [(i.bed, i.at_), (1 - i.bed, i.to_)] else if i.op = 9 then [(i.bed, i.at_)] else []
/-- What the code needs of an instruction's numbers. -/
def Ins.fit (i : Ins) : Prop := 0 ≤ i.op ∧ i.op ≤ 255 ∧ 0 ≤ i.bed ∧ i.bed ≤ 1 ∧ needleP i.at_ ∧ needleP i.to_ ∧ carP' i.car ∧ -8 ≤ i.rack ∧ i.rack ≤ 8
where carP' (c : Int) : Prop := 0 ≤ c ∧ c ≤ 6
def hcells (u : Hook) : List Value := [.int .u8 u.1, .int .i64 u.2]
def SlH (w : World) (B : Nat) (A : Option Addr) (l : List Hook) : Prop := SlS 2 w B A (l.map hcells)

theorem SlH.at_ {w : World} {B : Nat} {A : Option Addr} {l : List Hook} (h : SlH w B A l) {k : Nat} (hk : k < l.length) :
    ∃ b off u, A = some ⟨b, off, none⟩ ∧ b < B ∧ l[k]? = some u ∧ w.cell? ⟨b, off + k * 2, none⟩ = some (.int .u8 u.1) ∧ w.cell? ⟨b, off + k * 2 + 1, none⟩ = some (.int .i64 u.2) := by
  obtain ⟨b, off, cs, e, hB, hz, hc⟩ := SlS.at_ h (k := k) (by simpa using hk)
  rw [List.getElem?_map] at hz
  cases hl : l[k]? with
  | none => rw [hl] at hz; cases hz
  | some i =>
    rw [hl] at hz
    simp only [Option.map_some, Option.some.injEq] at hz
    subst hz
    exact ⟨b, off, i, e, hB, rfl, hc 0 _ rfl, hc 1 _ rfl⟩

theorem hooks_len (i : Ins) : (hooks i).length ≤ 2 := by
  unfold hooks
  split
  · simp
  · split <;> simp
theorem hooks_ok {i : Ins} (h : i.fit) : ∀ u ∈ hooks i, okU u := by
  obtain ⟨_, _, h1, h2, ⟨h3, h4⟩, ⟨h5, h6⟩, _⟩ := h
  intro u hu
  unfold hooks at hu
  split at hu
  · simp only [List.mem_cons, List.not_mem_nil, or_false] at hu
    rcases hu with rfl | rfl
    · exact ⟨by simp [Lit.wf, IntKind.min, IntKind.max, IntKind.signed, IntKind.bits]; omega, by simp [Lit.wf, IntKind.min, IntKind.max, IntKind.signed, IntKind.bits]; omega⟩
    · exact ⟨by simp [Lit.wf, IntKind.min, IntKind.max, IntKind.signed, IntKind.bits]; omega, by simp [Lit.wf, IntKind.min, IntKind.max, IntKind.signed, IntKind.bits]; omega⟩
  · split at hu
    · simp only [List.mem_cons, List.not_mem_nil, or_false] at hu
      subst hu
      exact ⟨by simp [Lit.wf, IntKind.min, IntKind.max, IntKind.signed, IntKind.bits]; omega, by simp [Lit.wf, IntKind.min, IntKind.max, IntKind.signed, IntKind.bits]; omega⟩
    · cases hu

theorem yarnP_any (op : Int) (w : World) : Calls Tryz.prog 100 #[.int .u8 op] w fun e w' => e = .returned (.bool (decide (3 ≤ op ∧ op ≤ 6))) ∧ w = w' := by
  go_enter Tryz.func100, Tryz.ntmps100
  go_wp2
  all_goals go_ret
  all_goals refine ⟨ret_bool ?_, rfl⟩
  all_goals (rw [Bool.eq_iff_iff]; first | (simp; done) | (simp; omega))

theorem SlS.new {sz : Nat} {zs : List (List Value)} {b : Nat} (w : World) (cs : Array Value) (t : TypeId) (hb : b = w.heap.size) (h : ∀ j c, zs[j]? = some c → ∀ i v, c[i]? = some v → cs[j * sz + i]? = some v) :
    SlS sz (w.alloc (.cells cs t)) (b + 1) (some ⟨b, 0, none⟩) zs := fun _ => by
  subst hb
  refine ⟨_, _, rfl, by omega, fun j c hz i v hv => ?_⟩
  have := h j c hz i v hv
  have e : (w.alloc (.cells cs t)).heap[w.heap.size]? = some (.cells cs t) := Array.getElem?_push_size
  simp only [World.cell?, e, Nat.zero_add]
  exact this

set_option maxHeartbeats 1000000 in
theorem needles_any (i : Ins) (hi : i.fit) (w : World) : Calls Tryz.prog 103 #[i.val] w fun e w' =>
    ∃ A c, e = .returned (.slice A (hooks i).length c) ∧ SlH w' w'.heap.size A (hooks i) ∧ Below w.heap.size w w' := by
  obtain ⟨_, _, h1, h2, _⟩ := hi
  have hb2 : IntKind.u8.wrap (1 - i.bed) = 1 - i.bed := by simp [IntKind.wrap, IntKind.signed, IntKind.bits]; omega
  by_cases h7 : i.op = 7
  · have HK : Hid (hooks i = [(i.bed, i.at_), (1 - i.bed, i.to_)]) := by unfold Hid hooks; rw [if_pos h7]
    go_enter Tryz.func103, Tryz.ntmps103
    go_wp2
    go_ret
    refine ⟨some ⟨w.heap.size + 1, 0, none⟩, 2, by rw [HK.out]; rfl, ?_, ((Below.refl _ _).alloc (Nat.le_refl _) _).alloc (by simp) _⟩
    rw [HK.out]
    refine SlS.more (SlS.new (b := w.heap.size + 1) (w.alloc _) _ _ (by simp) fun j c hz k v hv => ?_) (by simp)
    match j, hz with
    | 0, hz => simp [hcells] at hz; subst hz; match k, hv with
      | 0, hv => exact hv
      | 1, hv => exact hv
    | 1, hz => simp [hcells] at hz; subst hz; match k, hv with
      | 0, hv => exact hv
      | 1, hv => exact hv
  · have f7 : (i.op == 7) = false := beq_eq_false_iff_ne.2 h7
    by_cases h9 : i.op = 9
    · have HK : Hid (hooks i = [(i.bed, i.at_)]) := by unfold Hid hooks; rw [if_neg h7, if_pos h9]
      go_enter Tryz.func103, Tryz.ntmps103
      go_wp2
      go_ret
      refine ⟨some ⟨w.heap.size + 1, 0, none⟩, 1, by rw [HK.out]; rfl, ?_, ((Below.refl _ _).alloc (Nat.le_refl _) _).alloc (by simp) _⟩
      rw [HK.out]
      refine SlS.more (SlS.new (b := w.heap.size + 1) (w.alloc _) _ _ (by simp) fun j c hz k v hv => ?_) (by simp)
      match j, hz with
      | 0, hz => simp [hcells] at hz; subst hz; match k, hv with
        | 0, hv => exact hv
        | 1, hv => exact hv
    · have f9 : (i.op == 9) = false := beq_eq_false_iff_ne.2 h9
      have HK : Hid (hooks i = []) := by unfold Hid hooks; rw [if_neg h7, if_neg h9]
      clear h7 h9
      go_enter Tryz.func103, Tryz.ntmps103
      go_wp2
      go_ret
      exact ⟨none, 0, by rw [HK.out]; rfl, by rw [HK.out]; exact SlS.nil, (Below.refl _ _).alloc (Nat.le_refl _) _⟩

theorem cell_lt {w : World} {b o : Nat} {v : Value} (h : w.cell? ⟨b, o, none⟩ = some v) : b < w.heap.size := by
  unfold World.cell? at h
  cases ho : w.heap[b]? with
  | none => simp [ho] at h
  | some o => exact (Array.getElem?_eq_some_iff.1 ho).1
theorem grown_cell {w w' : World} {mb : Nat} (h : w.grownBy w' (some mb)) {b o : Nat} {v : Value} (hne : b ≠ mb) (hc : w.cell? ⟨b, o, none⟩ = some v) : w'.cell? ⟨b, o, none⟩ = some v := by
  have := h.block b (cell_lt hc) (by simpa using hne)
  simp only [World.cell?] at hc ⊢
  rw [this]; exact hc
theorem grown_refl (w : World) (r : Option Nat) : w.grownBy w r := ⟨rfl, rfl, rfl, Nat.le_refl _, fun _ _ _ => rfl⟩
theorem grown_drew (w : World) (r : Option Nat) : w.grownBy w.drew r := ⟨rfl, rfl, rfl, Nat.le_refl _, fun _ _ _ => rfl⟩
theorem HookSet.ne {w : World} {mb n : Nat} {U : List Hook} (h : HookSet w mb n U) {b o : Nat} {v : Value} (hc : w.cell? ⟨b, o, none⟩ = some v) : b ≠ mb := by
  rintro rfl
  obtain ⟨D, ⟨es, clock, hh, r⟩, _⟩ := h
  simp [World.cell?, hh] at hc

set_option maxHeartbeats 2000000 in
theorem use_any (i : Ins) (hi : i.fit) (pb mb n : Nat) (U : List Hook) (w : World) (hp : w.cell? ⟨pb, 15, none⟩ = some (.map (some mb))) (hset : HookSet w mb n U) (hn : n + 2 < maxLen) :
    Calls Tryz.prog 99 #[.pointer (some ⟨pb, 0, none⟩), i.val] w fun e w' => e = .returned (.tuple #[]) ∧ HookSet w' mb (n + (hooks i).length) ((hooks i).reverse ++ U) ∧ w.grownBy w' (some mb) := by
  have hne := hset.ne hp
  have hcall := Lib.hid (needles_any i hi)
  have hok := Lib.hid (hooks_ok hi)
  clear hi
  go_enter Tryz.func99, Tryz.ntmps99
  go_wp2_with (go_at_call 103; refine (hcall.out _).mono ?_; rintro e w1 ⟨A, c, rfl, hs, hb1⟩)
  have hs1 : HookSet w1 mb n U := (hset.below ((Below.refl _ w).alloc (Nat.le_refl _) _) hset.lt).below hb1 (by have := hset.lt; simp; omega)
  have hp1 : w1.cell? ⟨pb, 15, none⟩ = some (.map (some mb)) := (bcell hb1 (by have := cell_lt hp; simp; omega) _).trans ((bcell ((Below.refl _ w).alloc (Nat.le_refl _) _) (cell_lt hp) _).trans hp)
  clear hset hp
  go_loopw [9] (fun i9 wr => ∃ k : Nat, k ≤ (hooks i).length ∧ i9 = .int .i64 k ∧ HookSet wr mb (n + k) (((hooks i).take k).reverse ++ U) ∧ w1.grownBy wr (some mb)) (fun i9 _ => (hooks i).length - (intOf i9).toNat)
  case atStart => exact ⟨0, Nat.zero_le _, rfl, hs1, grown_refl _ _⟩
  case round =>
    obtain ⟨k, hk, rfl, hsr, hg⟩ := hrel
    by_cases hlt : k < (hooks i).length
    · obtain ⟨b, off, u, rfl, hB, hu, hc0, hc1⟩ := hs.at_ hlt
      have hpr : wr.cell? ⟨pb, 15, none⟩ = some (.map (some mb)) := grown_cell hg hne hp1
      have hpl := cell_lt hpr
      have hpa := fun o => (bcell ((Below.refl _ wr).alloc (Nat.le_refl _) o) hpl 15).trans hpr
      have d0 := grown_cell hg (hs1.ne hc0) hc0
      have d1 := grown_cell hg (hs1.ne hc0) hc1
      have hsa := fun o => hsr.kept (World.grownBy_alloc wr o none) (by simp)
      have hoku := hok.out u (List.mem_of_getElem? hu)
      have hl2 : (hooks i).length ≤ 2 := hooks_len i
      have HU := Lib.hid hu
      clear hc0 hc1 hp1 hs hu
      obtain ⟨w2, hput, hs2, ht2⟩ := HookSet.put (w := (wr.alloc (.cells #[.int .u8 u.1, .int .i64 u.2] 170)).drew) (hsa _) hoku (by omega)
      have HS2 := Lib.hid hs2
      have HT2 := Lib.hid ht2.grown
      clear hs2 ht2
      go_wp2
      go_region
      go_wp2
      go_roundw
      case rel =>
        refine ⟨k + 1, by omega, by go_num, ?_, ?_⟩
        · have e : (hooks i).take (k + 1) = (hooks i).take k ++ [u] := by rw [List.take_add_one, HU.out]; rfl
          rw [e, List.reverse_append]
          exact HS2.out
        · exact hg.trans (((World.grownBy_alloc wr (.cells #[.int .u8 u.1, .int .i64 u.2] 170) _).trans (grown_drew _ _)).trans HT2.out)
      case measure => simp [intOf]; omega
    · obtain rfl : k = (hooks i).length := by omega
      rw [List.take_length] at hsr
      clear hs
      go_wp2
      refine bodyPost_end (results_none rfl _ _ _) rfl ?_
      exact ⟨rfl, hsr, (((World.grownBy_alloc w _ _).trans ⟨hb1.os, hb1.tape, hb1.output, hb1.size, fun b hb _ => hb1.block b hb⟩).trans hg)⟩
end Go.Proofs.YtbnddpknejgmhaaGreat
