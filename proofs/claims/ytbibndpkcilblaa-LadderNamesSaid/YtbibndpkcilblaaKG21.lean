/- Layer 28, the reference: Run. Layer 28, the reference: Stops. -/
import Derived.Test.YtbibndpkcilblaaKRd
import Derived.Test.YtbibndpkcilblaaKG14
import Derived.Test.YtbibndpkcilblaaKG20
namespace Go.Proofs.Ytbibndpkcilblaa
open Go.RowKit Go.Shelf Go.Sort
set_option maxRecDepth 100000

/-- What Work hands back, read. -/
def RwkPost (t : Pw) (w : World) (e : Ending) (w' : World) : Prop := ∃ a b x r ca cb cx cr, e = .returned (rcV a b x r t.lp.length ca t.bound.length cb t.cross.length cx t.rows.length cr) ∧ RcAt w' w'.heap.size a b r t.lp t.bound t.rows ∧ Below w.heap.size w w'
theorem rwk_ch (start : Int) (A : Option Addr) (c : Nat) (p : List RowC) (he : chartE start p = 0) (h12 : p.length ≤ 12) (w : World) (hs : SlC w w.heap.size A p) :
    Calls Try.prog 18 #[.agg #[.int .i64 start, .slice A p.length c]] w fun e w' => RwkPost (workX start p) w e w' := by
  have hwk := wk_chart he h12
  have hz := chart_zero he
  have hea := err_at hz.2.2
  obtain ⟨n, rfl⟩ : ∃ n : Nat, start = (n : Int) := ⟨start.toNat, by omega⟩
  rw [workX_ok he]
  rw [Int.toNat_natCast] at hwk ⊢
  refine (rwork_any n A c p (p.map faceL) (List.length_map _) hwk w hs fun k r f hr hf W A' c' hsl => ?_).mono ?_
  · rw [face_at hr] at hf
    cases hf
    have h := hea.1 k r hr
    exact rseen_own r A' c' h.2.1 (by omega) W hsl
  · rintro e w' ⟨vL, vB, vC, vR, vs, rfl, hv, ho, hb⟩
    obtain ⟨a, ca, rfl⟩ := pxL_form ho
    obtain ⟨b, cb, rfl⟩ := pxJ_form ho.tail
    obtain ⟨x, cx, rfl⟩ := pxP_form ho.tail.tail
    obtain ⟨r, cr, rfl⟩ := pxJ_form ho.tail.tail.tail
    exact ⟨a, b, x, r, ca, cb, cx, cr, rfl, ⟨slL_of ho rfl hv (fun o h => ho.all o (by simp [h])), pxJ_lies ho.tail.head, pxJ_lies ho.tail.tail.tail.head⟩, hb⟩
/-- Behind Work: the piece in its box. -/
structure RwB (qb : Nat) (a b x r : Option Addr) (ca cb cx nr cr : Nat) (t : Pw) (w W : World) : Prop where
  bx : RcBx qb a b x r t.lp.length ca t.bound.length cb t.cross.length cx nr cr t.lp t.bound t.rows W
  bel : Below w.heap.size w W
theorem RwB.to {qb : Nat} {a b x r : Option Addr} {ca cb cx nr cr : Nat} {t : Pw} {w W W' : World} (h : RwB qb a b x r ca cb cx nr cr t w W) (hb : Below W.heap.size W W') : RwB qb a b x r ca cb cx nr cr t w W' := ⟨h.bx.to hb, h.bel.trans (hb.mono h.bel.size)⟩
/-- The front: the chart's box, Check's answer, Work. -/
structure RfF (start : Int) (A : Option Addr) (c : Nat) (p : List RowC) (cb : Nat) (w W : World) : Prop where
  cb0 : W.cell? ⟨cb, 0, none⟩ = some (.int .i64 start)
  cb1 : W.cell? ⟨cb, 1, none⟩ = some (.slice A p.length c)
  sl : SlC W W.heap.size A p
  bel : Below w.heap.size w W
theorem rf_front (start : Int) (A : Option Addr) (c : Nat) (p : List RowC) (w : World) (hs : SlC w w.heap.size A p) : RfF start A c p w.heap.size w (w.alloc (.cells #[.int .i64 start, .slice A p.length c] 24)) := by
  have hb := al_t w (.cells #[.int .i64 start, .slice A p.length c] 24)
  obtain ⟨g1, -⟩ := bxT_at (bxT_new w 24 [.int .i64 start, .slice A p.length c])
  exact ⟨g1 0 _ rfl, g1 1 _ rfl, (hs.below hb).more hb.size, hb⟩
theorem RfF.to {start : Int} {A : Option Addr} {c : Nat} {p : List RowC} {cb : Nat} {w W W' : World} (h : RfF start A c p cb w W) (hb : Below W.heap.size W W') : RfF start A c p cb w W' :=
  ⟨(bcell hb (lt_of_cell h.cb0) _).trans h.cb0, (bcell hb (lt_of_cell h.cb1) _).trans h.cb1, (h.sl.below hb).more hb.size, h.bel.trans (hb.mono h.bel.size)⟩
theorem RfF.check {start : Int} {A : Option Addr} {c : Nat} {p : List RowC} {cb : Nat} {w W : World} (h : RfF start A c p cb w W) : Calls Try.prog 16 #[.agg #[.int .i64 start, .slice A p.length c]] W fun e w' => RetE (chartE start p) W e w' := rcheck_any start A c p W h.sl
theorem RfF.behind {start : Int} {A : Option Addr} {c : Nat} {p : List RowC} {cb : Nat} {w W W' : World} {t : Pw} {a b x r : Option Addr} {ca cb' cx cr : Nat} (h : RfF start A c p cb w W) (hr : RcAt W' W'.heap.size a b r t.lp t.bound t.rows) (hb : Below W.heap.size W W') :
    RwB W'.heap.size a b x r ca cb' cx t.rows.length cr t w (W'.alloc (rcB a b x r t.lp.length ca t.bound.length cb' t.cross.length cx t.rows.length cr)) :=
  ⟨RcBx.new _ _ _ _ _ _ _ _ hr, h.bel.trans ((hb.trans ((al_t W' _).mono hb.size)).mono h.bel.size)⟩
theorem rows_len {start : Int} {p : List RowC} (he : chartE start p = 0) (h12 : p.length ≤ 12) : (workX start p).rows.length = p.length + 2 := by
  have hi := (wk_chart he h12).inv p.length (by rw [List.length_map]; exact Nat.le_refl _)
  rw [workX_ok he]
  exact hi.rl
set_option maxHeartbeats 2000000 in
theorem Rrun_err (start : Int) (A : Option Addr) (c : Nat) (p : List RowC) (he : chartE start p ≠ 0) (da : Option Addr) (dn dc : Nat) (w : World) (hs : SlC w w.heap.size A p) :
    Calls Try.prog 11 #[.agg #[.int .i64 start, .slice A p.length c], .slice da dn dc] w fun e w' => BoPost (chartE start p) [] w e w' := by
  have hF := rf_front start A c p w hs
  have c0 := hF.cb0
  have c1 := hF.cb1
  have HCk : Hid (∀ W, Below (w.alloc (.cells #[.int .i64 start, .slice A p.length c] 24)).heap.size (w.alloc (.cells #[.int .i64 start, .slice A p.length c] 24)) W → Calls Try.prog 16 #[.agg #[.int .i64 start, .slice A p.length c]] W fun e w' => RetE (chartE start p) W e w') := fun W hb => (hF.to hb).check
  have HF := Lib.hid hF
  obtain ⟨x, hx⟩ : ∃ x, x = chartE start p := ⟨_, rfl⟩
  rw [← hx] at HCk he ⊢
  have hne : (x != 0) = true := by simp [he]
  clear hF hs hx he
  go_enter Try.func11, Try.ntmps11
  go_wp2_with fail
  refine (HCk.out _ (Below.refl _ _)).mono ?_
  rintro e w2 ⟨rfl, hb2⟩
  have hF2 := HF.out.to hb2
  have c0' := hF2.cb0
  have c1' := hF2.cb1
  have HC2 := Lib.hid (HCk.out w2 hb2)
  have HB2 := Lib.hid hF2.bel
  clear hF2 hb2 c0 c1
  go_wp2_with fail
  refine HC2.out.mono ?_
  rintro e w3 ⟨rfl, hb3⟩
  have HB3 := Lib.hid (HB2.out.trans (hb3.mono HB2.out.size))
  clear hb3
  go_wp2
  go_ret2
  exact ⟨_, rfl, World.ownsRow_nil _ _ _ _, HB3.out⟩
set_option maxHeartbeats 4000000 in
theorem Rrun_ok (start : Int) (A : Option Addr) (c : Nat) (p : List RowC) (h12 : p.length ≤ 12) (he : chartE start p = 0) (da : Option Addr) (dc : Nat) (drop : List Int) (hD : drop.length ≤ 300) (w : World) (hs : SlC w w.heap.size A p) (hd : SlI w w.heap.size da drop) :
    Calls Try.prog 11 #[.agg #[.int .i64 start, .slice A p.length c], .slice da drop.length dc] w fun e w' => BoPost (runS start p drop).1 (runS start p drop).2 w e w' := by
  have hF := rf_front start A c p w hs
  have c0 := hF.cb0
  have c1 := hF.cb1
  have hCk := hF.check
  rw [he] at hCk
  have HCk := Lib.hid hCk
  have HWk : Hid (∀ W, RfF start A c p w.heap.size w W → Calls Try.prog 18 #[.agg #[.int .i64 start, .slice A p.length c]] W fun e w' => RwkPost (workX start p) W e w') := fun W h => rwk_ch start A c p he h12 W h.sl
  have HR : Hid (runS start p drop = if dropB (workX start p).lp.length (workX start p).next drop = false then (2, []) else (0, listN (workX start p).lp.length (runF (workX start p).lp drop))) := by
    show _ = _
    unfold runS
    rw [if_neg (by rw [he]; decide)]
  have HSd : Hid (∀ W, Below w.heap.size w W → SlI W W.heap.size da drop) := fun W hb => (hd.below hb).more hb.size
  have hG := chart_grd he h12
  have hrl := rows_len he h12
  obtain ⟨t, ht⟩ : ∃ t, t = workX start p := ⟨_, rfl⟩
  rw [← ht] at HWk HR hG hrl
  have HG := Lib.hid hG
  have HF := Lib.hid hF
  obtain ⟨D, hDe⟩ : ∃ D, D = drop.length := ⟨_, rfl⟩
  have HDe := Lib.hid hDe
  obtain ⟨nr, hnr⟩ : ∃ nr, nr = t.rows.length := ⟨_, rfl⟩
  have HNr : Hid (nr = p.length + 2) := hnr.trans hrl
  have HNe := Lib.hid hnr
  rw [← hDe] at hD ⊢
  clear hF hs he hG ht hd hDe hCk hrl hnr
  go_enter Try.func11, Try.ntmps11
  go_wp2_with fail
  refine HCk.out.mono ?_
  rintro e w2 ⟨rfl, hb2⟩
  have hF2 := HF.out.to hb2
  have c0' := hF2.cb0
  have c1' := hF2.cb1
  have HW2 := Lib.hid (HWk.out w2 hF2)
  have HF2 := Lib.hid hF2
  clear hF2 hb2 c0 c1 HCk HF HWk
  go_upto_region 4 with (go_at_call 18; refine HW2.out.mono ?_; rintro e w3 ⟨a, b, x, r, ca, cb, cx, cr, rfl, hr, hb3⟩; have HB3 := Lib.hid (HF2.out.behind (x := x) (ca := ca) (cb' := cb) (cx := cx) (cr := cr) hr hb3); clear hr hb3)
  obtain ⟨qb, hqb⟩ : ∃ qb, qb = w3.heap.size := ⟨_, rfl⟩
  refine abs_world (Q := fun W => Code.wp _ _ _ _ W) (F := fun W => RwB qb a b x r ca cb cx nr cr t w W) _ (by rw [hqb, HNe.out]; exact HB3.out) ?_
  rw [← hqb, ← HNe.out]
  clear hqb HB3 HW2 c0' c1' HF2
  clear w3
  rintro W h
  have HDr := Lib.hid (rdropped_any a b x r t.lp.length ca t.bound.length cb t.cross.length cx cr p.length t.next (by omega) t.lp t.bound t.rows HG.out.g.lv_ da dc drop (by have := HDe.out; omega) W h.bx.at_ (HSd.out W h.bel))
  rw [← HDe.out, ← HNr.out] at HDr
  have HL := Lib.hid h
  have y0 := h.bx.c0
  have y1 := h.bx.c1
  have y2 := h.bx.c2
  have y3 := h.bx.c3
  obtain ⟨z, hz⟩ : ∃ z, z = dropB t.lp.length t.next drop := ⟨_, rfl⟩
  rw [← hz] at HDr HR
  clear h hz
  cases z with
  | false =>
    rw [if_pos rfl] at HR
    go_wp2_with (go_at_call 17; refine HDr.out.mono ?_; rintro e w4 ⟨rfl, hb4⟩)
    have HB4 := Lib.hid (HL.out.to hb4).bel
    clear hb4
    go_ret2
    rw [HR.out]
    exact ⟨_, rfl, World.ownsRow_nil _ _ _ _, HB4.out⟩
  | true =>
    rw [if_neg (by decide)] at HR
    go_upto_region 6 with (go_at_call 17; refine HDr.out.mono ?_; rintro e w4 ⟨rfl, hb4⟩)
    have h4 := HL.out.to hb4
    clear hb4 HL y0 y1 y2 y3 HDr
    clear W
    have HRu := Lib.hid (rrunning_any a b x r ca t.bound.length cb t.cross.length cx nr cr p.length t.next t.lp t.bound (grd_n HG.out.g) HG.out.ll t.bound t.rows da dc drop (by have := HDe.out; omega) w4 h4.bx.at_ (HSd.out w4 h4.bel))
    rw [← HDe.out] at HRu
    have HL := Lib.hid h4
    have y0 := h4.bx.c0
    have y1 := h4.bx.c1
    have y2 := h4.bx.c2
    have y3 := h4.bx.c3
    clear h4
    go_wp2_with fail
    refine HRu.out.mono ?_
    rintro e w5 ⟨g, rfl, hm, hb5⟩
    have HLi := Lib.hid (rlist_any g t.lp.length HG.out.ll (runF t.lp drop) w5 (pxF_at hm).1)
    have HB5 := Lib.hid (HL.out.bel.trans (hb5.mono HL.out.bel.size))
    clear hm hb5 y0 y1 y2 y3 HRu
    go_wp2_with fail
    refine HLi.out.mono ?_
    rintro e w6 ⟨v, rfl, ho, hb6⟩
    have HQ := Lib.hid (And.intro (own_more ho HB5.out.size) (HB5.out.trans (hb6.mono HB5.out.size)))
    clear ho hb6 HLi
    go_wp2
    go_ret2
    rw [HR.out]
    exact ⟨_, rfl, HQ.out.1, HQ.out.2⟩
end Go.Proofs.Ytbibndpkcilblaa
namespace Go.Proofs.Ytbibndpkcilblaa
open Go.RowKit Go.Shelf Go.Sort
set_option maxRecDepth 100000

/-- What the reference has marked: loops 0 .. i-1 done. -/
def hitI (lp : List Lp) (F : Nat → Bool) (i : Nat) : Nat → Bool := fun m => !F m && (List.range i).any fun k => F k && decide ((m : Int) ∈ parN lp k)
def hitQ (lp : List Lp) (F : Nat → Bool) (i q : Nat) : Nat → Bool := fun m => !F m && (((List.range i).any fun k => F k && decide ((m : Int) ∈ parN lp k)) || (F i && decide ((m : Int) ∈ (parN lp i).take q)))
theorem hit_zero (lp : List Lp) (F : Nat → Bool) : hitI lp F 0 = fun _ => false := by
  funext m
  unfold hitI
  simp
theorem hitQ_zero (lp : List Lp) (F : Nat → Bool) (i : Nat) : hitQ lp F i 0 = hitI lp F i := by
  funext m
  unfold hitQ hitI
  simp
theorem hitQ_end (lp : List Lp) (F : Nat → Bool) (i : Nat) : hitQ lp F i (parN lp i).length = hitI lp F (i + 1) := by
  funext m
  unfold hitQ hitI
  rw [List.take_length, List.range_succ, List.any_append]
  simp
theorem hit_skip {lp : List Lp} {F : Nat → Bool} {i : Nat} (h : F i = false) (q : Nat) : hitQ lp F i q = hitI lp F (i + 1) := by
  funext m
  unfold hitQ hitI
  rw [List.range_succ, List.any_append, h]
  simp [h]
theorem hitQ_next {lp : List Lp} {F : Nat → Bool} {i q m : Nat} (hF : F i = true) (hx : (parN lp i)[q]? = some (m : Int)) : setF (hitQ lp F i q) m (!F m) = hitQ lp F i (q + 1) := by
  funext k
  unfold setF hitQ
  rw [List.take_add_one, hx]
  by_cases hk : k = m
  · subst hk
    simp [hF]
  · rw [if_neg hk]
    have : ((k : Int) ∈ (parN lp i).take q ++ (some (m : Int)).toList) ↔ (k : Int) ∈ (parN lp i).take q := by
      rw [List.mem_append]
      constructor
      · rintro (h | h)
        · exact h
        · simp at h; omega
      · exact Or.inl
    rw [decide_eq_decide.2 this]
theorem hit_all {lp : List Lp} {drop : List Int} {m : Nat} : hitI lp (runF lp drop) lp.length m = stopF lp drop m := by
  unfold hitI stopF
  congr 1
  rw [Bool.eq_iff_iff, List.any_eq_true, List.any_eq_true]
  constructor
  · rintro ⟨k, h1, h2⟩
    rw [Bool.and_eq_true, decide_eq_true_eq] at h2
    exact ⟨k, mem_kids.2 ⟨List.mem_range.1 h1, h2.2⟩, h2.1⟩
  · rintro ⟨k, h1, h2⟩
    obtain ⟨h3, h4⟩ := mem_kids.1 h1
    exact ⟨k, List.mem_range.2 h3, by rw [h2, decide_eq_true h4]; rfl⟩
set_option maxHeartbeats 2000000 in
theorem Rstops_err (start : Int) (A : Option Addr) (c : Nat) (p : List RowC) (he : chartE start p ≠ 0) (da : Option Addr) (dn dc : Nat) (w : World) (hs : SlC w w.heap.size A p) :
    Calls Try.prog 13 #[.agg #[.int .i64 start, .slice A p.length c], .slice da dn dc] w fun e w' => BoPost (chartE start p) [] w e w' := by
  have hF := rf_front start A c p w hs
  have c0 := hF.cb0
  have c1 := hF.cb1
  have HCk : Hid (∀ W, Below (w.alloc (.cells #[.int .i64 start, .slice A p.length c] 24)).heap.size (w.alloc (.cells #[.int .i64 start, .slice A p.length c] 24)) W → Calls Try.prog 16 #[.agg #[.int .i64 start, .slice A p.length c]] W fun e w' => RetE (chartE start p) W e w') := fun W hb => (hF.to hb).check
  have HF := Lib.hid hF
  obtain ⟨x, hx⟩ : ∃ x, x = chartE start p := ⟨_, rfl⟩
  rw [← hx] at HCk he ⊢
  have hne : (x != 0) = true := by simp [he]
  clear hF hs hx he
  go_enter Try.func13, Try.ntmps13
  go_wp2_with fail
  refine (HCk.out _ (Below.refl _ _)).mono ?_
  rintro e w2 ⟨rfl, hb2⟩
  have hF2 := HF.out.to hb2
  have c0' := hF2.cb0
  have c1' := hF2.cb1
  have HC2 := Lib.hid (HCk.out w2 hb2)
  have HB2 := Lib.hid hF2.bel
  clear hF2 hb2 c0 c1
  go_wp2_with fail
  refine HC2.out.mono ?_
  rintro e w3 ⟨rfl, hb3⟩
  have HB3 := Lib.hid (HB2.out.trans (hb3.mono HB2.out.size))
  clear hb3
  go_wp2
  go_ret2
  exact ⟨_, rfl, World.ownsRow_nil _ _ _ _, HB3.out⟩
set_option maxHeartbeats 4000000 in
theorem Rstops_ok (start : Int) (A : Option Addr) (c : Nat) (p : List RowC) (h12 : p.length ≤ 12) (he : chartE start p = 0) (da : Option Addr) (dc : Nat) (drop : List Int) (hD : drop.length ≤ 300) (w : World) (hs : SlC w w.heap.size A p) (hd : SlI w w.heap.size da drop) :
    Calls Try.prog 13 #[.agg #[.int .i64 start, .slice A p.length c], .slice da drop.length dc] w fun e w' => BoPost (stopS start p drop).1 (stopS start p drop).2 w e w' := by
  have hF := rf_front start A c p w hs
  have c0 := hF.cb0
  have c1 := hF.cb1
  have hCk := hF.check
  rw [he] at hCk
  have HCk := Lib.hid hCk
  have HWk : Hid (∀ W, RfF start A c p w.heap.size w W → Calls Try.prog 18 #[.agg #[.int .i64 start, .slice A p.length c]] W fun e w' => RwkPost (workX start p) W e w') := fun W h => rwk_ch start A c p he h12 W h.sl
  have HR : Hid (stopS start p drop = if dropB (workX start p).lp.length (workX start p).next drop = false then (2, []) else (0, listN (workX start p).lp.length (stopF (workX start p).lp drop))) := by
    show _ = _
    unfold stopS
    rw [if_neg (by rw [he]; decide)]
  have HSd : Hid (∀ W, Below w.heap.size w W → SlI W W.heap.size da drop) := fun W hb => (hd.below hb).more hb.size
  have hG := chart_grd he h12
  have hrl := rows_len he h12
  obtain ⟨t, ht⟩ : ∃ t, t = workX start p := ⟨_, rfl⟩
  rw [← ht] at HWk HR hG hrl
  have HG := Lib.hid hG
  have HF := Lib.hid hF
  obtain ⟨D, hDe⟩ : ∃ D, D = drop.length := ⟨_, rfl⟩
  have HDe := Lib.hid hDe
  obtain ⟨nr, hnr⟩ : ∃ nr, nr = t.rows.length := ⟨_, rfl⟩
  have HNr : Hid (nr = p.length + 2) := hnr.trans hrl
  have HNe := Lib.hid hnr
  rw [← hDe] at hD ⊢
  clear hF hs he hG ht hd hDe hCk hrl hnr
  go_enter Try.func13, Try.ntmps13
  go_wp2_with fail
  refine HCk.out.mono ?_
  rintro e w2 ⟨rfl, hb2⟩
  have hF2 := HF.out.to hb2
  have c0' := hF2.cb0
  have c1' := hF2.cb1
  have HW2 := Lib.hid (HWk.out w2 hF2)
  have HF2 := Lib.hid hF2
  clear hF2 hb2 c0 c1 HCk HF HWk
  go_upto_region 4 with (go_at_call 18; refine HW2.out.mono ?_; rintro e w3 ⟨a, b, x, r, ca, cb, cx, cr, rfl, hr, hb3⟩; have HB3 := Lib.hid (HF2.out.behind (x := x) (ca := ca) (cb' := cb) (cx := cx) (cr := cr) hr hb3); clear hr hb3)
  obtain ⟨qb, hqb⟩ : ∃ qb, qb = w3.heap.size := ⟨_, rfl⟩
  refine abs_world (Q := fun W => Code.wp _ _ _ _ W) (F := fun W => RwB qb a b x r ca cb cx nr cr t w W) _ (by rw [hqb, HNe.out]; exact HB3.out) ?_
  rw [← hqb, ← HNe.out]
  clear hqb HB3 HW2 c0' c1' HF2
  clear w3
  rintro W h
  have HDr := Lib.hid (rdropped_any a b x r t.lp.length ca t.bound.length cb t.cross.length cx cr p.length t.next (by omega) t.lp t.bound t.rows HG.out.g.lv_ da dc drop (by have := HDe.out; omega) W h.bx.at_ (HSd.out W h.bel))
  rw [← HDe.out, ← HNr.out] at HDr
  have HL := Lib.hid h
  have y0 := h.bx.c0
  have y1 := h.bx.c1
  have y2 := h.bx.c2
  have y3 := h.bx.c3
  obtain ⟨z, hz⟩ : ∃ z, z = dropB t.lp.length t.next drop := ⟨_, rfl⟩
  rw [← hz] at HDr HR
  clear h hz
  cases z with
  | false =>
    rw [if_pos rfl] at HR
    go_wp2_with (go_at_call 17; refine HDr.out.mono ?_; rintro e w4 ⟨rfl, hb4⟩)
    have HB4 := Lib.hid (HL.out.to hb4).bel
    clear hb4
    go_ret2
    rw [HR.out]
    exact ⟨_, rfl, World.ownsRow_nil _ _ _ _, HB4.out⟩
  | true =>
    rw [if_neg (by decide)] at HR
    go_upto_region 6 with (go_at_call 17; refine HDr.out.mono ?_; rintro e w4 ⟨rfl, hb4⟩)
    have h4 := HL.out.to hb4
    clear hb4 HL y0 y1 y2 y3 HDr
    clear W
    have HRu := Lib.hid (rrunning_any a b x r ca t.bound.length cb t.cross.length cx nr cr p.length t.next t.lp t.bound (grd_n HG.out.g) HG.out.ll t.bound t.rows da dc drop (by have := HDe.out; omega) w4 h4.bx.at_ (HSd.out w4 h4.bel))
    rw [← HDe.out] at HRu
    have HL : Hid (∀ W, Below w4.heap.size w4 W → RwB qb a b x r ca cb cx nr cr t w W) := fun W hb => h4.to hb
    have HB4 := Lib.hid h4.bel
    have y0 := h4.bx.c0
    have y1 := h4.bx.c1
    have y2 := h4.bx.c2
    have y3 := h4.bx.c3
    clear h4
    obtain ⟨M, hM⟩ : ∃ M, M = t.lp.length := ⟨_, rfl⟩
    have HMe := Lib.hid hM
    have hM26 : M ≤ 2600 := by rw [hM]; exact HG.out.ll
    obtain ⟨F, hF⟩ : ∃ F, F = runF t.lp drop := ⟨_, rfl⟩
    have HFe := Lib.hid hF
    rw [← hM, ← hF] at HRu
    rw [← hM] at y0 ⊢
    clear hM hF
    go_upto_region 7 with (go_at_call 36; refine HRu.out.mono ?_; rintro e w5 ⟨g, rfl, hm, hb5⟩)
    obtain ⟨w6, hmk, ho6, hb6⟩ := mk_marks w5 M (by omega)
    have h5 : Owns w5 w4.heap.size [pxF g M F] := ⟨fun o ho => by rw [List.mem_singleton.1 ho]; exact hm, List.pairwise_singleton _ _⟩
    have h6 := h5.add hb6 hb5.size ho6
    obtain ⟨og, hog⟩ : ∃ og, og = w5.heap.size := ⟨_, rfl⟩
    rw [← hog] at hmk h6
    have HX6 : Hid (Owns w6 w4.heap.size [pxF og M (hitI t.lp F 0), pxF g M F] ∧ Below w4.heap.size w4 w6) := by
      rw [hit_zero]
      exact ⟨h6, hb5.trans (hb6.mono hb5.size)⟩
    clear hm hb5 ho6 hb6 h5 h6 hog y0 y1 y2 y3 HRu
    go_upto_region 8 with fail
    clear hmk
    go_wp2
    go_loopw [9, 10, 11] (fun s9 s10 s11 wr => ∃ (i : Nat) (v10 v11 : Value), i ≤ M ∧ s9 = .int .i64 (i : Int) ∧ v10 = s10 ∧ v11 = s11 ∧ Hid (Owns wr w4.heap.size [pxF og M (hitI t.lp F i), pxF g M F] ∧ Below w4.heap.size w4 wr)) (fun s9 _ _ _ => M - (intOf s9).toNat)
    case atStart => exact ⟨0, _, _, Nat.zero_le _, rfl, rfl, rfl, HX6.out⟩
    case round =>
      obtain ⟨i, v10, v11, hi, rfl, rfl, rfl, HX⟩ := hrel
      clear HX6
      obtain ⟨W6, hW6⟩ : ∃ x : World, x = wr := ⟨_, rfl⟩
      rw [← hW6] at HX ⊢
      clear hW6
      by_cases hlt : i < M
      case neg =>
        have him : i = t.lp.length := by have := HMe.out; omega
        have hX := HX.out
        rw [him, HFe.out] at hX
        have hbl : BlAt og M (stopF t.lp drop) W6 := fun k hk => by
          rw [(pxF_at hX.1.head).1 k hk, hit_all]
        have HLi := Lib.hid (rlist_any og M (by omega) (stopF t.lp drop) W6 hbl)
        have HB5 := Lib.hid (HB4.out.trans (hX.2.mono HB4.out.size))
        clear hX HX him hbl
        go_wp2_with (go_at_call 35; refine HLi.out.mono ?_; rintro e w7 ⟨v, rfl, ho, hb7⟩)
        have HQ := Lib.hid (And.intro (own_more ho HB5.out.size) (HB5.out.trans (hb7.mono HB5.out.size)))
        clear ho hb7 HLi
        go_ret2
        rw [HR.out, ← HMe.out]
        exact ⟨_, rfl, HQ.out.1, HQ.out.2⟩
      case pos =>
        have hiL : i < t.lp.length := by have := HMe.out; omega
        have HX7 : Hid (Owns W6 w4.heap.size [pxF og M (hitQ t.lp F i 0), pxF g M F] ∧ Below w4.heap.size w4 W6) := by rw [hitQ_zero]; exact HX.out
        have hiI : (i : Int) < (M : Int) := by omega
        have hi0 : (0 : Int) ≤ (i : Int) := by omega
        have HJ : Hid (i + 1 ≤ M ∧ i < M) := by show _ ∧ _; omega
        clear HX
        go_upto_region 11 with fail
        go_wp2
        go_loopw [10, 11] (fun s10 s11 wr => ∃ (q : Nat) (v11 : Value), q ≤ (parN t.lp i).length ∧ s10 = .int .i64 (q : Int) ∧ v11 = s11 ∧ Hid (Owns wr w4.heap.size [pxF og M (hitQ t.lp F i q), pxF g M F] ∧ Below w4.heap.size w4 wr)) (fun s10 _ _ => (parN t.lp i).length - (intOf s10).toNat)
        case atStart => exact ⟨0, _, Nat.zero_le _, rfl, rfl, HX7.out⟩
        case round =>
          obtain ⟨q, v11', hq, rfl, rfl, HX⟩ := hrel
          clear HX7
          obtain ⟨W8, hW8⟩ : ∃ x : World, x = wr := ⟨_, rfl⟩
          rw [← hW8] at HX ⊢
          clear hW8
          have hBs : w4.heap.size ≤ W8.heap.size := HX.out.2.size
          have h8 := HL.out W8 HX.out.2
          have c0 := h8.bx.c0
          rw [← HMe.out] at c0
          obtain ⟨lb, loff, l, A', C', ea, -, hl, -, -, l2, -, hsl⟩ := h8.bx.at_.lp.at_ (j := i) hiL
          subst ea
          have hpar : parN t.lp i = l.par := by unfold parN; rw [List.getD_eq_getElem?_getD, hl]; rfl
          obtain ⟨Q, hQ⟩ : ∃ Q, Q = l.par.length := ⟨_, rfl⟩
          have hQ26 : Q ≤ 2600 := by
            have hGn := grd_n HG.out.g
            have h1 := belowK_len hGn (next := [(i : Int)]) (fun x hx => ⟨i, List.mem_singleton.1 hx, hiL⟩) 1 (Nat.le_refl _)
            have h2 := belowK_next (lp := t.lp) (next := [(i : Int)]) (k := 0) rfl
            rw [h2, List.length_append, Int.toNat_natCast, hpar] at h1
            have := HMe.out
            omega
          rw [hpar, ← hQ] at hq
          rw [← hQ] at l2
          have HPar := Lib.hid hpar
          have HQe := Lib.hid hQ
          have b0 := (pxF_at HX.out.1.tail.head).1 i (by omega)
          obtain ⟨fz, hfz⟩ : ∃ fz, fz = F i := ⟨_, rfl⟩
          rw [← hfz] at b0
          have HFz := Lib.hid hfz
          have hq0 : (0 : Int) ≤ (q : Int) := by omega
          cases fz with
          | false =>
            have HQ : Hid (Owns W8 w4.heap.size [pxF og M (hitI t.lp F (i + 1)), pxF g M F] ∧ Below w4.heap.size w4 W8) := by
              rw [← hit_skip HFz.out.symm q]; exact HX.out
            clear HX h8 hl hpar hQ hsl hBs hfz
            go_wp2
            go_roundw
            case rel => exact ⟨i + 1, _, _, HJ.out.1, by go_num, rfl, rfl, HQ.out⟩
            case measure => simp [intOf]; have := HJ.out; omega
          | true =>
            by_cases hqQ : q < Q
            case neg =>
              have hqq : q = (parN t.lp i).length := by rw [HPar.out, ← HQe.out]; omega
              have hX := HX.out
              rw [hqq, hitQ_end] at hX
              have HQ := Lib.hid hX
              clear hX HX hqq h8 hl hpar hQ hsl hBs hfz
              go_wp2
              go_roundw
              case rel => exact ⟨i + 1, _, _, HJ.out.1, by go_num, rfl, rfl, HQ.out⟩
              case measure => simp [intOf]; have := HJ.out; omega
            case pos =>
              obtain ⟨pg, poff, xk, ev, -, hx, x0⟩ := hsl.at_ (k := q) (by omega)
              subst ev
              obtain ⟨k, e, hki, -, -⟩ := ((grd_n HG.out.g).par i hiL).2 xk (by rw [hpar]; exact List.mem_of_getElem? hx)
              subst e
              have hkM' : k < M := by omega
              have b1 := (pxF_at HX.out.1.tail.head).1 k hkM'
              obtain ⟨fk, hfk⟩ : ∃ fk, fk = F k := ⟨_, rfl⟩
              rw [← hfk] at b1
              obtain ⟨hbo, hfo, hlo⟩ := pxF_at HX.out.1.head
              have b2 := hbo k hkM'
              have hf2 := hfo k
              obtain ⟨h9, hg9⟩ := pxF_put HX.out.1 k (!fk)
              have HQ : Hid (Owns (W8.setCell ⟨og, k, none⟩ (.bool (!fk))) w4.heap.size [pxF og M (hitQ t.lp F i (q + 1)), pxF g M F] ∧ Below w4.heap.size w4 (W8.setCell ⟨og, k, none⟩ (.bool (!fk)))) := by
                refine ⟨?_, HX.out.2.trans (Below.of_grown hg9 hBs (fun j e => by cases e; exact hlo))⟩
                rw [← hitQ_next HFz.out.symm (by rw [hpar]; exact hx), ← hfk]
                exact h9
              have hkM : (k : Int) < (M : Int) := by omega
              have hk0 : (0 : Int) ≤ (k : Int) := by omega
              have hqI : (q : Int) < (Q : Int) := by omega
              have HJq : Hid (q + 1 ≤ (parN t.lp i).length ∧ q < (parN t.lp i).length) := by show _ ∧ _; rw [HPar.out, ← HQe.out]; omega
              clear HX h8 hl hpar hQ hsl hBs hfz hx hfk hbo hfo hlo h9 hg9
              go_wp2
              go_roundw
              case rel => exact ⟨q + 1, _, HJq.out.1, by go_num, rfl, HQ.out⟩
              case measure => simp [intOf]; have := HJq.out; omega
end Go.Proofs.Ytbibndpkcilblaa
