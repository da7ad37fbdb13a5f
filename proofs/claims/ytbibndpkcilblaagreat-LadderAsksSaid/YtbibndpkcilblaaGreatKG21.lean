/- Layer 28, the reference: Run. Layer 28, the reference: Stops. -/
import Derived.Test.YtbibndpkcilblaaGreatKRd
import Derived.Test.YtbibndpkcilblaaGreatKG14
import Derived.Test.YtbibndpkcilblaaGreatKG20
namespace Go.Proofs.YtbibndpkcilblaaGreat
open Go.RowKit Go.Shelf Go.Sort
set_option maxRecDepth 100000

/-- What Work hands back, read. -/
def RwkPost (t : Pw) (w : World) (e : Ending) (w' : World) : Prop := ∃ a b x r ca cb cx cr, e = .returned (rcV a b x r t.lp.length ca t.bound.length cb t.cross.length cx t.rows.length cr) ∧ RcAt w' w'.heap.size a b r t.lp t.bound t.rows ∧ Below w.heap.size w w'
theorem rwk_ch (start : Int) (A : Option Addr) (c : Nat) (p : List RowC) (he : chartE start p = 0) (h12 : p.length ≤ 12) (w : World) (hs : SlC w w.heap.size A p) :
    Calls Tryz.prog 18 #[.agg #[.int .i64 start, .slice A p.length c]] w fun e w' => RwkPost (workX start p) w e w' := by
  have hwk := wk_chart he h12
  have hz := chart_zero he
  have hea := err_at hz.2.2
  obtain ⟨n, rfl⟩ : ∃ n : Nat, start = (n : Int) := ⟨start.toNat, by omega⟩
  rw [workX_ok he]
  rw [Int.toNat_natCast] at hwk ⊢
  refine (rwork_any n A c p (p.map faceL) (List.length_map _) hwk w hs fun k r f hr hf W A' c' hsl => ?_).mono ?_
  · rw [face_at hr] at hf
    cases hf
    have h := hea.1 k r hr
    exact rseen_own r A' c' h.2.1 (by omega) W hsl
  · rintro e w' ⟨vL, vB, vC, vR, vs, rfl, hv, ho, hb⟩
    obtain ⟨a, ca, rfl⟩ := pxL_form ho
    obtain ⟨b, cb, rfl⟩ := pxJ_form ho.tail
    obtain ⟨x, cx, rfl⟩ := pxP_form ho.tail.tail
    obtain ⟨r, cr, rfl⟩ := pxJ_form ho.tail.tail.tail
    exact ⟨a, b, x, r, ca, cb, cx, cr, rfl, ⟨slL_of ho rfl hv (fun o h => ho.all o (by simp [h])), pxJ_lies ho.tail.head, pxJ_lies ho.tail.tail.tail.head⟩, hb⟩
/-- Behind Work: the piece in its box. -/
structure RwB (qb : Nat) (a b x r : Option Addr) (ca cb cx nr cr : Nat) (t : Pw) (w W : World) : Prop where
  bx : RcBx qb a b x r t.lp.length ca t.bound.length cb t.cross.length cx nr cr t.lp t.bound t.rows W
  bel : Below w.heap.size w W
theorem RwB.to {qb : Nat} {a b x r : Option Addr} {ca cb cx nr cr : Nat} {t : Pw} {w W W' : World} (h : RwB qb a b x r ca cb cx nr cr t w W) (hb : Below W.heap.size W W') : RwB qb a b x r ca cb cx nr cr t w W' := ⟨h.bx.to hb, h.bel.trans (hb.mono h.bel.size)⟩
/-- The front: the chart's box, Check's answer, Work. -/
structure RfF (start : Int) (A : Option Addr) (c : Nat) (p : List RowC) (cb : Nat) (w W : World) : Prop where
  cb0 : W.cell? ⟨cb, 0, none⟩ = some (.int .i64 start)
  cb1 : W.cell? ⟨cb, 1, none⟩ = some (.slice A p.length c)
  sl : SlC W W.heap.size A p
  bel : Below w.heap.size w W
theorem rf_front (start : Int) (A : Option Addr) (c : Nat) (p : List RowC) (w : World) (hs : SlC w w.heap.size A p) : RfF start A c p w.heap.size w (w.alloc (.cells #[.int .i64 start, .slice A p.length c] 24)) := by
  have hb := al_t w (.cells #[.int .i64 start, .slice A p.length c] 24)
  obtain ⟨g1, -⟩ := bxT_at (bxT_new w 24 [.int .i64 start, .slice A p.length c])
  exact ⟨g1 0 _ rfl, g1 1 _ rfl, (hs.below hb).more hb.size, hb⟩
theorem RfF.to {start : Int} {A : Option Addr} {c : Nat} {p : List RowC} {cb : Nat} {w W W' : World} (h : RfF start A c p cb w W) (hb : Below W.heap.size W W') : RfF start A c p cb w W' :=
  ⟨(bcell hb (lt_of_cell h.cb0) _).trans h.cb0, (bcell hb (lt_of_cell h.cb1) _).trans h.cb1, (h.sl.below hb).more hb.size, h.bel.trans (hb.mono h.bel.size)⟩
theorem RfF.check {start : Int} {A : Option Addr} {c : Nat} {p : List RowC} {cb : Nat} {w W : World} (h : RfF start A c p cb w W) : Calls Tryz.prog 17 #[.agg #[.int .i64 start, .slice A p.length c]] W fun e w' => RetE (chartE start p) W e w' := rcheck_any start A c p W h.sl
theorem RfF.behind {start : Int} {A : Option Addr} {c : Nat} {p : List RowC} {cb : Nat} {w W W' : World} {t : Pw} {a b x r : Option Addr} {ca cb' cx cr : Nat} (h : RfF start A c p cb w W) (hr : RcAt W' W'.heap.size a b r t.lp t.bound t.rows) (hb : Below W.heap.size W W') :
    RwB W'.heap.size a b x r ca cb' cx t.rows.length cr t w (W'.alloc (rcB a b x r t.lp.length ca t.bound.length cb' t.cross.length cx t.rows.length cr)) :=
  ⟨RcBx.new _ _ _ _ _ _ _ _ hr, h.bel.trans ((hb.trans ((al_t W' _).mono hb.size)).mono h.bel.size)⟩
theorem rows_len {start : Int} {p : List RowC} (he : chartE start p = 0) (h12 : p.length ≤ 12) : (workX start p).rows.length = p.length + 2 := by
  have hi := (wk_chart he h12).inv p.length (by rw [List.length_map]; exact Nat.le_refl _)
  rw [workX_ok he]
  exact hi.rl
end Go.Proofs.YtbibndpkcilblaaGreat
namespace Go.Proofs.YtbibndpkcilblaaGreat
open Go.RowKit Go.Shelf Go.Sort
set_option maxRecDepth 100000

/-- What the reference has marked: loops 0 .. i-1 done. -/
def hitI (lp : List Lp) (F : Nat → Bool) (i : Nat) : Nat → Bool := fun m => !F m && (List.range i).any fun k => F k && decide ((m : Int) ∈ parN lp k)
def hitQ (lp : List Lp) (F : Nat → Bool) (i q : Nat) : Nat → Bool := fun m => !F m && (((List.range i).any fun k => F k && decide ((m : Int) ∈ parN lp k)) || (F i && decide ((m : Int) ∈ (parN lp i).take q)))
theorem hit_zero (lp : List Lp) (F : Nat → Bool) : hitI lp F 0 = fun _ => false := by
  funext m
  unfold hitI
  simp
theorem hitQ_zero (lp : List Lp) (F : Nat → Bool) (i : Nat) : hitQ lp F i 0 = hitI lp F i := by
  funext m
  unfold hitQ hitI
  simp
theorem hitQ_end (lp : List Lp) (F : Nat → Bool) (i : Nat) : hitQ lp F i (parN lp i).length = hitI lp F (i + 1) := by
  funext m
  unfold hitQ hitI
  rw [List.take_length, List.range_succ, List.any_append]
  simp
theorem hit_skip {lp : List Lp} {F : Nat → Bool} {i : Nat} (h : F i = false) (q : Nat) : hitQ lp F i q = hitI lp F (i + 1) := by
  funext m
  unfold hitQ hitI
  rw [List.range_succ, List.any_append, h]
  simp [h]
theorem hitQ_next {lp : List Lp} {F : Nat → Bool} {i q m : Nat} (hF : F i = true) (hx : (parN lp i)[q]? = some (m : Int)) : setF (hitQ lp F i q) m (!F m) = hitQ lp F i (q + 1) := by
  funext k
  unfold setF hitQ
  rw [List.take_add_one, hx]
  by_cases hk : k = m
  · subst hk
    simp [hF]
  · rw [if_neg hk]
    have : ((k : Int) ∈ (parN lp i).take q ++ (some (m : Int)).toList) ↔ (k : Int) ∈ (parN lp i).take q := by
      rw [List.mem_append]
      constructor
      · rintro (h | h)
        · exact h
        · simp at h; omega
      · exact Or.inl
    rw [decide_eq_decide.2 this]
theorem hit_all {lp : List Lp} {drop : List Int} {m : Nat} : hitI lp (runF lp drop) lp.length m = stopF lp drop m := by
  unfold hitI stopF
  congr 1
  rw [Bool.eq_iff_iff, List.any_eq_true, List.any_eq_true]
  constructor
  · rintro ⟨k, h1, h2⟩
    rw [Bool.and_eq_true, decide_eq_true_eq] at h2
    exact ⟨k, mem_kids.2 ⟨List.mem_range.1 h1, h2.2⟩, h2.1⟩
  · rintro ⟨k, h1, h2⟩
    obtain ⟨h3, h4⟩ := mem_kids.1 h1
    exact ⟨k, List.mem_range.2 h3, by rw [h2, decide_eq_true h4]; rfl⟩
end Go.Proofs.YtbibndpkcilblaaGreat
