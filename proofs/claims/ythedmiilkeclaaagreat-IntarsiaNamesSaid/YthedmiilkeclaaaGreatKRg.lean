/- Layer 34, contracts: Plan. Layer 34: the chapter's examples hold: alive. -/
import Derived.Test.YthedmiilkeclaaaGreatKRf
import Derived.Test.YthedmiilkeclaaaGreatKRun
import Derived.Test.YthedmiilkeclaaaGreatKRc
namespace Go.Proofs.YthedmiilkeclaaaGreat
open Go.RowKit Go.Shelf Go.Sort
open Go.Proofs.YthedmiilkeclaaaGreat.I34
set_option maxRecDepth 100000

theorem contains_any (A : Option Addr) (c : Nat) (zs : List Int) (x : Int) (w : World) (hs : SlI w w.heap.size A zs) (hl : zs.length ≤ 1000000) :
    Calls Tryz.prog 19 #[.slice A zs.length c, .int .i64 x] w fun e w' => e = .returned (.bool (zs.contains x)) ∧ w' = w := by
  cases zs with
  | nil => exact Tryz.slices_Contains_int_empty A c x w
  | cons a r =>
    obtain ⟨b, off, rfl, hB, hc⟩ := hs (by simp)
    have h := Tryz.slices_Contains_int b off (a :: r).length c (a :: r) x w (Nat.le_refl _) (by omega) (fun j hj => by
      rw [hc j (a :: r)[j] (List.getElem?_eq_getElem hj), List.getD_eq_getElem?_getD, List.getElem?_eq_getElem hj]; rfl)
    rw [List.take_length] at h
    exact h
theorem ins_lit (w : World) (c : Int) : SlX (w.alloc (.cells #[.int .u8 1, .bool false, .int .u8 0, .int .i64 0, .int .i64 0, .int .i64 c, .int .i64 0] 31)) (w.alloc (.cells #[.int .u8 1, .bool false, .int .u8 0, .int .i64 0, .int .i64 0, .int .i64 c, .int .i64 0] 31)).heap.size (some ⟨w.heap.size, 0, none⟩) [inI c] := fun _ => by
  refine ⟨w.heap.size, 0, rfl, by simp, fun j cs hz i v hv => ?_⟩
  have hj : j = 0 := by have := (List.getElem?_eq_some_iff.1 hz).1; simp at this; exact this
  subst hj
  have e : cs = (inI c).cells := by simpa using hz.symm
  subst e
  have hi := (List.getElem?_eq_some_iff.1 hv).1
  rw [Ins.cells_length] at hi
  simp only [Nat.zero_mul, Nat.zero_add]
  refine cell_new rfl rfl ?_
  rw [← hv]
  rcases (by omega : i = 0 ∨ i = 1 ∨ i = 2 ∨ i = 3 ∨ i = 4 ∨ i = 5 ∨ i = 6) with rfl | rfl | rfl | rfl | rfl | rfl | rfl <;> rfl
/-- What Plan hands back. -/
def PlPost (w : World) (r : List Ins × Int) (e : Ending) (w' : World) : Prop := ∃ a c, e = .returned (.tuple #[.slice a r.1.length c, .int .i64 r.2]) ∧ SlX w' w'.heap.size a r.1 ∧ Below w.heap.size w w'
theorem PlPost.none {w w' : World} {r : List Ins × Int} {x : Int} (h : r = ([], x)) (hb : Below w.heap.size w w') : PlPost w r (.returned (.tuple #[.slice none 0 0, .int .i64 x])) w' := by
  subst h
  exact ⟨Option.none, 0, rfl, SlX.nil, hb⟩
theorem PlPost.some_ {w w' : World} {r : List Ins × Int} {l : List Ins} {a : Option Addr} {c : Nat} (h : r = (l, 0)) (hs : SlX w' w'.heap.size a l) (hb : Below w.heap.size w w') : PlPost w r (.returned (.tuple #[.slice a l.length c, .int .i64 0])) w' := by
  subst h
  exact ⟨a, c, rfl, hs, hb⟩
theorem planE_ok {p : List (List Int)} {lim : Nat} (h : chkL p (lim : Int) = 0) : planE p (lim : Int) = if 2000 < (progI p lim).length then ([], 4) else if (runS bed0 (progI p lim)).2.2 ≠ 0 then ([], 4) else (progI p lim, 0) := by
  unfold planE
  rw [if_neg (by simpa using h), Int.toNat_natCast]
theorem planE_many {p : List (List Int)} {lim : Nat} (h : chkL p (lim : Int) = 0) (hl : 2000 < (progI p lim).length) : planE p (lim : Int) = ([], 4) := by rw [planE_ok h, if_pos hl]
theorem colsOf_len (row : List Int) : (colsOf row).length ≤ 6 := List.length_filter_le (row.contains ·) [1, 2, 3, 4, 5, 6]
theorem progI_nil {lim : Nat} : progI [] lim = [] := by
  unfold progI bodyProg insK
  simp [sixC]
set_option maxHeartbeats 32000000 in
theorem plan_any (A : Option Addr) (c : Nat) (p : List (List Int)) (limit : Int) (w : World) (h : SlRows w w.heap.size A p) (hrl : ∀ row ∈ p, row.length ≤ 4611686018427387904) :
    Calls Tryz.prog 5 #[.slice A p.length c, .int .i64 limit] w fun e w' => PlPost w (planE p limit) e w' := by
  have hbx := (Below.refl w.heap.size w).alloc (Nat.le_refl _) (.cells #[.int .i64 limit] 3)
  have hck := checked_any A c p limit (w.alloc (.cells #[.int .i64 limit] 3)) ((h.below hbx).more hbx.size) hrl
  by_cases he : chkL p limit = 0
  case neg =>
    have HF : Hid (planE p limit = ([], chkL p limit)) := by show _ = _; unfold planE; rw [if_pos he]
    have d0 : (chkL p limit != 0) = true := by simpa using he
    obtain ⟨x, hx⟩ : ∃ x, x = chkL p limit := ⟨_, rfl⟩
    rw [← hx] at hck HF d0
    have HCk := Lib.hid hck
    have HB := Lib.hid hbx
    obtain ⟨r, hr⟩ : ∃ r, r = planE p limit := ⟨_, rfl⟩
    rw [← hr] at HF ⊢
    clear hck hbx he h hx hr
    go_enter Tryz.func5, Tryz.ntmps5
    go_wp2_with ((go_at_call 17; refine HCk.out.mono ?_; rintro e w1 ⟨rfl, rfl⟩))
    go_ret2
    exact PlPost.none HF.out HB.out
  case pos =>
  rw [he] at hck
  obtain ⟨hc0, hl1, hl40⟩ := chkL_zero he
  obtain ⟨lim, hlim⟩ : ∃ lim : Nat, limit = (lim : Int) := ⟨limit.toNat, by omega⟩
  subst hlim
  obtain ⟨hp100, hrows⟩ := chk_zero hc0
  have hr101 : ∀ row ∈ p, row.length ≤ 101 := fun row hr => (hrows row hr).2
  have HCells := Lib.hid (chk_cells hc0)
  have HMany := Lib.hid (fun hl => planE_many he hl)
  have HOk := Lib.hid (planE_ok he)
  have HPre := Lib.hid (fun t j (ht : t < p.length) => (progTo_pre (p := p) (lim := lim) (t := t) (j := j) ht).length_le)
  have HRow := Lib.hid hrows
  have HWf := Lib.hid (fun i hi => progI_wf (p := p) (lim := lim) (i := i) hi)
  obtain ⟨r, hr⟩ : ∃ r, r = planE p (lim : Int) := ⟨_, rfl⟩
  rw [← hr] at HMany HOk ⊢
  have HX : Hid (SlRows (w.alloc (.cells #[.int .i64 (lim : Int)] 3)) (w.alloc (.cells #[.int .i64 (lim : Int)] 3)).heap.size A p ∧ (w.alloc (.cells #[.int .i64 (lim : Int)] 3)).cell? ⟨w.heap.size, 0, none⟩ = some (.int .i64 (lim : Int)) ∧ (w.alloc (.cells #[.int .i64 (lim : Int)] 3)).heap.size = w.heap.size + 1 ∧ Below w.heap.size w (w.alloc (.cells #[.int .i64 (lim : Int)] 3))) := ⟨(h.below hbx).more hbx.size, cell_new rfl rfl rfl, by simp, hbx⟩
  have HCk := Lib.hid hck
  have hmf : ∀ (fn : Fn) (first cap : Array Value) (w : World), (Instr.makeFunc fn first cap).run Tryz.prog w = .ok (.func fn first cap) w := fun _ _ _ _ => rfl
  clear hck hbx he h hr hc0 hrl hrows
  go_enter Tryz.func5, Tryz.ntmps5
  go_upto_region 4 with ((go_at_call 17; refine HCk.out.mono ?_; rintro e w1 ⟨rfl, rfl⟩))
  clear HCk
  refine abs_world (Q := fun W => Code.wp _ _ _ _ W) (F := fun W => SlRows W W.heap.size A p ∧ W.cell? ⟨w.heap.size, 0, none⟩ = some (.int .i64 (lim : Int)) ∧ W.heap.size = w.heap.size + 1 ∧ Below w.heap.size w W) _ HX.out ?_
  clear HX
  rintro W0 ⟨hs0, hlb0, hz0, hb0⟩
  obtain ⟨Z, hZ⟩ : ∃ Z, Z = p.flatten := ⟨_, rfl⟩
  have hZl : Z.length ≤ 10100 := by
    have h1 := sumL_flat p p.length
    have h2 := sumL_le hr101 p.length (Nat.le_refl _)
    rw [List.take_length] at h1
    rw [hZ, h1]; omega
  have hcc := concat_any A c p W0 hs0 hp100 hr101
  rw [← hZ] at hcc
  have HCc := Lib.hid hcc
  have HS0 := Lib.hid hs0
  have HLb : Hid (∀ W, Below W0.heap.size W0 W → W.cell? ⟨w.heap.size, 0, none⟩ = some (.int .i64 (lim : Int))) := fun W hb => (bcell hb (by omega) _).trans hlb0
  have HB0 := Lib.hid hb0
  have HZ := Lib.hid hZ
  have HZ0 : Hid (w.heap.size < W0.heap.size) := by show w.heap.size < W0.heap.size; omega
  clear hcc hs0 hlb0 hb0 hZ hz0
  go_upto_region 5 with ((go_at_call 18; refine HCc.out.mono ?_; rintro e w1 ⟨v7, rfl, hown, hb1⟩; obtain ⟨a7, c7, rfl⟩ := ownI_form hown))
  refine abs_world (Q := fun W => Code.wp _ _ _ _ W) (F := fun W => SlI W W.heap.size a7 Z ∧ Below W0.heap.size W0 W) _ ⟨hown.slI, hb1⟩ ?_
  clear hown hb1 HCc
  rintro W1 ⟨hs1, hb1⟩
  have HCo : Hid (∀ (k : Nat) W, Below W1.heap.size W1 W → Calls Tryz.prog 19 #[.slice a7 Z.length c7, .int .i64 ((k : Int) + 1)] W fun e w' => e = .returned (.bool (Z.contains ((k : Int) + 1))) ∧ w' = W) := fun k W hb => contains_any a7 c7 Z _ W ((hs1.below hb).more hb.size) (by omega)
  have HO1 : Hid (Owns W1 W1.heap.size [pxO (.slice none 0 0) (insK p 0)] ∧ Below W1.heap.size W1 W1) := ⟨Owns.nil.none 31 7, Below.refl _ _⟩
  have HLb1 : Hid (∀ W, Below W1.heap.size W1 W → W.cell? ⟨w.heap.size, 0, none⟩ = some (.int .i64 (lim : Int))) := fun W hb => HLb.out W (hb1.trans (hb.mono hb1.size))
  have HS1 : Hid (∀ W, Below W1.heap.size W1 W → SlRows W W.heap.size A p) := fun W hb => by
    have hbb := hb1.trans (hb.mono hb1.size)
    exact (HS0.out.below hbb).more hbb.size
  have HR1 : Hid (SlRows W1 W1.heap.size A p) := (HS0.out.below hb1).more hb1.size
  have HE1 : Hid (∀ W, Below W1.heap.size W1 W → Below w.heap.size w W) := fun W hb => HB0.out.trans ((hb1.trans (hb.mono hb1.size)).mono HB0.out.size)
  have HZ1 : Hid (w.heap.size < W1.heap.size) := Nat.lt_of_lt_of_le HZ0.out hb1.size
  clear hs1 hb1 HLb HS0 HB0 HZ0
  go_wp2
  go_loopw [8, 27] (fun s8 s27 wr => ∃ k : Nat, k ≤ 6 ∧ s27 = .int .i64 (k : Int) ∧ Hid (Owns wr W1.heap.size [pxO s8 (insK p k)]) ∧ Hid (Below W1.heap.size W1 wr)) (fun _ s27 _ => 6 - (intOf s27).toNat)
  case atStart => exact ⟨0, by omega, rfl, HO1.out.1, HO1.out.2⟩
  case round =>
    obtain ⟨k, hk, rfl, HO, HB⟩ := hrel
    clear HO1
    obtain ⟨a8, c8, rfl⟩ := pxO_form HO.out
    by_cases hlt : k < 6
    case pos =>
      have d0 : decide ((k : Int) < 6) = true := decide_eq_true (by omega)
      have HC := HCo.out k wr HB.out
      have HNx := Lib.hid (insK_next (p := p) hlt)
      rw [← HZ.out] at HNx
      have hil := insK_len p k
      cases hct : Z.contains ((k : Int) + 1) with
      | true =>
        rw [hct] at HC HNx
        have HCk := Lib.hid HC
        have hal := (Below.refl wr.heap.size wr).alloc (Nat.le_refl _) (.cells #[.int .u8 1, .bool false, .int .u8 0, .int .i64 0, .int .i64 0, .int .i64 ((k : Int) + 1), .int .i64 0] 31)
        obtain ⟨A9, c9, w9, hrun, hown9, hb9⟩ := owns_app (HO.out.to hal) (by have := HB.out.size; have := hal.size; omega) (ins_lit wr ((k : Int) + 1)) (by simp; omega) 1
        have hr9 : (Builtin.append_ #[25, 25] 25 #[.slice a8 (insK p k).length c8, .slice (some ⟨wr.heap.size, 0, none⟩) 1 1]).run Tryz.prog (wr.alloc (.cells #[.int .u8 1, .bool false, .int .u8 0, .int .i64 0, .int .i64 0, .int .i64 ((k : Int) + 1), .int .i64 0] 31)) = .ok (.slice A9 ((insK p k).length + 1) c9) w9 := hrun
        have HO9 : Hid (Owns w9 W1.heap.size [pxO (.slice A9 ((insK p k).length + 1) c9) (insK p (k + 1))]) := by
          show Owns _ _ _
          rw [HNx.out]
          exact hown9
        have HB9 := Lib.hid (HB.out.trans ((hal.mono HB.out.size).trans hb9))
        clear hrun hown9 hb9 hal HC hct hil HO
        go_wp2_with (first
          | (go_at_call 19; refine HCk.out.mono ?_; rintro e w2 ⟨rfl, rfl⟩)
          | (at_builtin; refine wpList_append_run _ rfl _ _ _ _ rfl _ _ (by rfl) (by rfl) hr9 ?_))
        go_roundw
        case rel => exact ⟨k + 1, by omega, by go_num, HO9.out, HB9.out⟩
        case measure => simp [intOf]; omega
      | false =>
        rw [hct] at HC HNx
        have HCk := Lib.hid HC
        have HO9 : Hid (Owns wr W1.heap.size [pxO (.slice a8 (insK p k).length c8) (insK p (k + 1))]) := by
          show Owns _ _ _
          rw [HNx.out]
          have h := HO.out
          simp only [Bool.false_eq_true, if_false, List.append_nil]
          exact h
        clear HC hct hil HO
        go_wp2_with ((go_at_call 19; refine HCk.out.mono ?_; rintro e w2 ⟨rfl, rfl⟩))
        go_roundw
        case rel => exact ⟨k + 1, by omega, by go_num, HO9.out, HB.out⟩
        case measure => simp [intOf]; omega
    case neg =>
      obtain rfl : k = 6 := by omega
      rw [show (((6 : Nat) : Nat) : Int) = 6 from rfl]
      clear HCo hk hlt HZ hZl
      have hwn := ways_new HO.out HB.out.size
      have hal := (Below.refl wr.heap.size wr).alloc (Nat.le_refl _) (.cells #[.bool false, .bool false, .bool false, .bool false, .bool false, .bool false, .bool false] 57)
      have HX : Hid (Owns (wr.alloc (.cells #[.bool false, .bool false, .bool false, .bool false, .bool false, .bool false, .bool false] 57)) W1.heap.size [pxO (.slice a8 (insK p 6).length c8) (progTo p lim 0 0), pxW wr.heap.size (fun _ => false)] ∧ Below W1.heap.size W1 (wr.alloc (.cells #[.bool false, .bool false, .bool false, .bool false, .bool false, .bool false, .bool false] 57))) := by
        refine ⟨?_, HB.out.trans (hal.mono HB.out.size)⟩
        rw [progTo_zero]
        exact hwn.swap
      have hln : (progTo p lim 0 0).length ≤ 2000 := by rw [progTo_zero]; have := insK_len p 6; omega
      have HL0 := Lib.hid hln
      have hi6 : Hid ((insK p 6).length = (progTo p lim 0 0).length) := by show _ = _; rw [progTo_zero]
      clear hwn hal hln HO HB
      go_upto_region 15 with fail
      refine abs_world (Q := fun W => Code.wp _ _ _ _ W) (F := fun W => Owns W W1.heap.size [pxO (.slice a8 (insK p 6).length c8) (progTo p lim 0 0), pxW wr.heap.size (fun _ => false)] ∧ Below W1.heap.size W1 W) _ HX.out ?_
      clear HX
      obtain ⟨wb, hwb⟩ : ∃ wb, wb = wr.heap.size := ⟨_, rfl⟩
      rw [← hwb]
      clear hwb
      rintro W2 ⟨hO2, hb2⟩
      have HO2 := Lib.hid hO2
      have HB2 := Lib.hid hb2
      clear hO2 hb2
      go_wp2
      go_loopw [8, 44] (fun s8 s44 wr => ∃ t : Nat, t ≤ p.length ∧ s44 = .int .i64 (t : Int) ∧ ∃ F : Nat → Bool, Hid (Owns wr W1.heap.size [pxO s8 (progTo p lim t 0), pxW wb F]) ∧ Hid (∀ k, 1 ≤ k → k ≤ 6 → F k = wayQ p t 0 k) ∧ Hid ((progTo p lim t 0).length ≤ 2000) ∧ Hid (Below W1.heap.size W1 wr)) (fun _ s44 _ => p.length - (intOf s44).toNat)
      case atStart => exact ⟨0, Nat.zero_le _, rfl, fun _ => false, HO2.out, fun k _ _ => (wayQ_start p k).symm, HL0.out, HB2.out⟩
      case round =>
        obtain ⟨t, ht, rfl, F, HO3, HF3, HL3, HB3⟩ := hrel
        clear HO2 HB2 HL0 hi6
        obtain ⟨wo, hwo⟩ : ∃ wo : World, wo = wr := ⟨_, rfl⟩
        rw [← hwo] at HO3 HB3 ⊢
        clear hwo
        obtain ⟨a8, c8, rfl⟩ := pxO_form HO3.out
        by_cases hlt : t < p.length
        case pos =>
          obtain ⟨rb, roff, row, A', C', hA, hrb, hrow, hrc, hrs⟩ := HR1.out.at_ hlt
          subst hA
          have hrc2 := (bcell HB3.out hrb _).trans hrc
          have HRs : Hid (SlI W1 W1.heap.size A' row) := hrs
          have hrow101 := hr101 row (List.mem_of_getElem? hrow)
          have hrow1 := (HRow.out row (List.mem_of_getElem? hrow)).1
          have HCl := Lib.hid (HCells.out row (List.mem_of_getElem? hrow))
          have HRw := Lib.hid hrow
          have hgd : p.getD t [] = row := by rw [List.getD_eq_getElem?_getD, hrow]; rfl
          have HGd := Lib.hid hgd
          clear hrs hrc hrow hgd
          have HV := Lib.hid (values_any A' row.length C' wo)
          go_upto_region 17 with fail
          go_wp2_with fail
          refine HV.out.mono ?_
          rintro e w3 ⟨rfl, rfl⟩
          clear HV hrc2
          have hcl6 := colsOf_len row
          have hal := (Below.refl wo.heap.size wo).alloc (Nat.le_refl _) (.cells #[.slice A' row.length C'] 22)
          have hb3 := HB3.out.trans (hal.mono HB3.out.size)
          have HSo := Lib.hid (sorted_any wo.heap.size A' C' row (by omega) (wo.alloc (.cells #[.slice A' row.length C'] 22)) (by simp) (cell_new rfl rfl rfl) ((HRs.out.below hb3).more hb3.size))
          have HO4 := Lib.hid (HO3.out.to hal)
          have HB4 := Lib.hid hb3
          clear hal hb3
          go_wp2_with fail
          refine HSo.out.mono ?_
          rintro e w4 ⟨v, rfl, hown, hb4⟩
          clear HSo
          obtain ⟨g, cap, rfl⟩ : ∃ g cap, v = .slice (some ⟨g, 0, none⟩) (sortZ row).length cap := by
            obtain ⟨a, c', rfl⟩ := ownI_form hown
            obtain ⟨g, rfl, -⟩ := own_pos hown (by rw [sortZ_len]; omega)
            exact ⟨g, c', rfl⟩
          have hO5 := HO4.out.add (o := ⟨3, 1, (sortZ row).length, .slice (some ⟨g, 0, none⟩) (sortZ row).length cap, intV (sortZ row)⟩) hb4 HB4.out.size hown
          have hcp := compact_any g cap W1.heap.size (sortZ row) w4 hO5.head (by rw [sortZ_len]; omega)
          rw [cols_eq HCl.out] at hcp
          have HCp := Lib.hid hcp
          have HO5 := Lib.hid hO5
          have hb45 := HB4.out.trans (hb4.mono HB4.out.size)
          have HB5 : Hid (∀ w5, w4.grownBy w5 (some g) → Below W1.heap.size W1 w5) := fun w5 hg5 => hb45.grown hg5 hb45.size (fun k e => by cases e; exact (World.ownsRow.lt hO5.head g rfl).1)
          clear hown hb4 hO5 hcp hb45 HO4 HB4
          go_wp2_with fail
          refine HCp.out.mono ?_
          rintro e w5 ⟨rfl, hown5, hg5⟩
          have hO6 := HO5.out.turn (o' := pxC g cap (colsOf row)) hg5 hown5 (fun k hk => Or.inl hk)
          have HX : Hid (Owns w5 W1.heap.size [pxO (.slice a8 (progTo p lim t 0).length c8) (progTo p lim t 0), pxW wb F, pxC g cap (colsOf row)] ∧ Below W1.heap.size W1 w5) := ⟨hO6.perm ((List.Perm.swap _ _ _).trans (List.Perm.cons _ (List.Perm.swap _ _ _))), HB5.out w5 hg5⟩
          clear hown5 hg5 hO6 HCp HO5 HB5
          go_upto_region 18 with fail
          refine abs_world (Q := fun W => Code.wp _ _ _ _ W) (F := fun W => Owns W W1.heap.size [pxO (.slice a8 (progTo p lim t 0).length c8) (progTo p lim t 0), pxW wb F, pxC g cap (colsOf row)] ∧ Below W1.heap.size W1 W) _ HX.out ?_
          clear HX HO3 HB3
          rintro W6 ⟨hO6, hb6⟩
          have HO6 := Lib.hid hO6
          have HB6 := Lib.hid hb6
          clear hO6 hb6
          go_wp2
          go_loopw [8, 53] (fun s8 s53 wr => ∃ j : Nat, j ≤ (colsOf row).length ∧ s53 = .int .i64 (j : Int) ∧ ∃ F : Nat → Bool, Hid (Owns wr W1.heap.size [pxO s8 (progTo p lim t j), pxW wb F, pxC g cap (colsOf row)]) ∧ Hid (∀ k, 1 ≤ k → k ≤ 6 → F k = wayQ p t j k) ∧ Hid ((progTo p lim t j).length ≤ 2000) ∧ Hid (Below W1.heap.size W1 wr)) (fun _ s53 _ => (colsOf row).length - (intOf s53).toNat)
          case atStart => exact ⟨0, Nat.zero_le _, rfl, F, HO6.out, HF3.out, HL3.out, HB6.out⟩
          case round =>
            obtain ⟨j, hj, rfl, G, HO, HF, HL, HB⟩ := hrel
            clear HO6 HB6 HF3 HL3
            obtain ⟨wq, hwq⟩ : ∃ wq : World, wq = wr := ⟨_, rfl⟩
            rw [← hwq] at HO HB ⊢
            clear hwq
            obtain ⟨a9, c9, rfl⟩ := pxO_form HO.out
            by_cases hjl : j < (colsOf row).length
            case pos =>
              have hx : (colsOf row)[j]? = some (colsOf row)[j] := List.getElem?_eq_getElem hjl
              obtain ⟨x, hxe⟩ : ∃ x, x = (colsOf row)[j] := ⟨_, rfl⟩
              rw [← hxe] at hx
              have hx16 := (colsOf_mem.1 (List.mem_of_getElem? hx)).1
              obtain ⟨cc, hcc⟩ : ∃ cc : Nat, x = (cc : Int) := ⟨x.toNat, by omega⟩
              subst hcc
              have h1c : 1 ≤ cc := by omega
              have h6c : cc ≤ 6 := by omega
              have hcx := pxC_at (HO.out.all (pxC g cap (colsOf row)) (by simp)) hx
              obtain ⟨hw1, hw2, hw3, hw4⟩ := pxW_at (HO.out.all (pxW wb G) (by simp)) (k := cc) (by omega)
              have HN := Lib.hid (next_any wb w.heap.size A' C' row cc h6c lim (G cc) wq ((HRs.out.below HB.out).more hw3) hrow101 (by omega) hw1 hw2 (HLb1.out wq HB.out) (Nat.lt_of_lt_of_le HZ1.out hw3))
              have HX := Lib.hid hx
              clear hw1 hw2 hw3 hw4 hxe hx hx16
              go_wp2_with fail
              refine HN.out.mono ?_
              rintro e w6 ⟨g6, rfl, hsl6, hb6⟩
              clear HN hcx
              have hO7 := pxW_set (HO.out.perm (List.Perm.swap _ _ _)) cc (!(G cc))
              have hb6' : Below (wq.setCell ⟨wb, cc, none⟩ (.bool (!(G cc)))).heap.size (wq.setCell ⟨wb, cc, none⟩ (.bool (!(G cc)))) w6 := by simpa using hb6
              have hO8 := (hO7.to hb6').perm (List.Perm.swap _ _ _)
              have hwbl := (pxW_at hO7.head (k := cc) (by omega)).2.2.1
              have hbx : Below W1.heap.size W1 w6 := (HB.out.setCell (p := ⟨wb, cc, none⟩) hwbl _).trans (hb6.mono HB.out.size)
              have hlo := HL.out
              obtain ⟨A9, c10, w9, hrun, hown9, hb9⟩ := owns_app hO8 hbx.size hsl6 (by rw [passI_len]; omega) row.length
              rw [passI_len] at hrun hown9
              have hGx : G cc = oddB (p.take t) cc := (HF.out cc h1c h6c).trans (wayQ_here (by rw [HGd.out]; exact HX.out))
              have hpn := progTo_next (p := p) (lim := lim) (t := t) (j := j) (c := (cc : Int)) (by rw [HGd.out]; exact HX.out)
              rw [HGd.out, ← hGx] at hpn
              rw [← hpn] at hown9
              obtain ⟨M, hM⟩ : ∃ M, M = (progTo p lim t j).length + row.length := ⟨_, rfl⟩
              have hMl : M = (progTo p lim t (j + 1)).length := by rw [hM, hpn, List.length_append, passI_len]
              rw [← hM] at hrun hown9
              have HO9 := Lib.hid hown9
              have HB9 := Lib.hid (hbx.trans hb9)
              have HF9 : Hid (∀ k, 1 ≤ k → k ≤ 6 → (if k = cc then !(G cc) else G k) = wayQ p t (j + 1) k) := fun k hk1 hk6 => by
                rw [wayQ_next (by rw [HGd.out]; exact HX.out) k, hGx]
                split
                · rfl
                · exact HF.out k hk1 hk6
              have HM := Lib.hid hMl
              have HPr := Lib.hid (HPre.out t (j + 1) hlt)
              clear hO7 hO8 hb6 hb6' hwbl hbx hsl6 hown9 hb9 hGx hpn hM hMl HO HF HL HB HX hlo
              by_cases hbig : 2000 < M
              case pos =>
                have d1 : decide (2000 < M) = true := decide_eq_true hbig
                have d2 : decide ((2000 : Int) < (M : Int)) = true := decide_eq_true (by omega)
                have HQ := Lib.hid (HMany.out (by have := HM.out; have := HPr.out; omega))
                have HE := Lib.hid (HE1.out w9 HB9.out)
                clear hbig HO9 HF9 HPr
                go_wp2_with (at_builtin; refine wpList_append_run _ rfl _ _ _ _ rfl _ _ (by rfl) (by rfl) hrun ?_)
                go_ret2
                exact PlPost.none HQ.out HE.out
              case neg =>
                have d1 : decide (2000 < M) = false := decide_eq_false hbig
                have d2 : decide ((2000 : Int) < (M : Int)) = false := decide_eq_false (by omega)
                have HL9 : Hid ((progTo p lim t (j + 1)).length ≤ 2000) := by show _ ≤ _; rw [← HM.out]; omega
                clear hbig HPr HM
                go_wp2_with (at_builtin; refine wpList_append_run _ rfl _ _ _ _ rfl _ _ (by rfl) (by rfl) hrun ?_)
                go_roundw
                case rel => exact ⟨j + 1, by omega, by go_num, fun k => if k = cc then !(G cc) else G k, HO9.out, HF9.out, HL9.out, HB9.out⟩
                case measure => simp [intOf]; omega
            case neg =>
              obtain rfl : j = (colsOf row).length := by omega
              have HO9 : Hid (Owns wq W1.heap.size [pxO (.slice a9 (progTo p lim t (colsOf row).length).length c9) (progTo p lim (t + 1) 0), pxW wb G]) := by
                have h := HO.out.sub (L' := [pxO (.slice a9 (progTo p lim t (colsOf row).length).length c9) (progTo p lim t (colsOf row).length), pxW wb G]) (List.Sublist.cons_cons _ (List.Sublist.cons_cons _ (List.nil_sublist _)))
                have e := progTo_row p lim t
                rw [HGd.out] at e
                rw [← e]
                exact h
              have HF9 : Hid (∀ k, 1 ≤ k → k ≤ 6 → G k = wayQ p (t + 1) 0 k) := fun k h1 h6 => by
                have e := wayQ_row HRw.out k h1 h6
                rw [HGd.out] at e
                exact (HF.out k h1 h6).trans e
              have HL9 : Hid ((progTo p lim (t + 1) 0).length ≤ 2000) := by
                have e := progTo_row p lim t
                rw [HGd.out] at e
                show _ ≤ _
                rw [← e]
                exact HL.out
              clear HO HF HL hj hjl
              go_wp2
              go_roundw
              case rel => exact ⟨t + 1, by omega, by go_num, G, HO9.out, HF9.out, HL9.out, HB.out⟩
              case measure => simp [intOf]; omega
        case neg =>
          obtain rfl : t = p.length := by omega
          clear ht hlt HF3
          rw [progTo_all] at HO3 HL3 ⊢
          obtain ⟨L, hL⟩ : ∃ L, L = progI p lim := ⟨_, rfl⟩
          rw [← hL] at HO3 HL3 HOk HWf ⊢
          obtain ⟨rs, hrs⟩ : ∃ rs, rs = runS bed0 L := ⟨_, rfl⟩
          have hll := HL3.out
          have hrn := brun_any bed0 bedP0 ⟨fun h hh => (by cases hh), fun h hh => (by cases hh)⟩ ⟨by simp [bed0], by simp [bed0], by simp [bed0]⟩ L (by omega) (fun _ _ => by simp only [bed0, List.length_nil]; omega) HWf.out a8 c8 wo (bedAt0 _ _) (pxO_sl HO3.out)
          rw [← hrs] at hrn
          have HRn : Hid (Calls Tryz.prog 16 #[.agg #[.int .i64 0, .slice none 0 0, .slice none 0 0, .slice none 0 0], .slice a8 L.length c8] wo fun e w' => ∃ (s : BedS) (q : BedP), e = .returned (.tuple #[.agg #[.int .i64 s.rack, .slice q.ah s.hooks.length q.ch, .slice q.af s.feeds.length q.cf, .slice q.am s.made.length q.cm], .int .i64 rs.2.1, .int .i64 rs.2.2]) ∧ Below wo.heap.size wo w') := Calls.mono hrn fun e w' ⟨q, he, _, hb⟩ => ⟨rs.1, q, he, hb⟩
          have HOk2 : Hid (r = if rs.2.2 ≠ 0 then ([], 4) else (L, 0)) := by
            show r = _
            rw [HOk.out, if_neg (by omega), hrs]
          have HSl := Lib.hid (pxO_sl HO3.out)
          obtain ⟨y, hy⟩ : ∃ y, y = rs.2.2 := ⟨_, rfl⟩
          obtain ⟨z, hz⟩ : ∃ z, z = rs.2.1 := ⟨_, rfl⟩
          rw [← hy, ← hz] at HRn
          rw [← hy] at HOk2
          clear hL hrs hll hrn HO3 HL3 hy hz HOk HMany HPre HWf
          go_upto_region 26 with ((go_at_call 16; refine HRn.out.mono ?_; rintro e w7 ⟨s7, q7, rfl, hb7⟩))
          refine abs_world (Q := fun W => Code.wp _ _ _ _ W) (F := fun W => Below wo.heap.size wo W) _ (hb7.alloc hb7.size _) ?_
          clear hb7 HRn
          intro W8 hb8
          have HS8 := Lib.hid ((HSl.out.below hb8).more hb8.size)
          have HE8 := Lib.hid (HE1.out W8 (HB3.out.trans (hb8.mono HB3.out.size)))
          clear hb8 HSl HB3
          by_cases hy0 : y = 0
          case pos =>
            have d1 : (y != 0) = false := by simp [hy0]
            have HQ : Hid (r = (L, 0)) := by show r = _; rw [HOk2.out, if_neg (by simpa using hy0)]
            clear hy0 HOk2
            go_wp2
            go_ret2
            exact PlPost.some_ HQ.out HS8.out HE8.out
          case neg =>
            have d1 : (y != 0) = true := by simpa using hy0
            have HQ : Hid (r = ([], 4)) := by show r = _; rw [HOk2.out, if_pos hy0]
            clear hy0 HOk2
            go_wp2
            go_ret2
            exact PlPost.none HQ.out HE8.out
end Go.Proofs.YthedmiilkeclaaaGreat
namespace Go.Proofs.YthedmiilkeclaaaGreat
open Go.RowKit Go.Shelf Go.Sort
open Go.Proofs.YthedmiilkeclaaaGreat.I34
set_option maxRecDepth 100000

abbrev ex1 : List (List Int) := [[1, 2, 2, 2, 1]]
abbrev ex2 : List (List Int) := [[1, 2, 2, 2, 1], [1, 2, 2, 2, 1]]
theorem al_fl : flR ex1 0 1 = ([(0, 4)], 0) := by decide +kernel
theorem al_lon : lonR ex1 = (3, 0) := by decide +kernel
theorem al_bin : binR ex1 3 = (0, 0) := by decide +kernel
theorem al_p1 : (planE ex1 1).2 = 0 ∧ (planE ex1 1).1.length = 12 ∧ ((planE ex1 1).1[4]?.map fun i => (i.op, i.at_)) = some (4, 2) := by decide +kernel
theorem al_p2 : (planE ex2 2).2 = 0 ∧ (planE ex2 2).1.length = 22 ∧ ((planE ex2 2).1[5]?.map fun i => (i.op, i.at_)) = some (4, 3) ∧ ((planE ex2 2).1[15]?.map fun i => (i.op, i.at_)) = some (4, 1) := by decide +kernel
theorem ex1_len : ∀ row ∈ ex1, row.length ≤ 4611686018427387904 := fun row h => by rw [List.mem_singleton.1 h]; decide
theorem ex2_len : ∀ row ∈ ex2, row.length ≤ 4611686018427387904 := fun row h => by
  rcases List.mem_cons.1 h with e | h
  · rw [e]; decide
  · rw [List.mem_singleton.1 h]; decide
/-- The example as it lies. -/
structure ExAt (W : World) (B g h : Nat) : Prop where
  row : W.ownsRow B 22 1 (.slice (some ⟨g, 0, none⟩) 1 1) 1 [.slice (some ⟨h, 0, none⟩) 5 5]
  lo : B ≤ h
  lt : h < g
  cs : ∀ j z, ([1, 2, 2, 2, 1] : List Int)[j]? = some z → W.cell? ⟨h, j, none⟩ = some (.int .i64 z)
theorem ExAt.gl {W : World} {B g h : Nat} (x : ExAt W B g h) : g < W.heap.size := (World.ownsRow.lt x.row g rfl).2
theorem ExAt.to {W W' : World} {B g h : Nat} (x : ExAt W B g h) (hb : Below W.heap.size W W') : ExAt W' B g h :=
  ⟨own_below x.row hb (Nat.le_refl _), x.lo, x.lt, fun j z hz => (bcell hb (by have := x.gl; have := x.lt; omega) _).trans (x.cs j z hz)⟩
theorem ExAt.sl {W : World} {B g h : Nat} (x : ExAt W B g h) (B' : Nat) (hB : h < B') : SlI W B' (some ⟨h, 0, none⟩) [1, 2, 2, 2, 1] := fun _ => ⟨h, 0, rfl, hB, fun j z hz => by rw [Nat.zero_add]; exact x.cs j z hz⟩
theorem ExAt.rows {W : World} {B g h : Nat} (x : ExAt W B g h) : SlRows W W.heap.size (some ⟨g, 0, none⟩) ex1 := fun _ => by
  refine ⟨g, 0, rfl, x.gl, fun j row hr => ?_⟩
  have hj : j = 0 := by have := (List.getElem?_eq_some_iff.1 hr).1; simp at this; exact this
  subst hj
  have e : row = [1, 2, 2, 2, 1] := by simpa using hr.symm
  subst e
  exact ⟨_, 5, World.ownsRow.cellAt x.row 0 (by omega), by decide, x.sl _ (by have := x.gl; have := x.lt; omega)⟩
theorem ExAt.rows2 {W : World} {A : Option Addr} {c B h h' : Nat} (hr : W.ownsRow B 22 1 (.slice A 2 c) 2 [.slice (some ⟨h, 0, none⟩) 5 5, .slice (some ⟨h', 0, none⟩) 5 5]) (x : SlI W W.heap.size (some ⟨h, 0, none⟩) [1, 2, 2, 2, 1]) (x' : SlI W W.heap.size (some ⟨h', 0, none⟩) [1, 2, 2, 2, 1]) : SlRows W W.heap.size A ex2 := fun _ => by
  obtain ⟨b, rfl, h1, h2, h3⟩ := own_pos hr (by omega)
  refine ⟨b, 0, rfl, h2, fun j row hr => ?_⟩
  have hj : j < 2 := by have := (List.getElem?_eq_some_iff.1 hr).1; simpa using this
  rcases (by omega : j = 0 ∨ j = 1) with rfl | rfl
  · have e : row = [1, 2, 2, 2, 1] := by simpa using hr.symm
    subst e
    exact ⟨_, 5, h3 0 (by omega), by decide, x⟩
  · have e : row = [1, 2, 2, 2, 1] := by simpa using hr.symm
    subst e
    exact ⟨_, 5, h3 1 (by omega), by decide, x'⟩
theorem info_row : (Tryz.prog.info? 22).map (fun i => (i.zero, i.size, i.bytes)) = some (some (.slice none 0 0), 1, 24) := by kernel_rfl
theorem ex_app {W : World} {B g h B2 g2 h2 : Nat} (x : ExAt W B g h) (y : ExAt W B2 g2 h2) (hB : g < B2) :
    ∃ A' c' w', (Builtin.append_ #[23, 23] 23 #[.slice (some ⟨g, 0, none⟩) 1 1, .slice (some ⟨g2, 0, none⟩) 1 1]).run Tryz.prog W = .ok (.slice A' 2 c') w' ∧ SlRows w' w'.heap.size A' ex2 ∧ Below B W w' := by
  obtain ⟨ii, hii, hii0, hii1, hii2⟩ := info_parts info_row
  have hgl := x.gl
  have hgl2 := y.gl
  have hxl := x.lt; have hyl := y.lt; have hxo := x.lo; have hyo := y.lo
  obtain ⟨A', c', w', hr, ho, hg, -⟩ := run_app_any Tryz.underlying23 hii hii0 hii1 hii2 rfl (by decide) x.row (some ⟨g2, 0, none⟩) 1 1 [.slice (some ⟨h2, 0, none⟩) 5 5] rfl (fun e => by cases e) (fun ad e j u hu => by
    cases e
    have hj : j = 0 := by have := (List.getElem?_eq_some_iff.1 hu).1; simp at this; exact this
    subst hj
    have e : u = .slice (some ⟨h2, 0, none⟩) 5 5 := by simpa using hu.symm
    subst e
    rw [addr_plus]
    exact World.ownsRow.cellAt y.row 0 (by omega)) (by intro u hu; rw [List.mem_singleton.1 hu]; rfl) (by unfold maxLen; omega) (by omega) (by omega)
  have hk : ∀ b, b ≠ g → b < W.heap.size → ∀ o, w'.cell? ⟨b, o, none⟩ = W.cell? ⟨b, o, none⟩ := fun b hne hb o => World.cell?_of_block (a := ⟨b, o, none⟩) (hg.block b hb (fun e => hne (Option.some.inj (show some b = some g from e))))
  refine ⟨A', c', w', hr, ?_, Below.of_grown hg (by omega) (fun k e => (World.ownsRow.lt x.row k e).1)⟩
  refine ExAt.rows2 ho (fun _ => ⟨h, 0, rfl, by have := hg.size; omega, fun j z hz => ?_⟩) (fun _ => ⟨h2, 0, rfl, by have := hg.size; omega, fun j z hz => ?_⟩)
  · rw [Nat.zero_add, hk h (by omega) (by omega)]; exact x.cs j z hz
  · rw [Nat.zero_add, hk h2 (by omega) (by omega)]; exact y.cs j z hz
set_option maxHeartbeats 1000000 in
theorem ex_any (w : World) : Calls Tryz.prog 8 #[] w fun e w' => ∃ g h, e = .returned (.slice (some ⟨g, 0, none⟩) 1 1) ∧ ExAt w' w.heap.size g h ∧ Below w.heap.size w w' := by
  have HX : Hid (ExAt ((w.alloc (.cells #[.int .i64 1, .int .i64 2, .int .i64 2, .int .i64 2, .int .i64 1] 3)).alloc (.cells #[.slice (some ⟨w.heap.size, 0, none⟩) 5 5] 22)) w.heap.size (w.heap.size + 1) w.heap.size ∧ Below w.heap.size w ((w.alloc (.cells #[.int .i64 1, .int .i64 2, .int .i64 2, .int .i64 2, .int .i64 1] 3)).alloc (.cells #[.slice (some ⟨w.heap.size, 0, none⟩) 5 5] 22))) := by
    have hb1 := (Below.refl w.heap.size w).alloc (Nat.le_refl _) (.cells #[.int .i64 1, .int .i64 2, .int .i64 2, .int .i64 2, .int .i64 1] 3)
    refine ⟨⟨?_, Nat.le_refl _, by omega, fun j z hz => ?_⟩, hb1.alloc (by simp) _⟩
    · have h := World.ownsRow_lit (e := 22) (base := w.heap.size) (size := 1) (w.alloc (.cells #[.int .i64 1, .int .i64 2, .int .i64 2, .int .i64 2, .int .i64 1] 3)) #[.slice (some ⟨w.heap.size, 0, none⟩) 5 5] 1 (by simp) (by decide) rfl
      rw [World.size_alloc] at h
      exact h
    · have hj := (List.getElem?_eq_some_iff.1 hz).1
      have hc : (w.alloc (.cells #[.int .i64 1, .int .i64 2, .int .i64 2, .int .i64 2, .int .i64 1] 3)).cell? ⟨w.heap.size, j, none⟩ = some (.int .i64 z) := by
        refine cell_new rfl rfl ?_
        have hj5 : j < 5 := hj
        rcases (by omega : j = 0 ∨ j = 1 ∨ j = 2 ∨ j = 3 ∨ j = 4) with rfl | rfl | rfl | rfl | rfl <;> (simp at hz; subst hz; rfl)
      exact (bcell ((Below.refl _ _).alloc (Nat.le_refl _) _) (by simp) _).trans hc
  go_enter Tryz.func8, Tryz.ntmps8
  go_wp2
  go_ret
  exact ⟨_, _, rfl, HX.out.1, HX.out.2⟩
theorem al_floats (A : Option Addr) (c : Nat) (W : World) (h : SlRows W W.heap.size A ex1) : Calls Tryz.prog 7 #[.slice A 1 c, .int .i64 0, .int .i64 1] W fun e w' => ∃ a c', e = .returned (.tuple #[.slice a 1 c', .int .i64 0]) ∧ SlP w' w'.heap.size a [(0, 4)] ∧ Below W.heap.size W w' := by
  have h1 := Floats_any A c ex1 0 1 W h ex1_len
  rw [al_fl] at h1
  refine Calls.mono h1 ?_
  rintro e w' ⟨v, he, ho, hb⟩
  obtain ⟨a, c', rfl⟩ := own_form ho
  exact ⟨a, c', he, SlP.of_own ho, hb⟩
theorem al_longest (A : Option Addr) (c : Nat) (W : World) (h : SlRows W W.heap.size A ex1) : Calls Tryz.prog 33 #[.slice A 1 c] W fun e w' => e = .returned (.tuple #[.int .i64 3, .int .i64 0]) ∧ Below W.heap.size W w' := by
  have h1 := Longest_any A c ex1 W h ex1_len
  rw [al_lon] at h1
  exact h1
theorem al_bind (A : Option Addr) (c : Nat) (W : World) (h : SlRows W W.heap.size A ex1) : Calls Tryz.prog 9 #[.slice A 1 c, .int .i64 3] W fun e w' => e = .returned (.tuple #[.int .i64 0, .int .i64 0]) ∧ Below W.heap.size W w' := by
  have h1 := Bindings_any A c ex1 3 W h ex1_len
  rw [al_bin] at h1
  exact h1
/-- An instruction that is asked for. -/
def InsIs (W : World) (a : Option Addr) (k : Nat) (op at_ : Int) : Prop := ∃ b off, a = some ⟨b, off, none⟩ ∧ W.cell? ⟨b, off + k * 7, none⟩ = some (.int .u8 op) ∧ W.cell? ⟨b, off + k * 7 + 3, none⟩ = some (.int .i64 at_)
theorem insIs {W : World} {B : Nat} {a : Option Addr} {l : List Ins} {k : Nat} {op at_ : Int} (h : SlX W B a l) (hk : (l[k]?.map fun i => (i.op, i.at_)) = some (op, at_)) : InsIs W a k op at_ := by
  obtain ⟨i, hi, he⟩ := Option.map_eq_some_iff.1 hk
  obtain ⟨b, off, i', hA, -, hz, hc⟩ := h.at_ (List.getElem?_eq_some_iff.1 hi).1
  rw [hi] at hz; cases hz
  have e1 : i.op = op := congrArg Prod.fst he
  have e2 : i.at_ = at_ := congrArg Prod.snd he
  obtain ⟨c0, -, -, c3, -⟩ := hc
  exact ⟨b, off, hA, by rw [c0, e1], by rw [c3, e2]⟩
theorem InsIs.to {W W' : World} {a : Option Addr} {k : Nat} {op at_ : Int} (h : InsIs W a k op at_) (hb : Below W.heap.size W W') : InsIs W' a k op at_ := by
  obtain ⟨b, off, e, h1, h2⟩ := h
  exact ⟨b, off, e, (bcell hb (lt_of_cell h1) _).trans h1, (bcell hb (lt_of_cell h2) _).trans h2⟩
theorem al_plan1 (A : Option Addr) (c : Nat) (W : World) (h : SlRows W W.heap.size A ex1) : Calls Tryz.prog 5 #[.slice A 1 c, .int .i64 1] W fun e w' => ∃ a c', e = .returned (.tuple #[.slice a 12 c', .int .i64 0]) ∧ InsIs w' a 4 4 2 ∧ Below W.heap.size W w' := by
  have h1 := plan_any A c ex1 1 W h ex1_len
  obtain ⟨e1, e2, e3⟩ := al_p1
  refine Calls.mono h1 ?_
  rintro e w' ⟨a, c', he, hs, hb⟩
  rw [e1, e2] at he
  exact ⟨a, c', he, insIs hs e3, hb⟩
theorem al_plan2 (A : Option Addr) (c : Nat) (W : World) (h : SlRows W W.heap.size A ex2) : Calls Tryz.prog 5 #[.slice A 2 c, .int .i64 2] W fun e w' => ∃ a c', e = .returned (.tuple #[.slice a 22 c', .int .i64 0]) ∧ InsIs w' a 5 4 3 ∧ InsIs w' a 15 4 1 ∧ Below W.heap.size W w' := by
  have h1 := plan_any A c ex2 2 W h ex2_len
  obtain ⟨e1, e2, e3, e4⟩ := al_p2
  refine Calls.mono h1 ?_
  rintro e w' ⟨a, c', he, hs, hb⟩
  rw [e1, e2] at he
  exact ⟨a, c', he, insIs hs e3, insIs hs e4, hb⟩
theorem SlP.lit (W : World) (x y : Nat) : SlP (W.alloc (.cells #[.int .i64 (x : Int), .int .i64 (y : Int)] 75)) (W.alloc (.cells #[.int .i64 (x : Int), .int .i64 (y : Int)] 75)).heap.size (some ⟨W.heap.size, 0, none⟩) [(x, y)] := fun _ => by
  refine ⟨W.heap.size, rfl, by simp, fun j f hf => ?_⟩
  have hj : j = 0 := by have := (List.getElem?_eq_some_iff.1 hf).1; simp at this; exact this
  subst hj
  have e : f = (x, y) := by simpa using hf.symm
  subst e
  exact ⟨cell_new rfl rfl rfl, cell_new rfl rfl rfl⟩
set_option maxHeartbeats 16000000 in
theorem alive34_any (w : World) : Calls Tryz.prog 11 #[] w fun e w' => e = .returned (.bool true) ∧ Below w.heap.size w w' := by
  go_enter Tryz.func11, Tryz.ntmps11
  go_wp2_with fail
  refine (ex_any _).mono ?_
  rintro e w1 ⟨g1, h1, rfl, hx1, hb1⟩
  go_wp2_with fail
  refine (al_floats _ 1 w1 hx1.rows).mono ?_
  rintro e w2 ⟨a1, c1, rfl, hp2, hb2⟩
  have HB := Lib.hid (hb1.trans (hb2.mono hb1.size))
  have HP := Lib.hid hp2
  clear hb1 hb2 hx1 hp2
  go_upto_region 2 with fail
  refine abs_world (Q := fun W => Code.wp _ _ _ _ W) (F := fun W => Below w.heap.size w W ∧ SlP W W.heap.size a1 [(0, 4)]) _ ⟨HB.out, HP.out⟩ ?_
  clear HB HP
  rintro W2 ⟨hb2, hp2⟩
  have HB2 := Lib.hid hb2
  have HP2 := Lib.hid hp2
  clear hb2 hp2
  go_wp2_with fail
  refine (ex_any _).mono ?_
  rintro e w3 ⟨g3, h3, rfl, hx3, hb3⟩
  go_wp2_with fail
  refine (al_longest _ 1 w3 hx3.rows).mono ?_
  rintro e w4 ⟨rfl, hb4⟩
  have hbb := hb3.trans (hb4.mono hb3.size)
  have HX : Hid (Below w.heap.size w w4 ∧ SlP w4 w4.heap.size a1 [(0, 4)]) := ⟨HB2.out.trans (hbb.mono HB2.out.size), (HP2.out.below hbb).more hbb.size⟩
  clear hb3 hb4 hx3 hbb HB2 HP2
  go_upto_region 3 with fail
  refine abs_world (Q := fun W => Code.wp _ _ _ _ W) (F := fun W => Below w.heap.size w W ∧ SlP W W.heap.size a1 [(0, 4)]) _ HX.out ?_
  clear HX
  rintro W4 ⟨hb4, hp4⟩
  have HB4 := Lib.hid hb4
  have HP4 := Lib.hid hp4
  clear hb4 hp4
  go_wp2_with fail
  refine (ex_any _).mono ?_
  rintro e w5 ⟨g5, h5, rfl, hx5, hb5⟩
  go_wp2_with fail
  refine (al_plan1 _ 1 w5 hx5.rows).mono ?_
  rintro e w6 ⟨a5, c5, rfl, hi6, hb6⟩
  have hbb := hb5.trans (hb6.mono hb5.size)
  have HX : Hid (Below w.heap.size w w6 ∧ SlP w6 w6.heap.size a1 [(0, 4)] ∧ InsIs w6 a5 4 4 2) := ⟨HB4.out.trans (hbb.mono HB4.out.size), (HP4.out.below hbb).more hbb.size, hi6⟩
  clear hb5 hb6 hx5 hbb hi6 HB4 HP4
  go_upto_region 4 with fail
  refine abs_world (Q := fun W => Code.wp _ _ _ _ W) (F := fun W => Below w.heap.size w W ∧ SlP W W.heap.size a1 [(0, 4)] ∧ InsIs W a5 4 4 2) _ HX.out ?_
  clear HX
  rintro W6 ⟨hb6, hp6, hi6⟩
  have HB6 := Lib.hid hb6
  have HP6 := Lib.hid hp6
  have HI6 := Lib.hid hi6
  clear hb6 hp6 hi6
  go_wp2_with fail
  refine (ex_any _).mono ?_
  rintro e w7 ⟨g7, h7, rfl, hx7, hb7⟩
  go_wp2_with fail
  refine (ex_any _).mono ?_
  rintro e w8 ⟨g8, h8, rfl, hx8, hb8⟩
  obtain ⟨A9, c9, w9, hrun, hs9, hb9⟩ := ex_app (hx7.to hb8) hx8 hx7.gl
  have hb79 : Below W6.heap.size W6 w9 := hb7.trans ((hb8.mono hb7.size).trans hb9)
  clear hx7 hb7 hx8 hb8 hb9
  have HS9 := Lib.hid hs9
  have HB79 := Lib.hid hb79
  clear hs9 hb79
  go_wp2_with (at_builtin; refine wpList_append_run _ rfl _ _ _ _ rfl _ _ (by rfl) (by rfl) hrun ?_)
  refine (al_plan2 A9 c9 w9 HS9.out).mono ?_
  rintro e w10 ⟨a7, c7, rfl, hi10, hj10, hb10⟩
  have hbb := HB79.out.trans (hb10.mono HB79.out.size)
  have HX : Hid (Below w.heap.size w w10 ∧ SlP w10 w10.heap.size a1 [(0, 4)] ∧ InsIs w10 a5 4 4 2 ∧ InsIs w10 a7 5 4 3 ∧ InsIs w10 a7 15 4 1) := ⟨HB6.out.trans (hbb.mono HB6.out.size), (HP6.out.below hbb).more hbb.size, HI6.out.to hbb, hi10, hj10⟩
  clear hrun HS9 HB79 hi10 hj10 hb10 hbb HB6 HP6 HI6
  go_upto_region 5 with fail
  refine abs_world (Q := fun W => Code.wp _ _ _ _ W) (F := fun W => Below w.heap.size w W ∧ SlP W W.heap.size a1 [(0, 4)] ∧ InsIs W a5 4 4 2 ∧ InsIs W a7 5 4 3 ∧ InsIs W a7 15 4 1) _ HX.out ?_
  clear HX
  rintro W10 ⟨hb10, hp10, hi10, hj10, hk10⟩
  have HX : Hid (Below w.heap.size w W10 ∧ SlP W10 W10.heap.size a1 [(0, 4)] ∧ InsIs W10 a5 4 4 2 ∧ InsIs W10 a7 5 4 3 ∧ InsIs W10 a7 15 4 1) := ⟨hb10, hp10, hi10, hj10, hk10⟩
  clear hb10 hp10 hi10 hj10 hk10
  go_wp2_with fail
  refine (ex_any _).mono ?_
  rintro e w11 ⟨g11, h11, rfl, hx11, hb11⟩
  go_wp2_with fail
  refine (al_bind _ 1 w11 hx11.rows).mono ?_
  rintro e w12 ⟨rfl, hb12⟩
  have hbb := hb11.trans (hb12.mono hb11.size)
  have HY : Hid (Below w.heap.size w w12 ∧ SlP w12 w12.heap.size a1 [(0, 4)] ∧ InsIs w12 a5 4 4 2 ∧ InsIs w12 a7 5 4 3 ∧ InsIs w12 a7 15 4 1) := ⟨HX.out.1.trans (hbb.mono HX.out.1.size), (HX.out.2.1.below hbb).more hbb.size, HX.out.2.2.1.to hbb, HX.out.2.2.2.1.to hbb, HX.out.2.2.2.2.to hbb⟩
  clear hx11 hb11 hb12 hbb HX
  go_upto_region 8 with fail
  refine abs_world (Q := fun W => Code.wp _ _ _ _ W) (F := fun W => Below w.heap.size w W ∧ SlP W W.heap.size a1 [(0, 4)] ∧ InsIs W a5 4 4 2 ∧ InsIs W a7 5 4 3 ∧ InsIs W a7 15 4 1) _ HY.out ?_
  clear HY
  rintro W12 ⟨hb12, hp12, hi12, hj12, hk12⟩
  have hal := (Below.refl W12.heap.size W12).alloc (Nat.le_refl _) (.cells #[.int .i64 0, .int .i64 4] 75)
  have hsp : Calls Tryz.prog 34 #[.slice a1 1 c1, .slice (some ⟨W12.heap.size, 0, none⟩) 1 1] (W12.alloc (.cells #[.int .i64 0, .int .i64 4] 75)) fun e w' => e = .returned (.bool true) ∧ Below (W12.alloc (.cells #[.int .i64 0, .int .i64 4] 75)).heap.size (W12.alloc (.cells #[.int .i64 0, .int .i64 4] 75)) w' :=
    samePairs_any a1 (some ⟨W12.heap.size, 0, none⟩) c1 1 [(0, 4)] (W12.alloc (.cells #[.int .i64 0, .int .i64 4] 75)) ((hp12.below hal).more hal.size) (SlP.lit W12 0 4) (by decide)
  have HSp := Lib.hid hsp
  have HK : Hid (∀ W, Below (W12.alloc (.cells #[.int .i64 0, .int .i64 4] 75)).heap.size (W12.alloc (.cells #[.int .i64 0, .int .i64 4] 75)) W → Below w.heap.size w W ∧ InsIs W a5 4 4 2 ∧ InsIs W a7 5 4 3 ∧ InsIs W a7 15 4 1) := fun W hb => by
    have hbb := hal.trans (hb.mono hal.size)
    exact ⟨hb12.trans (hbb.mono hb12.size), hi12.to hbb, hj12.to hbb, hk12.to hbb⟩
  clear hb12 hp12 hi12 hj12 hk12 hal hsp
  go_wp2_with ((go_at_call 34; refine HSp.out.mono ?_; rintro e w13 ⟨rfl, hb13⟩; obtain ⟨hbw, ⟨b5, o5, rfl, y0, y1⟩, ⟨b7, o7, rfl, z0, z1⟩, ⟨b8, o8, hb8, x0, x1⟩⟩ := HK.out w13 hb13; cases hb8; have HBW := Lib.hid hbw; clear hbw hb13))
  go_ret
  exact ⟨rfl, HBW.out⟩
end Go.Proofs.YthedmiilkeclaaaGreat
