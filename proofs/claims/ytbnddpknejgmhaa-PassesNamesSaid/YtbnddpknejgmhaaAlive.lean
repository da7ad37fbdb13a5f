/- Layer 31: the chapter's examples hold. -/
import Derived.Test.YtbnddpknejgmhaaComp1
import Derived.Test.YtbnddpknejgmhaaSplit
namespace Go.Proofs.Ytbnddpknejgmhaa
open Go.RowKit Go.Shelf
set_option maxRecDepth 100000

theorem knit_any (right : Bool) (b n : Int) (w : World) : Calls Try.prog 23 #[.bool right, .int .u8 b, .int .i64 n] w fun e w' => e = .returned (knitI 3 right b n).val ∧ Below w.heap.size w w' := by
  have hb := Lib.hid (fun o => (Below.refl w.heap.size w).alloc (Nat.le_refl _) o)
  go_enter Try.func23, Try.ntmps23
  go_wp2
  exact bodyPost_ret (v := (knitI 3 right b n).val) (by simp [results, Try.results23, go_sem, knitI, Ins.val]) rfl ⟨rfl, hb.out _⟩
def exL : List Ins := [knitI 3 true 0 0, knitI 3 true 0 1, knitI 3 false 0 1, knitI 3 false 0 0, xferI 0 0, xferI 0 1]
def insOut (l : List Ins) (w : World) (e : Ending) (w' : World) : Prop := ∃ A c, e = .returned (.slice A l.length c) ∧ SlX w' w'.heap.size A l ∧ l.length ≤ c ∧ Below w.heap.size w w'
theorem lit_ins {W : World} {l : List Ins} {cs : Array Value} {t : TypeId} (h : cs.toList = (l.map Ins.cells).flatten) (hl : l.length ≤ maxLen) : SlX (W.alloc (.cells cs t)) (W.alloc (.cells cs t)).heap.size (some ⟨W.heap.size, 0, none⟩) l := by
  have ho := World.ownsRow_lit (base := W.heap.size) (e := t) (size := 7) W cs l.length (Nat.le_refl _) hl (by rw [← Array.length_toList, h, flat_len (cells7 l), List.length_map])
  rw [h] at ho
  exact SlS.of_own (cells7 l) (by rw [List.length_map]) ho
set_option maxHeartbeats 1000000 in
theorem example_any (w : World) : Calls Try.prog 24 #[] w fun e w' => insOut exL w e w' := by
  have HK := Lib.hid (fun r b n w => knit_any r b n w)
  go_enter Try.func24, Try.ntmps24
  go_wp2_with fail
  refine (HK.out true 0 0 _).mono ?_
  rintro e w1 ⟨rfl, hb1⟩
  go_wp2_with fail
  refine (HK.out true 0 1 _).mono ?_
  rintro e w2 ⟨rfl, hb2⟩
  go_wp2_with fail
  refine (HK.out false 0 1 _).mono ?_
  rintro e w3 ⟨rfl, hb3⟩
  go_wp2_with fail
  refine (HK.out false 0 0 _).mono ?_
  rintro e w4 ⟨rfl, hb4⟩
  have hb := ((hb1.trans (hb2.mono hb1.size)).trans (hb3.mono (Nat.le_trans hb1.size hb2.size))).trans (hb4.mono (Nat.le_trans hb1.size (Nat.le_trans hb2.size hb3.size)))
  have HB := Lib.hid hb
  clear hb hb1 hb2 hb3 hb4
  unfold knitI Ins.val
  go_wp2
  go_ret
  exact ⟨_, _, rfl, lit_ins (l := exL) rfl (by decide), Nat.le_refl _, HB.out.alloc HB.out.size _⟩

set_option maxHeartbeats 1000000 in
theorem sameInstrs_any (A A' : Option Addr) (c c' : Nat) (l : List Ins) (w : World) (h : SlX w w.heap.size A l) (h' : SlX w w.heap.size A' l) (hn : l.length ≤ 4611686018427387904) :
    Calls Try.prog 20 #[.slice A l.length c, .slice A' l.length c'] w fun e w' => e = .returned (.bool true) ∧ Below w.heap.size w w' := by
  have hne : (((l.length : Nat) : Int) == ((l.length : Nat) : Int)) = true := by simp
  go_enter Try.func20, Try.ntmps20
  go_wp2
  go_loopw [5] (fun i wr => ∃ k : Nat, k ≤ l.length ∧ i = .int .i64 k ∧ Below w.heap.size w wr) (fun i _ => l.length - (intOf i).toNat)
  case atStart => exact ⟨0, Nat.zero_le _, rfl, Below.refl _ _⟩
  case round =>
    obtain ⟨k, hk, rfl, hbw⟩ := hrel
    by_cases hlt : k < l.length
    · obtain ⟨b, off, x, rfl, hB, hz, hc⟩ := h.at_ hlt
      obtain ⟨b', off', x', rfl, hB', hz', hc'⟩ := h'.at_ hlt
      rw [hz] at hz'
      obtain rfl : x = x' := by simpa using hz'
      obtain ⟨c0, c1, c2, c3, c4, c5, c6⟩ := hc.below hbw hB
      obtain ⟨d0, d1, d2, d3, d4, d5, d6⟩ := hc'.below hbw hB'
      have hneq : ∀ W : World, (binOp .neq 50 (.agg #[.int .u8 x.op, .bool x.right, .int .u8 x.bed, .int .i64 x.at_, .int .i64 x.to_, .int .i64 x.car, .int .i64 x.rack]) (.agg #[.int .u8 x.op, .bool x.right, .int .u8 x.bed, .int .i64 x.at_, .int .i64 x.to_, .int .i64 x.car, .int .i64 x.rack])).run Try.prog W = .ok (.bool false) W := fun W => by
        rw [run_neq_ins]; unfold insNe' insNe; simp
      clear hc hc' h h' hz hz'
      go_wp2
      go_quiet (fail)
      go_wp2
      go_roundw
      case rel => exact ⟨k + 1, by omega, by go_num, below_drewN hbw _⟩
      case measure => simp [intOf]; omega
    · clear h h'
      go_wp2
      go_ret
      exact ⟨rfl, hbw⟩

def exRows : List RowC := [(false, [⟨1, false, 0, 0⟩, ⟨1, true, 0, 0⟩])]
def exWant : List Ins := [⟨1, false, 0, 0, 0, 1, 0⟩, knitI 3 true 0 0, knitI 3 true 0 1, xferI 0 1, knitI 3 false 1 1, knitI 3 false 0 0]
theorem ex_few : fewE 0 exL = [2, 2, 2] ∧ lookE 0 exL = 0 := by decide +kernel
theorem ex_comp : compE 2 exRows = 0 ∧ compO 2 exRows = exWant := by decide +kernel
theorem ex_wf : ∀ i ∈ exL, i.wf := by
  intro i hi
  simp only [exL, List.mem_cons, List.not_mem_nil, or_false] at hi
  rcases hi with rfl | rfl | rfl | rfl | rfl | rfl <;> exact ⟨by decide, by decide, by decide, by decide⟩
theorem lit_stc {W : World} {l : List Stc} {cs : Array Value} {t : TypeId} (h : cs.toList = (l.map Stc.cells).flatten) (hl : l.length ≤ maxLen) : SlT (W.alloc (.cells cs t)) (W.alloc (.cells cs t)).heap.size (some ⟨W.heap.size, 0, none⟩) l := by
  have ho := World.ownsRow_lit (base := W.heap.size) (e := t) (size := 4) W cs l.length (Nat.le_refl _) hl (by rw [← Array.length_toList, h, flat_len (cells4 l), List.length_map])
  rw [h] at ho
  exact SlS.of_own (cells4 l) (by rw [List.length_map]) ho
theorem ex_chart (W : World) (o : Obj) : SlC (((W.alloc (.cells #[.int .u8 1, .bool false, .int .i64 0, .int .i64 0, .int .u8 1, .bool true, .int .i64 0, .int .i64 0] 56)).alloc (.cells #[.bool false, .slice (some ⟨W.heap.size, 0, none⟩) 2 2] 59)).alloc o)
    (((W.alloc (.cells #[.int .u8 1, .bool false, .int .i64 0, .int .i64 0, .int .u8 1, .bool true, .int .i64 0, .int .i64 0] 56)).alloc (.cells #[.bool false, .slice (some ⟨W.heap.size, 0, none⟩) 2 2] 59)).alloc o).heap.size (some ⟨W.heap.size + 1, 0, none⟩) exRows := fun _ => by
  refine ⟨W.heap.size + 1, 0, rfl, by simp, fun j r hr => ?_⟩
  have hj : j = 0 := by
    have := (List.getElem?_eq_some_iff.1 hr).1
    simp [exRows] at this; exact this
  subst hj
  have e : r = (false, [⟨1, false, 0, 0⟩, ⟨1, true, 0, 0⟩]) := by
    simp [exRows] at hr; exact hr.symm
  subst e
  refine ⟨some ⟨W.heap.size, 0, none⟩, 2, (bcell (B := W.heap.size + 2) ((Below.refl _ _).alloc (by simp) o) (by omega) _).trans (cell_new rfl (by simp) rfl), (bcell (B := W.heap.size + 2) ((Below.refl _ _).alloc (by simp) o) (by omega) _).trans (cell_new rfl (by simp) rfl), Nat.le_refl _, ?_⟩
  have h := lit_stc (W := W) (l := [⟨1, false, 0, 0⟩, ⟨1, true, 0, 0⟩]) (cs := #[.int .u8 1, .bool false, .int .i64 0, .int .i64 0, .int .u8 1, .bool true, .int .i64 0, .int .i64 0]) (t := 56) rfl (by decide)
  exact (h.below (((Below.refl _ _).alloc (Nat.le_refl _) _).alloc (by simp) _)).more (by simp)
theorem exRows_wf : RowsWf exRows := by
  intro r hr s hs
  simp only [exRows, List.mem_cons, List.not_mem_nil, or_false] at hr
  subst hr
  simp only [List.mem_cons, List.not_mem_nil, or_false] at hs
  rcases hs with rfl | rfl <;> exact ⟨by decide, by decide⟩
theorem exRows_front : ∀ r ∈ exRows, r.1 = false := by
  intro r hr
  simp only [exRows, List.mem_cons, List.not_mem_nil, or_false] at hr
  subst hr; rfl
set_option maxHeartbeats 4000000 in
theorem alive_any (w : World) : Calls Try.prog 21 #[] w fun e w' => e = .returned (.bool true) ∧ Below w.heap.size w w' := by
  have HK := Lib.hid (fun r b n w => knit_any r b n w)
  go_enter Try.func21, Try.ntmps21
  go_wp2_with fail
  refine (example_any _).mono ?_
  rintro e w1 ⟨a1, c1, rfl, hs1, hc1, hb1⟩
  go_wp2_with fail
  refine (fewest_any 0 a1 c1 exL ex_wf (by decide) hc1 w1 hs1).mono ?_
  rintro e w2 ⟨v2, rfl, hown2, hb2⟩
  rw [ex_few.1] at hown2
  rw [ex_few.2]
  have hb02 := hb1.trans (hb2.mono hb1.size)
  obtain ⟨a2, c2, rfl⟩ := own_form hown2
  go_wp2_with fail
  refine (compile_any 2 (some ⟨w2.heap.size + 1, 0, none⟩) 1 exRows exRows_wf (Or.inl exRows_front) _ (ex_chart w2 _)).mono ?_
  rintro e w3 ⟨a3, c3, rfl, hs3, hc3, hb3⟩
  rw [ex_comp.2] at hs3 hc3
  rw [ex_comp.1, ex_comp.2]
  have hb23 : Below w2.heap.size w2 w3 := ((((Below.refl _ w2).alloc (Nat.le_refl _) _).alloc (by simp) _).alloc (by simp; omega) _).trans (hb3.mono (by simp; omega))
  have hb03 := hb02.trans (hb23.mono hb02.size)
  have ho3 := own_below hown2 hb23 (Nat.le_refl _)
  clear hown2 hb3 hb23 hs1 hb1 hb2 hb02
  go_wp2_with fail
  refine (HK.out true 0 0 _).mono ?_
  rintro e w4 ⟨rfl, hb4⟩
  go_wp2_with fail
  refine (HK.out true 0 1 _).mono ?_
  rintro e w5 ⟨rfl, hb5⟩
  go_wp2_with fail
  refine (HK.out false 1 1 _).mono ?_
  rintro e w6 ⟨rfl, hb6⟩
  go_wp2_with fail
  refine (HK.out false 0 0 _).mono ?_
  rintro e w7 ⟨rfl, hb7⟩
  have hb37 := ((hb4.trans (hb5.mono hb4.size)).trans (hb6.mono (Nat.le_trans hb4.size hb5.size))).trans (hb7.mono (Nat.le_trans hb4.size (Nat.le_trans hb5.size hb6.size)))
  have hb07 := hb03.trans (hb37.mono hb03.size)
  have ho7 := own_below ho3 hb37 (Nat.le_refl _)
  have hs7 := (hs3.below hb37).more hb37.size
  clear ho3 hs3 hb4 hb5 hb6 hb7 hb03 hb37
  have HS7 := Lib.hid hs7
  have HO7 := Lib.hid ho7
  have HB7 := Lib.hid hb07
  clear hs7 ho7 hb07
  unfold knitI Ins.val
  have HI1 := Lib.hid (fun o cs (hcs : cs.toList = natV [2, 2, 2]) => (show SlI ((w7.alloc o).alloc (.cells cs 3)) ((w7.alloc o).alloc (.cells cs 3)).heap.size a2 (ints [2, 2, 2]) ∧ SlI ((w7.alloc o).alloc (.cells cs 3)) ((w7.alloc o).alloc (.cells cs 3)).heap.size (some ⟨w7.heap.size + 1, 0, none⟩) (ints [2, 2, 2]) by
    refine ⟨((SlI.of_own HO7.out).below (((Below.refl _ w7).alloc (Nat.le_refl _) _).alloc (by simp) _)).more (by simp; omega), ?_⟩
    have ho := World.ownsRow_lit (base := 0) (e := 3) (size := 1) (w7.alloc o) cs 3 (Nat.zero_le _) (by decide) (by rw [← Array.length_toList, hcs]; rfl)
    rw [hcs, World.size_alloc] at ho
    exact SlI.of_own (l := [2, 2, 2]) ho))
  have HI2 := Lib.hid (fun cs o (hcs : cs.toList = (exWant.map Ins.cells).flatten) (W : World) (hb : Below (w7.heap.size + 1) ((w7.alloc (.cells cs 50)).alloc o) W) => (show SlX W W.heap.size (some ⟨w7.heap.size, 0, none⟩) exWant ∧ SlX W W.heap.size a3 exWant ∧ Below w.heap.size w W by
    have h1 := lit_ins (W := w7) (l := exWant) (t := 50) hcs (by decide)
    have hbb : Below (w7.heap.size + 1) (w7.alloc (.cells cs 50)) W := ((Below.refl _ _).alloc (by simp) o).trans hb
    have hb7 : Below w7.heap.size w7 W := ((Below.refl _ w7).alloc (Nat.le_refl _) _).trans (hbb.mono (by omega))
    have hsz := hbb.size
    rw [World.size_alloc] at h1 hsz
    exact ⟨(h1.below hbb).more hsz, (HS7.out.below hb7).more hb7.size, HB7.out.trans (hb7.mono HB7.out.size)⟩))
  go_wp2_with fail
  refine (sameInts_any a2 (some ⟨w7.heap.size + 1, 0, none⟩) c2 3 (ints [2, 2, 2]) _ (HI1.out _ _ rfl).1 (HI1.out _ _ rfl).2 (by decide)).mono ?_
  rintro e w8 ⟨rfl, hb8⟩
  obtain ⟨hx1, hx2, hx3⟩ := HI2.out _ _ rfl w8 (hb8.mono (by simp))
  have HX1 := Lib.hid hx1
  have HX2 := Lib.hid hx2
  have HX3 := Lib.hid hx3
  clear hx1 hx2 hx3 hb8
  go_wp2_with fail
  refine (sameInstrs_any a3 (some ⟨w7.heap.size, 0, none⟩) c3 6 exWant w8 HX2.out HX1.out (by decide)).mono ?_
  rintro e w9 ⟨rfl, hb9⟩
  go_wp2
  go_ret
  exact ⟨rfl, HX3.out.trans (hb9.mono HX3.out.size)⟩
end Go.Proofs.Ytbnddpknejgmhaa
