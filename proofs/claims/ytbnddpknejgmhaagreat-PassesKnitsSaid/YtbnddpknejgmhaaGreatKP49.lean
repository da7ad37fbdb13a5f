/- Layer 31: SameInts of two slices that hold the same; the law PassesSplit walked. Layer 31: the chapter's examples hold. The reference: Plain, Other, Turned, Seen. -/
import Derived.Test.YtbnddpknejgmhaaGreatKP48
import Derived.Test.YtbnddpknejgmhaaGreatKP41
import Derived.Test.YtbnddpknejgmhaaGreatKP42
import Derived.Test.YtbnddpknejgmhaaGreatKP18
namespace Go.Proofs.YtbnddpknejgmhaaGreat
open Go.RowKit
set_option maxRecDepth 100000

set_option maxHeartbeats 1000000 in
theorem sameInts_any (A A' : Option Addr) (c c' : Nat) (l : List Int) (w : World) (h : SlI w w.heap.size A l) (h' : SlI w w.heap.size A' l) (hn : l.length ≤ 4611686018427387904) :
    Calls Tryz.prog 15 #[.slice A l.length c, .slice A' l.length c'] w fun e w' => e = .returned (.bool true) ∧ Below w.heap.size w w' := by
  have hne : (((l.length : Nat) : Int) == ((l.length : Nat) : Int)) = true := by simp
  go_enter Tryz.func15, Tryz.ntmps15
  go_wp2
  go_loopw [5] (fun i wr => ∃ k : Nat, k ≤ l.length ∧ i = .int .i64 k ∧ Below w.heap.size w wr) (fun i _ => l.length - (intOf i).toNat)
  case atStart => exact ⟨0, Nat.zero_le _, rfl, Below.refl _ _⟩
  case round =>
    obtain ⟨k, hk, rfl, hbw⟩ := hrel
    by_cases hlt : k < l.length
    · obtain ⟨b, off, z, rfl, hB, hz, hc⟩ := h.at_ hlt
      obtain ⟨b', off', z', rfl, hB', hz', hc'⟩ := h'.at_ hlt
      rw [hz] at hz'
      obtain rfl : z = z' := by simpa using hz'
      have h1 := (bcell hbw hB _).trans hc
      have h2 := (bcell hbw hB' _).trans hc'
      clear hc hc' h h' hz hz'
      go_wp2
      go_quiet (fail)
      go_wp2
      go_roundw
      case rel => exact ⟨k + 1, by omega, by go_num, below_drewN hbw _⟩
      case measure => simp [intOf]; omega
    · clear h h'
      go_wp2
      go_ret
      exact ⟨rfl, hbw⟩

theorem own_form {w : World} {B : Nat} {e : TypeId} {size n : Nat} {v : Value} {xs : List Value} (h : w.ownsRow B e size v n xs) : ∃ a c, v = .slice a n c := by
  rcases h.2 with ⟨rfl, rfl⟩ | ⟨g, cap, cur, rfl, _⟩
  · exact ⟨none, 0, rfl⟩
  · exact ⟨_, _, rfl⟩
theorem own_pos {w : World} {B : Nat} {e : TypeId} {size n c : Nat} {a : Option Addr} {xs : List Value} (h : w.ownsRow B e size (.slice a n c) n xs) (hn : 0 < n) : ∃ g, a = some ⟨g, 0, none⟩ ∧ B ≤ g ∧ g < w.heap.size ∧ ∀ j, j < n * size → w.cell? ⟨g, j, none⟩ = xs[j]? := by
  rcases h.2 with ⟨hv, rfl⟩ | ⟨g, cap, cur, hv, hg, hh, r⟩
  · omega
  · cases hv
    exact ⟨g, rfl, hg, (Array.getElem?_eq_some_iff.1 hh).1, fun j hj => h.cellAt j hj⟩
theorem natV_at {l : List Nat} {j : Nat} {n : Nat} (h : l[j]? = some n) : (natV l)[j]? = some (.int .i64 (n : Int)) := by
  unfold natV; rw [List.getElem?_map, h]; rfl
def ints (l : List Nat) : List Int := l.map fun n : Nat => (n : Int)
theorem ints_len (l : List Nat) : (ints l).length = l.length := by unfold ints; exact List.length_map ..
theorem SlI.of_own {w : World} {B : Nat} {e : TypeId} {a : Option Addr} {c : Nat} {l : List Nat} (h : w.ownsRow B e 1 (.slice a l.length c) l.length (natV l)) : SlI w w.heap.size a (ints l) := fun hn => by
  have hp : 0 < l.length := by
    rcases Nat.eq_zero_or_pos l.length with e | e
    · exact absurd (List.length_eq_zero_iff.1 (by rw [ints_len]; exact e)) hn
    · exact e
  obtain ⟨g, rfl, _, hg, hc⟩ := own_pos h hp
  refine ⟨g, 0, rfl, hg, fun j z hz => ?_⟩
  unfold ints at hz
  rw [List.getElem?_map] at hz
  cases hl : l[j]? with
  | none => rw [hl] at hz; cases hz
  | some n =>
    rw [hl] at hz
    simp only [Option.map_some, Option.some.injEq] at hz
    subst hz
    have hj := (List.getElem?_eq_some_iff.1 hl).1
    rw [Nat.zero_add]
    exact (hc j (by omega)).trans (natV_at hl)
end Go.Proofs.YtbnddpknejgmhaaGreat
namespace Go.Proofs.YtbnddpknejgmhaaGreat
open Go.RowKit Go.Shelf
set_option maxRecDepth 100000

theorem knit_any (right : Bool) (b n : Int) (w : World) : Calls Tryz.prog 18 #[.bool right, .int .u8 b, .int .i64 n] w fun e w' => e = .returned (knitI 3 right b n).val ∧ Below w.heap.size w w' := by
  have hb := Lib.hid (fun o => (Below.refl w.heap.size w).alloc (Nat.le_refl _) o)
  go_enter Tryz.func18, Tryz.ntmps18
  go_wp2
  exact bodyPost_ret (v := (knitI 3 right b n).val) (by simp [results, Tryz.results18, go_sem, knitI, Ins.val]) rfl ⟨rfl, hb.out _⟩
def exL : List Ins := [knitI 3 true 0 0, knitI 3 true 0 1, knitI 3 false 0 1, knitI 3 false 0 0, xferI 0 0, xferI 0 1]
def insOut (l : List Ins) (w : World) (e : Ending) (w' : World) : Prop := ∃ A c, e = .returned (.slice A l.length c) ∧ SlX w' w'.heap.size A l ∧ l.length ≤ c ∧ Below w.heap.size w w'
theorem lit_ins {W : World} {l : List Ins} {cs : Array Value} {t : TypeId} (h : cs.toList = (l.map Ins.cells).flatten) (hl : l.length ≤ maxLen) : SlX (W.alloc (.cells cs t)) (W.alloc (.cells cs t)).heap.size (some ⟨W.heap.size, 0, none⟩) l := by
  have ho := World.ownsRow_lit (base := W.heap.size) (e := t) (size := 7) W cs l.length (Nat.le_refl _) hl (by rw [← Array.length_toList, h, flat_len (cells7 l), List.length_map])
  rw [h] at ho
  exact SlS.of_own (cells7 l) (by rw [List.length_map]) ho
set_option maxHeartbeats 1000000 in
theorem example_any (w : World) : Calls Tryz.prog 17 #[] w fun e w' => insOut exL w e w' := by
  have HK := Lib.hid (fun r b n w => knit_any r b n w)
  go_enter Tryz.func17, Tryz.ntmps17
  go_wp2_with fail
  refine (HK.out true 0 0 _).mono ?_
  rintro e w1 ⟨rfl, hb1⟩
  go_wp2_with fail
  refine (HK.out true 0 1 _).mono ?_
  rintro e w2 ⟨rfl, hb2⟩
  go_wp2_with fail
  refine (HK.out false 0 1 _).mono ?_
  rintro e w3 ⟨rfl, hb3⟩
  go_wp2_with fail
  refine (HK.out false 0 0 _).mono ?_
  rintro e w4 ⟨rfl, hb4⟩
  have hb := ((hb1.trans (hb2.mono hb1.size)).trans (hb3.mono (Nat.le_trans hb1.size hb2.size))).trans (hb4.mono (Nat.le_trans hb1.size (Nat.le_trans hb2.size hb3.size)))
  have HB := Lib.hid hb
  clear hb hb1 hb2 hb3 hb4
  unfold knitI Ins.val
  go_wp2
  go_ret
  exact ⟨_, _, rfl, lit_ins (l := exL) rfl (by decide), Nat.le_refl _, HB.out.alloc HB.out.size _⟩

set_option maxHeartbeats 1000000 in
theorem sameInstrs_any (A A' : Option Addr) (c c' : Nat) (l : List Ins) (w : World) (h : SlX w w.heap.size A l) (h' : SlX w w.heap.size A' l) (hn : l.length ≤ 4611686018427387904) :
    Calls Tryz.prog 19 #[.slice A l.length c, .slice A' l.length c'] w fun e w' => e = .returned (.bool true) ∧ Below w.heap.size w w' := by
  have hne : (((l.length : Nat) : Int) == ((l.length : Nat) : Int)) = true := by simp
  go_enter Tryz.func19, Tryz.ntmps19
  go_wp2
  go_loopw [5] (fun i wr => ∃ k : Nat, k ≤ l.length ∧ i = .int .i64 k ∧ Below w.heap.size w wr) (fun i _ => l.length - (intOf i).toNat)
  case atStart => exact ⟨0, Nat.zero_le _, rfl, Below.refl _ _⟩
  case round =>
    obtain ⟨k, hk, rfl, hbw⟩ := hrel
    by_cases hlt : k < l.length
    · obtain ⟨b, off, x, rfl, hB, hz, hc⟩ := h.at_ hlt
      obtain ⟨b', off', x', rfl, hB', hz', hc'⟩ := h'.at_ hlt
      rw [hz] at hz'
      obtain rfl : x = x' := by simpa using hz'
      obtain ⟨c0, c1, c2, c3, c4, c5, c6⟩ := hc.below hbw hB
      obtain ⟨d0, d1, d2, d3, d4, d5, d6⟩ := hc'.below hbw hB'
      have hneq : ∀ W : World, (binOp .neq 64 (.agg #[.int .u8 x.op, .bool x.right, .int .u8 x.bed, .int .i64 x.at_, .int .i64 x.to_, .int .i64 x.car, .int .i64 x.rack]) (.agg #[.int .u8 x.op, .bool x.right, .int .u8 x.bed, .int .i64 x.at_, .int .i64 x.to_, .int .i64 x.car, .int .i64 x.rack])).run Tryz.prog W = .ok (.bool false) W := fun W => by
        rw [run_neq_ins]; unfold insNe' insNe; simp
      clear hc hc' h h' hz hz'
      go_wp2
      go_quiet (fail)
      go_wp2
      go_roundw
      case rel => exact ⟨k + 1, by omega, by go_num, below_drewN hbw _⟩
      case measure => simp [intOf]; omega
    · clear h h'
      go_wp2
      go_ret
      exact ⟨rfl, hbw⟩

def exRows : List RowC := [(false, [⟨1, false, 0, 0⟩, ⟨1, true, 0, 0⟩])]
def exWant : List Ins := [⟨1, false, 0, 0, 0, 1, 0⟩, knitI 3 true 0 0, knitI 3 true 0 1, xferI 0 1, knitI 3 false 1 1, knitI 3 false 0 0]
theorem ex_few : fewE 0 exL = [2, 2, 2] ∧ lookE 0 exL = 0 := by decide +kernel
theorem ex_comp : compE 2 exRows = 0 ∧ compO 2 exRows = exWant := by decide +kernel
theorem ex_wf : ∀ i ∈ exL, i.wf := by
  intro i hi
  simp only [exL, List.mem_cons, List.not_mem_nil, or_false] at hi
  rcases hi with rfl | rfl | rfl | rfl | rfl | rfl <;> exact ⟨by decide, by decide, by decide, by decide⟩
theorem lit_stcA {W : World} {l : List Stc} {cs : Array Value} {t : TypeId} (h : cs.toList = (l.map Stc.cells).flatten) (hl : l.length ≤ maxLen) : SlT (W.alloc (.cells cs t)) (W.alloc (.cells cs t)).heap.size (some ⟨W.heap.size, 0, none⟩) l := by
  have ho := World.ownsRow_lit (base := W.heap.size) (e := t) (size := 4) W cs l.length (Nat.le_refl _) hl (by rw [← Array.length_toList, h, flat_len (cells4 l), List.length_map])
  rw [h] at ho
  exact SlS.of_own (cells4 l) (by rw [List.length_map]) ho
theorem ex_chart (W : World) (o : Obj) : SlC (((W.alloc (.cells #[.int .u8 1, .bool false, .int .i64 0, .int .i64 0, .int .u8 1, .bool true, .int .i64 0, .int .i64 0] 51)).alloc (.cells #[.bool false, .slice (some ⟨W.heap.size, 0, none⟩) 2 2] 55)).alloc o)
    (((W.alloc (.cells #[.int .u8 1, .bool false, .int .i64 0, .int .i64 0, .int .u8 1, .bool true, .int .i64 0, .int .i64 0] 51)).alloc (.cells #[.bool false, .slice (some ⟨W.heap.size, 0, none⟩) 2 2] 55)).alloc o).heap.size (some ⟨W.heap.size + 1, 0, none⟩) exRows := fun _ => by
  refine ⟨W.heap.size + 1, 0, rfl, by simp, fun j r hr => ?_⟩
  have hj : j = 0 := by
    have := (List.getElem?_eq_some_iff.1 hr).1
    simp [exRows] at this; exact this
  subst hj
  have e : r = (false, [⟨1, false, 0, 0⟩, ⟨1, true, 0, 0⟩]) := by
    simp [exRows] at hr; exact hr.symm
  subst e
  refine ⟨some ⟨W.heap.size, 0, none⟩, 2, (bcell (B := W.heap.size + 2) ((Below.refl _ _).alloc (by simp) o) (by omega) _).trans (cell_new rfl (by simp) rfl), (bcell (B := W.heap.size + 2) ((Below.refl _ _).alloc (by simp) o) (by omega) _).trans (cell_new rfl (by simp) rfl), Nat.le_refl _, ?_⟩
  have h := lit_stcA (W := W) (l := [⟨1, false, 0, 0⟩, ⟨1, true, 0, 0⟩]) (cs := #[.int .u8 1, .bool false, .int .i64 0, .int .i64 0, .int .u8 1, .bool true, .int .i64 0, .int .i64 0]) (t := 51) rfl (by decide)
  exact (h.below (((Below.refl _ _).alloc (Nat.le_refl _) _).alloc (by simp) _)).more (by simp)
theorem exRows_wf : RowsWf exRows := by
  intro r hr s hs
  simp only [exRows, List.mem_cons, List.not_mem_nil, or_false] at hr
  subst hr
  simp only [List.mem_cons, List.not_mem_nil, or_false] at hs
  rcases hs with rfl | rfl <;> exact ⟨by decide, by decide⟩
theorem exRows_front : ∀ r ∈ exRows, r.1 = false := by
  intro r hr
  simp only [exRows, List.mem_cons, List.not_mem_nil, or_false] at hr
  subst hr; rfl
set_option maxHeartbeats 4000000 in
theorem alive_any (w : World) : Calls Tryz.prog 4 #[] w fun e w' => e = .returned (.bool true) ∧ Below w.heap.size w w' := by
  have HK := Lib.hid (fun r b n w => knit_any r b n w)
  go_enter Tryz.func4, Tryz.ntmps4
  go_wp2_with fail
  refine (example_any _).mono ?_
  rintro e w1 ⟨a1, c1, rfl, hs1, hc1, hb1⟩
  go_wp2_with fail
  refine (fewest_any 0 a1 c1 exL ex_wf (by decide) hc1 w1 hs1).mono ?_
  rintro e w2 ⟨v2, rfl, hown2, hb2⟩
  rw [ex_few.1] at hown2
  rw [ex_few.2]
  have hb02 := hb1.trans (hb2.mono hb1.size)
  obtain ⟨a2, c2, rfl⟩ := own_form hown2
  go_wp2_with fail
  refine (compile_any 2 (some ⟨w2.heap.size + 1, 0, none⟩) 1 exRows exRows_wf (Or.inl exRows_front) _ (ex_chart w2 _)).mono ?_
  rintro e w3 ⟨a3, c3, rfl, hs3, hc3, hb3⟩
  rw [ex_comp.2] at hs3 hc3
  rw [ex_comp.1, ex_comp.2]
  have hb23 : Below w2.heap.size w2 w3 := ((((Below.refl _ w2).alloc (Nat.le_refl _) _).alloc (by simp) _).alloc (by simp; omega) _).trans (hb3.mono (by simp; omega))
  have hb03 := hb02.trans (hb23.mono hb02.size)
  have ho3 := own_below hown2 hb23 (Nat.le_refl _)
  clear hown2 hb3 hb23 hs1 hb1 hb2 hb02
  go_wp2_with fail
  refine (HK.out true 0 0 _).mono ?_
  rintro e w4 ⟨rfl, hb4⟩
  go_wp2_with fail
  refine (HK.out true 0 1 _).mono ?_
  rintro e w5 ⟨rfl, hb5⟩
  go_wp2_with fail
  refine (HK.out false 1 1 _).mono ?_
  rintro e w6 ⟨rfl, hb6⟩
  go_wp2_with fail
  refine (HK.out false 0 0 _).mono ?_
  rintro e w7 ⟨rfl, hb7⟩
  have hb37 := ((hb4.trans (hb5.mono hb4.size)).trans (hb6.mono (Nat.le_trans hb4.size hb5.size))).trans (hb7.mono (Nat.le_trans hb4.size (Nat.le_trans hb5.size hb6.size)))
  have hb07 := hb03.trans (hb37.mono hb03.size)
  have ho7 := own_below ho3 hb37 (Nat.le_refl _)
  have hs7 := (hs3.below hb37).more hb37.size
  clear ho3 hs3 hb4 hb5 hb6 hb7 hb03 hb37
  have HS7 := Lib.hid hs7
  have HO7 := Lib.hid ho7
  have HB7 := Lib.hid hb07
  clear hs7 ho7 hb07
  unfold knitI Ins.val
  have HI1 := Lib.hid (fun o cs (hcs : cs.toList = natV [2, 2, 2]) => (show SlI ((w7.alloc o).alloc (.cells cs 3)) ((w7.alloc o).alloc (.cells cs 3)).heap.size a2 (ints [2, 2, 2]) ∧ SlI ((w7.alloc o).alloc (.cells cs 3)) ((w7.alloc o).alloc (.cells cs 3)).heap.size (some ⟨w7.heap.size + 1, 0, none⟩) (ints [2, 2, 2]) by
    refine ⟨((SlI.of_own HO7.out).below (((Below.refl _ w7).alloc (Nat.le_refl _) _).alloc (by simp) _)).more (by simp; omega), ?_⟩
    have ho := World.ownsRow_lit (base := 0) (e := 3) (size := 1) (w7.alloc o) cs 3 (Nat.zero_le _) (by decide) (by rw [← Array.length_toList, hcs]; rfl)
    rw [hcs, World.size_alloc] at ho
    exact SlI.of_own (l := [2, 2, 2]) ho))
  have HI2 := Lib.hid (fun cs o (hcs : cs.toList = (exWant.map Ins.cells).flatten) (W : World) (hb : Below (w7.heap.size + 1) ((w7.alloc (.cells cs 64)).alloc o) W) => (show SlX W W.heap.size (some ⟨w7.heap.size, 0, none⟩) exWant ∧ SlX W W.heap.size a3 exWant ∧ Below w.heap.size w W by
    have h1 := lit_ins (W := w7) (l := exWant) (t := 64) hcs (by decide)
    have hbb : Below (w7.heap.size + 1) (w7.alloc (.cells cs 64)) W := ((Below.refl _ _).alloc (by simp) o).trans hb
    have hb7 : Below w7.heap.size w7 W := ((Below.refl _ w7).alloc (Nat.le_refl _) _).trans (hbb.mono (by omega))
    have hsz := hbb.size
    rw [World.size_alloc] at h1 hsz
    exact ⟨(h1.below hbb).more hsz, (HS7.out.below hb7).more hb7.size, HB7.out.trans (hb7.mono HB7.out.size)⟩))
  go_wp2_with fail
  refine (sameInts_any a2 (some ⟨w7.heap.size + 1, 0, none⟩) c2 3 (ints [2, 2, 2]) _ (HI1.out _ _ rfl).1 (HI1.out _ _ rfl).2 (by decide)).mono ?_
  rintro e w8 ⟨rfl, hb8⟩
  obtain ⟨hx1, hx2, hx3⟩ := HI2.out _ _ rfl w8 (hb8.mono (by simp))
  have HX1 := Lib.hid hx1
  have HX2 := Lib.hid hx2
  have HX3 := Lib.hid hx3
  clear hx1 hx2 hx3 hb8
  go_wp2_with fail
  refine (sameInstrs_any a3 (some ⟨w7.heap.size, 0, none⟩) c3 6 exWant w8 HX2.out HX1.out (by decide)).mono ?_
  rintro e w9 ⟨rfl, hb9⟩
  go_wp2
  go_ret
  exact ⟨rfl, HX3.out.trans (hb9.mono HX3.out.size)⟩
end Go.Proofs.YtbnddpknejgmhaaGreat
namespace Go.Proofs.YtbnddpknejgmhaaGreat
open Go.RowKit Go.Shelf
set_option maxRecDepth 100000

theorem any_take {l : List Stc} {k : Nat} {s : Stc} (hr : l[k]? = some s) (h : ∀ x ∈ l.take k, oddS x = false) (hf : oddS s = false) : ∀ x ∈ l.take (k + 1), oddS x = false := fun x hx => by
  obtain ⟨hk', e⟩ := List.getElem?_eq_some_iff.1 hr
  rw [List.take_succ_eq_append_getElem hk', e] at hx
  rcases List.mem_append.1 hx with h' | h'
  · exact h x h'
  · rw [List.mem_singleton.1 h']; exact hf
set_option maxHeartbeats 2000000 in
theorem rplain_any (start : Int) (A : Option Addr) (c : Nat) (p : List RowC) (hn : p.length ≤ 4611686018427387904) (hrl : ∀ r ∈ p, r.2.length ≤ 4611686018427387904) (w : World) (hs : SlC w w.heap.size A p) :
    Calls Tryz.prog 7 #[.agg #[.int .i64 start, .slice A p.length c]] w fun e w' => e = .returned (.bool (plainB start p)) ∧ Below w.heap.size w w' := by
  go_enter Tryz.func7, Tryz.ntmps7
  go_wp2
  have HC : Hid ((w.alloc (.cells #[.int .i64 start, .slice A p.length c] 24)).cell? ⟨w.heap.size, 0, none⟩ = some (.int .i64 start) ∧ (w.alloc (.cells #[.int .i64 start, .slice A p.length c] 24)).cell? ⟨w.heap.size, 1, none⟩ = some (.slice A p.length c)) := ⟨cell_new rfl rfl rfl, cell_new rfl rfl rfl⟩
  go_loopw [3, 4, 5] (fun i s4 s5 wr => ∃ (k : Nat) (v4 v5 : Value), k ≤ p.length ∧ i = .int .i64 k ∧ v4 = s4 ∧ v5 = s5 ∧ Hid (∀ r ∈ p.take k, r.2.any oddS = false) ∧ Below w.heap.size w wr ∧ (wr.cell? ⟨w.heap.size, 0, none⟩ = some (.int .i64 start) ∧ wr.cell? ⟨w.heap.size, 1, none⟩ = some (.slice A p.length c))) (fun i _ _ _ => p.length - (intOf i).toNat)
  case atStart => exact ⟨0, _, _, Nat.zero_le _, rfl, rfl, rfl, (fun r hr => by simp at hr), (Below.refl _ _).alloc (Nat.le_refl _) _, HC.out⟩
  case round =>
    obtain ⟨k, v4, v5, hk, rfl, rfl, rfl, H, hbw, hc0, hc1⟩ := hrel
    obtain ⟨W0, rfl⟩ : ∃ W0, W0 = wr := ⟨wr, rfl⟩
    by_cases hlt : k < p.length
    · obtain ⟨b, off, r, A', C', rfl, hB, hr, hcr0, hcr1, hC, hsi⟩ := hs.at_ hlt
      have hd1 := (bcell hbw hB _).trans hcr1
      have hsi' := hsi.below hbw
      have HR : Hid (p[k]? = some r) := hr
      have hrn := hrl r (List.mem_of_getElem? hr)
      clear hs hrl hr hsi hcr0 hcr1
      go_wp2
      go_loopw [4, 5] (fun s4 s5 wr => ∃ (q : Nat) (v5 : Value), q ≤ r.2.length ∧ s4 = .int .i64 q ∧ v5 = s5 ∧ Hid (∀ s ∈ r.2.take q, oddS s = false) ∧ wr = W0) (fun s4 _ _ => r.2.length - (intOf s4).toNat)
      case atStart => exact ⟨0, _, Nat.zero_le _, rfl, rfl, (fun r hr => by simp at hr), rfl⟩
      case round =>
        obtain ⟨q, v5', hq, rfl, rfl, H2, rfl⟩ := hrel
        by_cases hql : q < r.2.length
        · obtain ⟨b2, off2, s, rfl, hB2, hz, hcs⟩ := hsi'.at_ hql
          obtain ⟨d0, d1, d2, d3⟩ := hcs
          have HZ := Lib.hid hz
          clear hz hsi'
          by_cases h1 : s.kind = 1
          · have ho : oddS s = false := decide_eq_false (by omega)
            have HQ : Hid (∀ x ∈ r.2.take (q + 1), oddS x = false) := any_take HZ.out H2.out ho
            rw [h1] at d0
            clear H2 h1 ho
            go_wp2
            go_roundw
            case rel => exact ⟨q + 1, _, by omega, by go_num, rfl, HQ, (by first | rfl | trivial)⟩
            case measure => simp [intOf]; omega
          · by_cases h2 : s.kind = 8
            · have ho : oddS s = false := decide_eq_false (by omega)
              have HQ : Hid (∀ x ∈ r.2.take (q + 1), oddS x = false) := any_take HZ.out H2.out ho
              rw [h2] at d0
              clear H2 h1 h2 ho
              go_wp2
              go_roundw
              case rel => exact ⟨q + 1, _, by omega, by go_num, rfl, HQ, (by first | rfl | trivial)⟩
              case measure => simp [intOf]; omega
            · have ho : oddS s = true := decide_eq_true ⟨h1, h2⟩
              have HF : Hid (plainB start p = false) := by
                unfold Hid plainB
                rw [if_pos (List.any_eq_true.2 ⟨r, List.mem_of_getElem? HR.out, List.any_eq_true.2 ⟨s, List.mem_of_getElem? HZ.out, ho⟩⟩)]
              have e1 : (s.kind != 1) = true := by simp [h1]
              have e2 : (s.kind == 1) = false := by simp [h1]
              have e3 : (s.kind != 8) = true := by simp [h2]
              have e4 : (s.kind == 8) = false := by simp [h2]
              clear H2 h1 h2 ho
              go_wp2
              go_ret
              exact ⟨ret_bool HF.out.symm, hbw⟩
        · obtain rfl : q = r.2.length := by omega
          have HQ : Hid (∀ x ∈ p.take (k + 1), x.2.any oddS = false) := takeR_any (f := fun x => x.2.any oddS) HR.out H.out (by
            have := H2.out
            rw [List.take_length] at this
            rw [List.any_eq_false]
            intro x hx
            simp [this x hx])
          clear H2 H hsi'
          go_wp2
          go_roundw
          case rel => exact ⟨k + 1, _, _, by omega, by go_num, rfl, rfl, HQ, hbw, hc0, hc1⟩
          case measure => simp [intOf]; omega
    · obtain rfl : k = p.length := by omega
      have HF : Hid (plainB start p = decide (start ≤ 101)) := by
        unfold Hid plainB
        rw [if_neg]
        rw [Bool.not_eq_true, List.any_eq_false]
        intro r hr
        have := H.out r (by rw [List.take_length]; exact hr)
        rw [this]; simp
      clear hs hrl H
      go_wp2
      go_ret
      exact ⟨ret_bool HF.out.symm, hbw⟩
end Go.Proofs.YtbnddpknejgmhaaGreat
