/- Layer 29: the reference's Same, at two braids of one content. -/
import Derived.Test.YtodjkifcbgmckaaHrP
import Derived.BigQuiet
import Derived.ChangeKeysEq
namespace Go.Proofs.Ytodjkifcbgmckaa
open Go.RowKit Go.Shelf
set_option maxRecDepth 100000

theorem below_drewP {B : Nat} {w W : World} (h : Below B w W) (n : Nat) : Below B w (W.drewN n) := by
  obtain ⟨a, b, c, d, e⟩ := h
  exact ⟨a, b, c, d, e⟩
set_option maxHeartbeats 1000000 in
theorem sameI_any (A A' : Option Addr) (c c' : Nat) (l : List Int) (w : World) (h : SlI w w.heap.size A l) (h' : SlI w w.heap.size A' l) (hn : l.length ≤ 4611686018427387904) :
    Calls Try.prog 27 #[.slice A l.length c, .slice A' l.length c'] w fun e w' => e = .returned (.bool true) ∧ ∃ m, w' = w.drewN m := by
  have hne : (((l.length : Nat) : Int) == ((l.length : Nat) : Int)) = true := by simp
  go_enter Try.func27, Try.ntmps27
  go_wp2
  go_loopw [5] (fun i wr => ∃ k : Nat, k ≤ l.length ∧ i = .int .i64 k ∧ Hid (∃ m, wr = w.drewN m)) (fun i _ => l.length - (intOf i).toNat)
  case atStart => exact ⟨0, Nat.zero_le _, rfl, 0, rfl⟩
  case round =>
    obtain ⟨k, hk, rfl, HM⟩ := hrel
    have hbw : Below w.heap.size w wr := by obtain ⟨m, rfl⟩ := HM.out; exact below_drewP (Below.refl _ _) m
    by_cases hlt : k < l.length
    · obtain ⟨b, off, z, rfl, hB, hz, hc⟩ := h.at_ hlt
      obtain ⟨b', off', z', rfl, hB', hz', hc'⟩ := h'.at_ hlt
      rw [hz] at hz'
      obtain rfl : z = z' := by simpa using hz'
      have h1 := (bcell hbw hB _).trans hc
      have h2 := (bcell hbw hB' _).trans hc'
      clear hc hc' h h' hz hz' hbw
      go_wp2
      go_quiet (fail)
      go_wp2
      go_roundw
      case rel => exact ⟨k + 1, by omega, by go_num, by obtain ⟨m, hm⟩ := HM.out; exact ⟨_, by rw [hm, World.drewN_drewN]⟩⟩
      case measure => simp [intOf]; omega
    · clear h h' hbw
      go_wp2
      go_ret
      exact ⟨rfl, HM.out⟩
abbrev prC (p : Int × Int) : List Value := [.int .i64 p.1, .int .i64 p.2]
/-- A slice of pairs. -/
def SlPr (w : World) (B : Nat) (A : Option Addr) (l : List (Int × Int)) : Prop := SlS 2 w B A (l.map prC)
theorem SlPr.below {w w' : World} {B : Nat} {A : Option Addr} {l : List (Int × Int)} (h : SlPr w B A l) (hb : Below B w w') : SlPr w' B A l := SlS.below h hb
theorem SlPr.more {w : World} {B B' : Nat} {A : Option Addr} {l : List (Int × Int)} (h : SlPr w B A l) (hb : B ≤ B') : SlPr w B' A l := SlS.more h hb
theorem SlPr.at_ {w : World} {B : Nat} {A : Option Addr} {l : List (Int × Int)} (h : SlPr w B A l) {k : Nat} (hk : k < l.length) :
    ∃ b off p, A = some ⟨b, off, none⟩ ∧ b < B ∧ l[k]? = some p ∧ w.cell? ⟨b, off + k * 2, none⟩ = some (.int .i64 p.1) ∧ w.cell? ⟨b, off + k * 2 + 1, none⟩ = some (.int .i64 p.2) := by
  obtain ⟨b, off, cs, e, hB, hz, hc⟩ := SlS.at_ h (k := k) (by simpa using hk)
  rw [List.getElem?_map] at hz
  cases hl : l[k]? with
  | none => rw [hl] at hz; cases hz
  | some i =>
    rw [hl] at hz
    simp only [Option.map_some, Option.some.injEq] at hz
    subst hz
    exact ⟨b, off, i, e, hB, rfl, hc 0 _ rfl, hc 1 _ rfl⟩
theorem rowP_sl {W : World} {B n c : Nat} {A : Option Addr} {l : List (Int × Int)} (h : (rowP (.slice A n c) l).lies W B) : n = l.length ∧ SlPr W W.heap.size A l := by
  have h0 : W.ownsRow B 66 2 (.slice A n c) l.length (prCells l) := h
  obtain ⟨A', c', e, -⟩ := own_slice h0
  cases e
  refine ⟨rfl, SlS.of_own (zs := l.map prC) (n := l.length) (fun cs hcs => ?_) (by simp) (by exact h0)⟩
  obtain ⟨p, -, rfl⟩ := List.mem_map.1 hcs
  rfl
theorem own_sli {W : World} {B n c : Nat} {A : Option Addr} {l : List Int} (h : W.ownsRow B 3 1 (.slice A n c) l.length (intV l)) : n = l.length ∧ SlI W W.heap.size A l := by
  obtain ⟨A', c', e, -⟩ := own_slice h
  cases e
  refine ⟨rfl, fun hne => ?_⟩
  have hp : 0 < l.length := List.length_pos_iff.2 hne
  rcases h.2 with ⟨hv, h0⟩ | ⟨g, cap, cur, hv, hg, hh, r⟩
  · omega
  · cases hv
    refine ⟨g, 0, rfl, (Array.getElem?_eq_some_iff.1 hh).1, fun j z hz => ?_⟩
    have hj := (List.getElem?_eq_some_iff.1 hz).1
    rw [Nat.zero_add, h.cellAt j (by omega)]
    unfold intV
    rw [List.getElem?_map, hz]; rfl
theorem neq_pr (W : World) (a b : Int) : (binOp .neq 66 (.agg #[.int .i64 a, .int .i64 b]) (.agg #[.int .i64 a, .int .i64 b])).run Try.prog W = .ok (.bool false) W := by
  obtain ⟨i1, hi', hz0', hz1', hz2'⟩ := info_parts info_int'
  rw [run_neq_struct, show (10000 : Nat) = 9999 + 1 from rfl, run_equalIn_array W 9999 _ _ Try.underlying66 hi', show Try.prog.cellsOf 3 = 1 by kernel_rfl]
  simp [Op.eqItems, List.range, List.range.loop, part, go_sem]
set_option maxHeartbeats 1000000 in
theorem samePr_any (A A' : Option Addr) (c c' : Nat) (l : List (Int × Int)) (w : World) (h : SlPr w w.heap.size A l) (h' : SlPr w w.heap.size A' l) (hn : l.length ≤ 4611686018427387904) :
    Calls Try.prog 36 #[.slice A l.length c, .slice A' l.length c'] w fun e w' => e = .returned (.bool true) ∧ ∃ m, w' = w.drewN m := by
  have hne : (((l.length : Nat) : Int) == ((l.length : Nat) : Int)) = true := by simp
  go_enter Try.func36, Try.ntmps36
  go_wp2
  go_loopw [5] (fun i wr => ∃ k : Nat, k ≤ l.length ∧ i = .int .i64 k ∧ Hid (∃ m, wr = w.drewN m)) (fun i _ => l.length - (intOf i).toNat)
  case atStart => exact ⟨0, Nat.zero_le _, rfl, 0, rfl⟩
  case round =>
    obtain ⟨k, hk, rfl, HM⟩ := hrel
    have hbw : Below w.heap.size w wr := by obtain ⟨m, rfl⟩ := HM.out; exact below_drewP (Below.refl _ _) m
    by_cases hlt : k < l.length
    · obtain ⟨b, off, z, rfl, hB, hz, q0, q1⟩ := h.at_ hlt
      obtain ⟨b', off', z', rfl, hB', hz', r0, r1⟩ := h'.at_ hlt
      rw [hz] at hz'
      obtain rfl : z = z' := by simpa using hz'
      have h1 := (bcell hbw hB _).trans q0
      have h2 := (bcell hbw hB _).trans q1
      have h3 := (bcell hbw hB' _).trans r0
      have h4 := (bcell hbw hB' _).trans r1
      clear q0 q1 r0 r1 h h' hz hz' hbw
      obtain ⟨z1, z2⟩ := z
      have hN := fun W => neq_pr W z1 z2
      go_wp2
      go_quiet (fail)
      go_wp2
      go_roundw
      case rel => exact ⟨k + 1, by omega, by go_num, by obtain ⟨m, hm⟩ := HM.out; exact ⟨_, by rw [hm, World.drewN_drewN]⟩⟩
      case measure => simp [intOf]; omega
    · clear h h' hbw
      go_wp2
      go_ret
      exact ⟨rfl, HM.out⟩
set_option maxHeartbeats 4000000 in
/-- Same, at two braids of one content. -/
theorem rsame29_any (A A' F F' : Option Addr) (c c' fc fc' : Nat) (l : List Int) (pr : List (Int × Int)) (hl : l.length ≤ 1000000) (hp : pr.length ≤ 1000000) (w : World) (h : SlI w w.heap.size A l) (h' : SlI w w.heap.size A' l) (g : SlPr w w.heap.size F pr) (g' : SlPr w w.heap.size F' pr) :
    Calls Try.prog 13 #[.agg #[.slice A l.length c, .slice F pr.length fc], .agg #[.slice A' l.length c', .slice F' pr.length fc']] w fun e w' => e = .returned (.bool true) ∧ Below w.heap.size w w' := by
  have hba := ((Below.refl _ w).alloc (Nat.le_refl _) (.cells #[.slice A l.length c, .slice F pr.length fc] 26)).alloc (by simp) (.cells #[.slice A' l.length c', .slice F' pr.length fc'] 26)
  have HI : Hid (∀ W, Below w.heap.size w W → Calls Try.prog 27 #[.slice A l.length c, .slice A' l.length c'] W fun e w' => e = .returned (.bool true) ∧ ∃ m, w' = W.drewN m) := fun W hb => sameI_any A A' c c' l W ((h.below hb).more hb.size) ((h'.below hb).more hb.size) (by omega)
  have HP : Hid (∀ W, Below w.heap.size w W → Calls Try.prog 36 #[.slice F pr.length fc, .slice F' pr.length fc'] W fun e w' => e = .returned (.bool true) ∧ ∃ m, w' = W.drewN m) := fun W hb => samePr_any F F' fc fc' pr W ((g.below hb).more hb.size) ((g'.below hb).more hb.size) (by omega)
  have HB := Lib.hid hba
  clear h h' g g' hba
  go_enter Try.func13, Try.ntmps13
  go_wp2_with (first
    | (go_at_call 27; refine (HI.out _ HB.out).mono ?_; rintro e w1 ⟨rfl, m1, rfl⟩)
    | (go_at_call 36; refine (HP.out _ (below_drewP HB.out _)).mono ?_; rintro e w1 ⟨rfl, m2, rfl⟩))
  go_ret
  exact ⟨rfl, by first | exact below_drewP HB.out _ | exact below_drewP (below_drewP HB.out _) _⟩
theorem neq_mv (W : World) (a : Bool) (b : Int) : (binOp .neq 69 (.agg #[.bool a, .int .i64 b]) (.agg #[.bool a, .int .i64 b])).run Try.prog W = .ok (.bool false) W := by
  rw [run_neq_struct, show (10000 : Nat) = 9999 + 1 from rfl]
  simp [go_sem]
set_option maxHeartbeats 1000000 in
theorem sameMv_any (A A' : Option Addr) (c c' : Nat) (l : List Mv) (w : World) (h : SlMv w w.heap.size A l) (h' : SlMv w w.heap.size A' l) (hn : l.length ≤ 4611686018427387904) :
    Calls Try.prog 28 #[.slice A l.length c, .slice A' l.length c'] w fun e w' => e = .returned (.bool true) ∧ ∃ m, w' = w.drewN m := by
  have hne : (((l.length : Nat) : Int) == ((l.length : Nat) : Int)) = true := by simp
  go_enter Try.func28, Try.ntmps28
  go_wp2
  go_loopw [5] (fun i wr => ∃ k : Nat, k ≤ l.length ∧ i = .int .i64 k ∧ Hid (∃ m, wr = w.drewN m)) (fun i _ => l.length - (intOf i).toNat)
  case atStart => exact ⟨0, Nat.zero_le _, rfl, 0, rfl⟩
  case round =>
    obtain ⟨k, hk, rfl, HM⟩ := hrel
    have hbw : Below w.heap.size w wr := by obtain ⟨m, rfl⟩ := HM.out; exact below_drewP (Below.refl _ _) m
    by_cases hlt : k < l.length
    · obtain ⟨b, off, z, rfl, hB, hz, q0, q1⟩ := h.at_ hlt
      obtain ⟨b', off', z', rfl, hB', hz', r0, r1⟩ := h'.at_ hlt
      rw [hz] at hz'
      obtain rfl : z = z' := by simpa using hz'
      have h1 := (bcell hbw hB _).trans q0
      have h2 := (bcell hbw hB _).trans q1
      have h3 := (bcell hbw hB' _).trans r0
      have h4 := (bcell hbw hB' _).trans r1
      clear q0 q1 r0 r1 h h' hz hz' hbw
      obtain ⟨z1, z2⟩ := z
      have hN := fun W => neq_mv W z1 z2
      go_wp2
      go_quiet (fail)
      go_wp2
      go_roundw
      case rel => exact ⟨k + 1, by omega, by go_num, by obtain ⟨m, hm⟩ := HM.out; exact ⟨_, by rw [hm, World.drewN_drewN]⟩⟩
      case measure => simp [intOf]; omega
    · clear h h' hbw
      go_wp2
      go_ret
      exact ⟨rfl, HM.out⟩
end Go.Proofs.Ytodjkifcbgmckaa
