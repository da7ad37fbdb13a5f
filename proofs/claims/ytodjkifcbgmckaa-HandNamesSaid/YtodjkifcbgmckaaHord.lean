/- Layer 29: order, the comparison of pairs. -/
import Derived.Test.YtodjkifcbgmckaaHch
import Derived.Test.YtodjkifcbgmckaaHb0
import Derived.Test.YtodjkifcbgmckaaHsm
namespace Go.Proofs.Ytodjkifcbgmckaa
open Go.RowKit Go.Shelf Go.Sort
set_option maxRecDepth 100000

/-- What order answers. -/
def cmpP (p q : Int × Int) : Int := if Lib.compareInt p.1 q.1 != 0 then Lib.compareInt p.1 q.1 else Lib.compareInt p.2 q.2
set_option maxHeartbeats 2000000 in
theorem scmp_any (b b' : Nat) (p q : Int × Int) (w : World) (h0 : w.cell? ⟨b, 0, none⟩ = some (.int .i64 p.1)) (h1 : w.cell? ⟨b, 1, none⟩ = some (.int .i64 p.2)) (g0 : w.cell? ⟨b', 0, none⟩ = some (.int .i64 q.1)) (g1 : w.cell? ⟨b', 1, none⟩ = some (.int .i64 q.2)) :
    Calls Try.prog 63 #[.slice (some ⟨b, 0, none⟩) 2 2, .slice (some ⟨b', 0, none⟩) 2 2] w fun e w' => e = .returned (.int .i64 (cmpP p q)) ∧ w' = w := by
  obtain ⟨a, c⟩ := p
  obtain ⟨x, y⟩ := q
  simp only at h0 h1 g0 g1
  have HC := Lib.hid (fun x y w => Try.cmp_Compare_int x y w)
  have HE : Hid (cmpP (a, c) (x, y) = if Lib.compareInt a x != 0 then Lib.compareInt a x else Lib.compareInt c y) := rfl
  generalize h1' : Lib.compareInt a x = z1 at HE
  generalize h2' : Lib.compareInt c y = z2 at HE
  have HC1 : Hid (Calls Try.prog 67 #[.int .i64 a, .int .i64 x] w fun e w' => e = .returned (.int .i64 z1) ∧ w' = w) := by subst h1'; exact HC.out a x w
  have HC2 : Hid (Calls Try.prog 67 #[.int .i64 c, .int .i64 y] w fun e w' => e = .returned (.int .i64 z2) ∧ w' = w) := by subst h2'; exact HC.out c y w
  clear h1' h2' HC
  go_enter Try.func63, Try.ntmps63
  go_wp2
  go_loopw [11] (fun s11 wr => ∃ k : Nat, k ≤ 2 ∧ s11 = .int .i64 (k : Int) ∧ (0 < k → z1 = 0) ∧ (1 < k → z2 = 0) ∧ wr = w) (fun s11 _ => 2 - (intOf s11).toNat)
  case atStart => exact ⟨0, by omega, rfl, fun h => absurd h (by omega), fun h => absurd h (by omega), rfl⟩
  case round =>
    obtain ⟨k, hk, rfl, hz1, hz2, rfl⟩ := hrel
    match k, hk, hz1, hz2 with
    | 0, _, _, _ =>
      by_cases h : z1 = 0
      · have HE' : Hid (z1 = 0) := h
        subst h
        clear g1 h1
        go_wp2_with ((go_at_call 67; refine HC1.out.mono ?_; rintro e w' ⟨rfl, rfl⟩))
        go_roundw
        case rel => exact ⟨1, by omega, by go_num, fun _ => (by first | trivial | rfl), fun h => absurd h (by omega), by first | trivial | rfl⟩
        case measure => simp [intOf]
      · have hn : (z1 != 0) = true := by simpa using h
        have HF : Hid (cmpP (a, c) (x, y) = z1) := by show _ = _; rw [HE.out, if_pos hn]
        clear g1 h1 HE h
        go_wp2_with ((go_at_call 67; refine HC1.out.mono ?_; rintro e w' ⟨rfl, rfl⟩))
        go_ret
        exact ⟨ret_int HF.out.symm, rfl⟩
    | 1, _, hz1, _ =>
      obtain rfl := hz1 (by omega)
      have HF : Hid (cmpP (a, c) (x, y) = z2) := by show _ = _; rw [HE.out]; rfl
      by_cases h : z2 = 0
      · subst h
        clear g0 h0 HE HF
        go_wp2_with ((go_at_call 67; refine HC2.out.mono ?_; rintro e w' ⟨rfl, rfl⟩))
        go_roundw
        case rel => exact ⟨2, by omega, by go_num, fun _ => (by first | trivial | rfl), fun _ => (by first | trivial | rfl), by first | trivial | rfl⟩
        case measure => simp [intOf]
      · have hn : (z2 != 0) = true := by simpa using h
        clear g0 h0 HE h
        go_wp2_with ((go_at_call 67; refine HC2.out.mono ?_; rintro e w' ⟨rfl, rfl⟩))
        go_ret
        exact ⟨ret_int HF.out.symm, rfl⟩
    | 2, _, hz1, hz2 =>
      obtain rfl := hz1 (by omega)
      obtain rfl := hz2 (by omega)
      have HF : Hid (cmpP (a, c) (x, y) = 0) := by show _ = _; rw [HE.out]; rfl
      clear HE h0 h1 g0 g1
      go_wp2
      go_ret
      exact ⟨ret_int HF.out.symm, rfl⟩
abbrev prV (p : Int × Int) : Value := .agg #[.int .i64 p.1, .int .i64 p.2]
set_option maxHeartbeats 2000000 in
theorem order_any (p q : Int × Int) (w : World) :
    Calls Try.prog 45 #[prV p, prV q] w fun e w' => e = .returned (.int .i64 (cmpP p q)) ∧ Below w.heap.size w w' := by
  obtain ⟨a, c⟩ := p
  obtain ⟨x, y⟩ := q
  have HC := Lib.hid (fun b b' w h0 h1 g0 g1 => scmp_any b b' (a, c) (x, y) w h0 h1 g0 g1)
  have HB := Lib.hid (((Below.refl _ w).alloc (Nat.le_refl _) (.cells #[.int .i64 a, .int .i64 c] 66)).alloc (by simp) (.cells #[.int .i64 x, .int .i64 y] 66))
  have h0 : ∀ o, (((w.alloc (.cells #[.int .i64 a, .int .i64 c] 66)).alloc o)).cell? ⟨w.heap.size, 0, none⟩ = some (.int .i64 a) := fun o => cell_al (cell_new rfl rfl rfl) o
  have h1 : ∀ o, (((w.alloc (.cells #[.int .i64 a, .int .i64 c] 66)).alloc o)).cell? ⟨w.heap.size, 1, none⟩ = some (.int .i64 c) := fun o => cell_al (cell_new rfl rfl rfl) o
  have g0 : ((w.alloc (.cells #[.int .i64 a, .int .i64 c] 66)).alloc (.cells #[.int .i64 x, .int .i64 y] 66)).cell? ⟨w.heap.size + 1, 0, none⟩ = some (.int .i64 x) := cell_new rfl (by simp) rfl
  have g1 : ((w.alloc (.cells #[.int .i64 a, .int .i64 c] 66)).alloc (.cells #[.int .i64 x, .int .i64 y] 66)).cell? ⟨w.heap.size + 1, 1, none⟩ = some (.int .i64 y) := cell_new rfl (by simp) rfl
  have HG := Lib.hid (HC.out w.heap.size (w.heap.size + 1) ((w.alloc (.cells #[.int .i64 a, .int .i64 c] 66)).alloc (.cells #[.int .i64 x, .int .i64 y] 66)).drew (h0 _) (h1 _) g0 g1)
  clear h0 h1 g0 g1 HC
  go_enter Try.func45, Try.ntmps45
  go_upto_region 1 with fail
  go_region_with (first | (go_at_call 63; refine HG.out.mono ?_; rintro e w' ⟨rfl, rfl⟩))
  all_goals
    go_wp2
    go_ret
    exact ⟨rfl, HB.out.drew⟩
end Go.Proofs.Ytodjkifcbgmckaa
