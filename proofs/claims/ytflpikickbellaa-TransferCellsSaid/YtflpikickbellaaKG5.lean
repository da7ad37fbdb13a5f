/- Layer 32: a shift in memory; Same of ints and of pairs. Layer 32: the comparison of pairs. -/
import Derived.Test.YtflpikickbellaaKG2
import Derived.Test.YtflpikickbellaaKG1
import Derived.Test.YtflpikickbellaaKG3
import Derived.BigQuiet
import Derived.ChangeKeysEq
import Derived.Test.YtflpikickbellaaShelf
namespace Go.Proofs.Ytflpikickbellaa
open Go.RowKit Go.Shelf
set_option maxRecDepth 100000

theorem below_drewT {B : Nat} {w W : World} (h : Below B w W) (n : Nat) : Below B w (W.drewN n) := by
  obtain ⟨a, b, c, d, e⟩ := h
  exact ⟨a, b, c, d, e⟩
abbrev prC (p : Int × Int) : List Value := [.int .i64 p.1, .int .i64 p.2]
/-- A slice of pairs. -/
def SlPr (w : World) (B : Nat) (A : Option Addr) (l : List (Int × Int)) : Prop := SlS 2 w B A (l.map prC)
theorem SlPr.below {w w' : World} {B : Nat} {A : Option Addr} {l : List (Int × Int)} (h : SlPr w B A l) (hb : Below B w w') : SlPr w' B A l := SlS.below h hb
theorem SlPr.more {w : World} {B B' : Nat} {A : Option Addr} {l : List (Int × Int)} (h : SlPr w B A l) (hb : B ≤ B') : SlPr w B' A l := SlS.more h hb
theorem SlPr.nil {w : World} {B : Nat} {A : Option Addr} : SlPr w B A [] := fun h => absurd rfl h
theorem SlPr.at_ {w : World} {B : Nat} {A : Option Addr} {l : List (Int × Int)} (h : SlPr w B A l) {k : Nat} (hk : k < l.length) :
    ∃ b off p, A = some ⟨b, off, none⟩ ∧ b < B ∧ l[k]? = some p ∧ w.cell? ⟨b, off + k * 2, none⟩ = some (.int .i64 p.1) ∧ w.cell? ⟨b, off + k * 2 + 1, none⟩ = some (.int .i64 p.2) := by
  obtain ⟨b, off, cs, e, hB, hz, hc⟩ := SlS.at_ h (k := k) (by simpa using hk)
  rw [List.getElem?_map] at hz
  cases hl : l[k]? with
  | none => rw [hl] at hz; cases hz
  | some i =>
    rw [hl] at hz
    simp only [Option.map_some, Option.some.injEq] at hz
    subst hz
    exact ⟨b, off, i, e, hB, rfl, hc 0 _ rfl, hc 1 _ rfl⟩
/-- A shift's two slices, as they lie. -/
structure SfAt (A F : Option Addr) (s : Sft) (W : World) : Prop where
  tz : SlI W W.heap.size A s.to_
  fr : SlPr W W.heap.size F s.first
theorem SfAt.to {A F : Option Addr} {s : Sft} {W W' : World} (h : SfAt A F s W) (hb : Below W.heap.size W W') : SfAt A F s W' := ⟨(h.tz.below hb).more hb.size, (h.fr.below hb).more hb.size⟩
abbrev sftV (A F : Option Addr) (c fc : Nat) (s : Sft) : Value := .agg #[.slice A s.to_.length c, .slice F s.first.length fc]
abbrev sftB (A F : Option Addr) (c fc : Nat) (s : Sft) : Obj := .cells #[.slice A s.to_.length c, .slice F s.first.length fc] 25
/-- A shift in a box. -/
structure SfBx (pb : Nat) (A F : Option Addr) (c fc : Nat) (s : Sft) (W : World) : Prop where
  c0 : W.cell? ⟨pb, 0, none⟩ = some (.slice A s.to_.length c)
  c1 : W.cell? ⟨pb, 1, none⟩ = some (.slice F s.first.length fc)
  at_ : SfAt A F s W
theorem SfBx.to {pb : Nat} {A F : Option Addr} {c fc : Nat} {s : Sft} {W W' : World} (h : SfBx pb A F c fc s W) (hb : Below W.heap.size W W') : SfBx pb A F c fc s W' :=
  ⟨(bcell hb (lt_of_cell h.c0) _).trans h.c0, (bcell hb (lt_of_cell h.c1) _).trans h.c1, h.at_.to hb⟩
theorem SfBx.new {A F : Option Addr} (c fc : Nat) {s : Sft} {W : World} (h : SfAt A F s W) : SfBx W.heap.size A F c fc s (W.alloc (sftB A F c fc s)) :=
  ⟨cell_new rfl rfl rfl, cell_new rfl rfl rfl, h.to ((Below.refl _ W).alloc (Nat.le_refl _) _)⟩
theorem al_t (W : World) (o : Obj) : Below W.heap.size W (W.alloc o) := (Below.refl _ _).alloc (Nat.le_refl _) o
/-- A loop's needle, and a pair, as they are read. -/
theorem SfBx.to_at {pb : Nat} {A F : Option Addr} {c fc : Nat} {s : Sft} {W : World} (h : SfBx pb A F c fc s W) {i : Nat} (hi : i < s.n) :
    ∃ b off, A = some ⟨b, off, none⟩ ∧ W.cell? ⟨b, off + i, none⟩ = some (.int .i64 (s.to_.getD i 0)) := by
  obtain ⟨b, off, z, e, -, hz, hc⟩ := h.at_.tz.at_ hi
  refine ⟨b, off, e, ?_⟩
  rw [List.getD_eq_getElem?_getD, hz]
  exact hc
set_option maxHeartbeats 1000000 in
theorem sameI_any (A A' : Option Addr) (c c' : Nat) (l : List Int) (w : World) (h : SlI w w.heap.size A l) (h' : SlI w w.heap.size A' l) (hn : l.length ≤ 4611686018427387904) :
    Calls Try.prog 17 #[.slice A l.length c, .slice A' l.length c'] w fun e w' => e = .returned (.bool true) ∧ ∃ m, w' = w.drewN m := by
  have hne : (((l.length : Nat) : Int) == ((l.length : Nat) : Int)) = true := by simp
  go_enter Try.func17, Try.ntmps17
  go_wp2
  go_loopw [5] (fun i wr => ∃ k : Nat, k ≤ l.length ∧ i = .int .i64 k ∧ Hid (∃ m, wr = w.drewN m)) (fun i _ => l.length - (intOf i).toNat)
  case atStart => exact ⟨0, Nat.zero_le _, rfl, 0, rfl⟩
  case round =>
    obtain ⟨k, hk, rfl, HM⟩ := hrel
    have hbw : Below w.heap.size w wr := by obtain ⟨m, rfl⟩ := HM.out; exact below_drewT (Below.refl _ _) m
    by_cases hlt : k < l.length
    · obtain ⟨b, off, z, rfl, hB, hz, hc⟩ := h.at_ hlt
      obtain ⟨b', off', z', rfl, hB', hz', hc'⟩ := h'.at_ hlt
      rw [hz] at hz'
      obtain rfl : z = z' := by simpa using hz'
      have h1 := (bcell hbw hB _).trans hc
      have h2 := (bcell hbw hB' _).trans hc'
      clear hc hc' h h' hz hz' hbw
      go_wp2
      go_quiet (fail)
      go_wp2
      go_roundw
      case rel => exact ⟨k + 1, by omega, by go_num, by obtain ⟨m, hm⟩ := HM.out; exact ⟨_, by rw [hm, World.drewN_drewN]⟩⟩
      case measure => simp [intOf]; omega
    · clear h h' hbw
      go_wp2
      go_ret
      exact ⟨rfl, HM.out⟩
end Go.Proofs.Ytflpikickbellaa
namespace Go.Proofs.Ytflpikickbellaa
open Go.RowKit Go.Shelf Go.Sort
set_option maxRecDepth 100000

/-- What order answers. -/
def cmpP (p q : Int × Int) : Int := if Lib.compareInt p.1 q.1 != 0 then Lib.compareInt p.1 q.1 else Lib.compareInt p.2 q.2
set_option maxHeartbeats 2000000 in
theorem scmp_any (b o cp b' o' cp' : Nat) (p q : Int × Int) (w : World) (h0 : w.cell? ⟨b, o, none⟩ = some (.int .i64 p.1)) (h1 : w.cell? ⟨b, o + 1, none⟩ = some (.int .i64 p.2)) (g0 : w.cell? ⟨b', o', none⟩ = some (.int .i64 q.1)) (g1 : w.cell? ⟨b', o' + 1, none⟩ = some (.int .i64 q.2)) :
    Calls Try.prog 50 #[.slice (some ⟨b, o, none⟩) 2 cp, .slice (some ⟨b', o', none⟩) 2 cp'] w fun e w' => e = .returned (.int .i64 (cmpP p q)) ∧ w' = w := by
  obtain ⟨a, c⟩ := p
  obtain ⟨x, y⟩ := q
  simp only at h0 h1 g0 g1
  have HC := Lib.hid (fun x y w => Try.cmp_Compare_int x y w)
  have HE : Hid (cmpP (a, c) (x, y) = if Lib.compareInt a x != 0 then Lib.compareInt a x else Lib.compareInt c y) := rfl
  generalize h1' : Lib.compareInt a x = z1 at HE
  generalize h2' : Lib.compareInt c y = z2 at HE
  have HC1 : Hid (Calls Try.prog 70 #[.int .i64 a, .int .i64 x] w fun e w' => e = .returned (.int .i64 z1) ∧ w' = w) := by subst h1'; exact HC.out a x w
  have HC2 : Hid (Calls Try.prog 70 #[.int .i64 c, .int .i64 y] w fun e w' => e = .returned (.int .i64 z2) ∧ w' = w) := by subst h2'; exact HC.out c y w
  clear h1' h2' HC
  go_enter Try.func50, Try.ntmps50
  go_wp2
  go_loopw [11] (fun s11 wr => ∃ k : Nat, k ≤ 2 ∧ s11 = .int .i64 (k : Int) ∧ (0 < k → z1 = 0) ∧ (1 < k → z2 = 0) ∧ wr = w) (fun s11 _ => 2 - (intOf s11).toNat)
  case atStart => exact ⟨0, by omega, rfl, fun h => absurd h (by omega), fun h => absurd h (by omega), rfl⟩
  case round =>
    obtain ⟨k, hk, rfl, hz1, hz2, rfl⟩ := hrel
    match k, hk, hz1, hz2 with
    | 0, _, _, _ =>
      by_cases h : z1 = 0
      · have HE' : Hid (z1 = 0) := h
        subst h
        clear g1 h1
        go_wp2_with ((go_at_call 70; refine HC1.out.mono ?_; rintro e w' ⟨rfl, rfl⟩))
        go_roundw
        case rel => exact ⟨1, by omega, by go_num, fun _ => (by first | trivial | rfl), fun h => absurd h (by omega), by first | trivial | rfl⟩
        case measure => simp [intOf]
      · have hn : (z1 != 0) = true := by simpa using h
        have HF : Hid (cmpP (a, c) (x, y) = z1) := by show _ = _; rw [HE.out, if_pos hn]
        clear g1 h1 HE h
        go_wp2_with ((go_at_call 70; refine HC1.out.mono ?_; rintro e w' ⟨rfl, rfl⟩))
        go_ret
        exact ⟨ret_int HF.out.symm, rfl⟩
    | 1, _, hz1, _ =>
      obtain rfl := hz1 (by omega)
      have HF : Hid (cmpP (a, c) (x, y) = z2) := by show _ = _; rw [HE.out]; rfl
      by_cases h : z2 = 0
      · subst h
        clear g0 h0 HE HF
        go_wp2_with ((go_at_call 70; refine HC2.out.mono ?_; rintro e w' ⟨rfl, rfl⟩))
        go_roundw
        case rel => exact ⟨2, by omega, by go_num, fun _ => (by first | trivial | rfl), fun _ => (by first | trivial | rfl), by first | trivial | rfl⟩
        case measure => simp [intOf]
      · have hn : (z2 != 0) = true := by simpa using h
        clear g0 h0 HE h
        go_wp2_with ((go_at_call 70; refine HC2.out.mono ?_; rintro e w' ⟨rfl, rfl⟩))
        go_ret
        exact ⟨ret_int HF.out.symm, rfl⟩
    | 2, _, hz1, hz2 =>
      obtain rfl := hz1 (by omega)
      obtain rfl := hz2 (by omega)
      have HF : Hid (cmpP (a, c) (x, y) = 0) := by show _ = _; rw [HE.out]; rfl
      clear HE h0 h1 g0 g1
      go_wp2
      go_ret
      exact ⟨ret_int HF.out.symm, rfl⟩
abbrev prV (p : Int × Int) : Value := .agg #[.int .i64 p.1, .int .i64 p.2]
theorem cmpP_ge (p q : Int × Int) : decide (0 ≤ cmpP p q) = !(ltP p q) := by
  unfold cmpP ltP Lib.compareInt
  rw [Bool.eq_iff_iff]
  by_cases h1 : p.1 < q.1
  · simp [h1]
  · by_cases h2 : p.1 > q.1
    · have h3 : ¬ p.1 = q.1 := by omega
      simp [h1, h2, h3]
    · have h3 : p.1 = q.1 := by omega
      by_cases h4 : p.2 < q.2
      · simp [h3, h4]
      · by_cases h5 : p.2 > q.2
        · simp [h3, h4, h5]
        · simp [h3, h4, h5]
end Go.Proofs.Ytflpikickbellaa
