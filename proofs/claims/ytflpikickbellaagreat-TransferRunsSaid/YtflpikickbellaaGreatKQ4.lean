/- Layer 32, plain: the order step by step; the plan; what the needles hold. Layer 32: a shift in memory; Same of ints and of pairs. Layer 32: the comparison of pairs. Layer 32: the reference's off and Moved. -/
import Derived.Test.YtflpikickbellaaGreatKQ3
import Derived.Test.YtflpikickbellaaGreatKQ0
import Derived.Test.YtflpikickbellaaGreatKQ1
import Derived.BigQuiet
import Derived.ChangeKeysEq
import Derived.Test.YtflpikickbellaaGreatShelf
namespace Go.Proofs.YtflpikickbellaaGreat
open Go.RowKit
set_option maxRecDepth 100000

theorem leftN_le (s : Sft) (come : Nat → Bool) : leftN s come ≤ s.n := by
  unfold leftN
  have := List.countP_le_length (p := waitN s come) (l := List.range s.n)
  rwa [List.length_range] at this
theorem left_pos {s : Sft} {come : Nat → Bool} {t : Int} (h : hasN s come t = true) : 0 < leftN s come := by
  obtain ⟨i, hi, -, hw⟩ := hasN_iff.1 h
  unfold leftN
  exact List.countP_pos_iff.2 ⟨i, List.mem_range.2 hi, hw⟩
theorem inner_end {s : Sft} {t : Int} {f : Nat} {come : Nat → Bool} {out : List Int} (h : hasN s come t = false) : innerN s t f come out = some (come, out) := by
  cases f with
  | zero => rfl
  | succ f => unfold innerN; rw [h]; rfl
theorem inner_go {s : Sft} {t : Int} {f : Nat} {come : Nat → Bool} {out : List Int} {i : Nat} (h : hasN s come t = true) (hp : pickN s come t = some i) :
    innerN s t (f + 1) come out = innerN s t f (putN come i) (out ++ [(i : Int)]) := by
  show (if hasN s come t then _ else _) = _
  rw [if_pos h, hp]
theorem inner_none {s : Sft} {t : Int} {f : Nat} {come : Nat → Bool} {out : List Int} (h : hasN s come t = true) (hp : pickN s come t = none) : innerN s t (f + 1) come out = none := by
  show (if hasN s come t then _ else _) = _
  rw [if_pos h, hp]
/-- A run of a stop under way, with fuel enough, that ends as R. -/
def InnR (s : Sft) (t : Int) (R : Option ((Nat → Bool) × List Int)) (come : Nat → Bool) (out : List Int) : Prop := ∃ f, leftN s come ≤ f ∧ innerN s t f come out = R
theorem InnR.new (s : Sft) (t : Int) (come : Nat → Bool) (out : List Int) : InnR s t (innerN s t s.n come out) come out := ⟨s.n, leftN_le s come, rfl⟩
theorem InnR.end_ {s : Sft} {t : Int} {R : Option ((Nat → Bool) × List Int)} {come : Nat → Bool} {out : List Int} (h : InnR s t R come out) (he : hasN s come t = false) : R = some (come, out) := by
  obtain ⟨f, -, h2⟩ := h
  rw [← h2, inner_end he]
theorem InnR.none {s : Sft} {t : Int} {R : Option ((Nat → Bool) × List Int)} {come : Nat → Bool} {out : List Int} (h : InnR s t R come out) (hh : hasN s come t = true) (hp : pickN s come t = none) : R = none := by
  obtain ⟨f, h1, h2⟩ := h
  have := left_pos hh
  obtain ⟨g, rfl⟩ : ∃ g, f = g + 1 := ⟨f - 1, by omega⟩
  rw [← h2, inner_none hh hp]
theorem InnR.go {s : Sft} {t : Int} {R : Option ((Nat → Bool) × List Int)} {come : Nat → Bool} {out : List Int} {i : Nat} (h : InnR s t R come out) (hh : hasN s come t = true) (hp : pickN s come t = some i) :
    InnR s t R (putN come i) (out ++ [(i : Int)]) := by
  obtain ⟨f, h1, h2⟩ := h
  obtain ⟨p1, -, p3, -⟩ := pickN_some hp
  have := leftN_put p1 p3
  obtain ⟨g, rfl⟩ : ∃ g, f = g + 1 := ⟨f - 1, by omega⟩
  rw [inner_go hh hp] at h2
  exact ⟨g, by omega, h2⟩
/-- A run of all stops under way. -/
def OutR (s : Sft) (R : Option (List Int)) (come : Nat → Bool) (out : List Int) : Prop := ∃ f, leftN s come ≤ f ∧ outerN s f come out = R
theorem OutR.new (s : Sft) (come : Nat → Bool) (out : List Int) : OutR s (outerN s s.n come out) come out := ⟨s.n, leftN_le s come, rfl⟩
theorem outer_end {s : Sft} {f : Nat} {come : Nat → Bool} {out : List Int} (h : stopsN s come = []) : outerN s f come out = some out := by
  cases f with
  | zero => rfl
  | succ f => show (if stopsN s come = [] then _ else _) = _; rw [if_pos h]
theorem OutR.end_ {s : Sft} {R : Option (List Int)} {come : Nat → Bool} {out : List Int} (h : OutR s R come out) (he : stopsN s come = []) : R = some out := by
  obtain ⟨f, -, h2⟩ := h
  rw [← h2, outer_end he]
theorem stops_pos {s : Sft} {come : Nat → Bool} (h : stopsN s come ≠ []) : ∃ t, hasN s come t = true := by
  obtain ⟨t, ht⟩ := List.exists_mem_of_ne_nil _ h
  exact ⟨t, (List.mem_filter.1 ht).2⟩
theorem OutR.none {s : Sft} {R : Option (List Int)} {come : Nat → Bool} {out : List Int} (h : OutR s R come out) (hh : stopsN s come ≠ []) (hp : nextN s come = none) : R = none := by
  obtain ⟨f, h1, h2⟩ := h
  obtain ⟨t, ht⟩ := stops_pos hh
  have := left_pos ht
  obtain ⟨g, rfl⟩ : ∃ g, f = g + 1 := ⟨f - 1, by omega⟩
  rw [← h2]
  show (if stopsN s come = [] then _ else _) = _
  rw [if_neg hh, hp]
theorem nextN_some {s : Sft} {come : Nat → Bool} {t : Int} (h : nextN s come = some t) : hasN s come t = true ∧ readyN s come t = true ∧ -8 ≤ t ∧ t ≤ 8 := by
  unfold nextN at h
  have h1 := List.find?_some h
  rw [Bool.and_eq_true] at h1
  have h2 := mem_stops.1 (List.mem_of_find?_eq_some h)
  exact ⟨h1.1, h1.2, h2.1, h2.2⟩
/-- The stop's run, and what comes of it. -/
theorem OutR.go {s : Sft} {R : Option (List Int)} {come : Nat → Bool} {out : List Int} {t : Int} (h : OutR s R come out) (hp : nextN s come = some t) :
    (innerN s t s.n come out = Option.none → R = Option.none) ∧ ∀ come' out', innerN s t s.n come out = some (come', out') → leftN s come' < leftN s come → OutR s R come' out' := by
  obtain ⟨f, h1, h2⟩ := h
  have hh := (nextN_some hp).1
  have hne : stopsN s come ≠ [] := fun e => by
    have : t ∈ stopsN s come := List.mem_filter.2 ⟨List.mem_of_find?_eq_some hp, hh⟩
    rw [e] at this; cases this
  have := left_pos hh
  obtain ⟨g, rfl⟩ : ∃ g, f = g + 1 := ⟨f - 1, by omega⟩
  have e : outerN s (g + 1) come out = match innerN s t s.n come out with | .none => .none | some r => outerN s g r.1 r.2 := by
    show (if stopsN s come = [] then _ else _) = _
    rw [if_neg hne, hp]
    try rfl
  rw [e] at h2
  constructor
  · intro hi
    rw [hi] at h2
    exact h2.symm
  · intro come' out' hi hl
    rw [hi] at h2
    exact ⟨g, by omega, h2⟩
/-! The plan. -/
def stackB (s : Sft) : Bool := s.to_.any fun t => decide (6 < s.to_.countP (fun u => decide (u = t)))
/-- What planned answers. -/
def plndE (s : Sft) : List Int × Int :=
  if (ordE s).2 ≠ 0 then ([], (ordE s).2) else if stackB s then ([], 4) else ordE s
def movedL (s : Sft) : List Nat := (List.range s.n).filter (movedN s)
end Go.Proofs.YtflpikickbellaaGreat
namespace Go.Proofs.YtflpikickbellaaGreat
open Go.RowKit Go.Shelf
set_option maxRecDepth 100000

theorem below_drewT {B : Nat} {w W : World} (h : Below B w W) (n : Nat) : Below B w (W.drewN n) := by
  obtain ⟨a, b, c, d, e⟩ := h
  exact ⟨a, b, c, d, e⟩
abbrev prC (p : Int × Int) : List Value := [.int .i64 p.1, .int .i64 p.2]
/-- A slice of pairs. -/
def SlPr (w : World) (B : Nat) (A : Option Addr) (l : List (Int × Int)) : Prop := SlS 2 w B A (l.map prC)
theorem SlPr.below {w w' : World} {B : Nat} {A : Option Addr} {l : List (Int × Int)} (h : SlPr w B A l) (hb : Below B w w') : SlPr w' B A l := SlS.below h hb
theorem SlPr.more {w : World} {B B' : Nat} {A : Option Addr} {l : List (Int × Int)} (h : SlPr w B A l) (hb : B ≤ B') : SlPr w B' A l := SlS.more h hb
theorem SlPr.nil {w : World} {B : Nat} {A : Option Addr} : SlPr w B A [] := fun h => absurd rfl h
theorem SlPr.at_ {w : World} {B : Nat} {A : Option Addr} {l : List (Int × Int)} (h : SlPr w B A l) {k : Nat} (hk : k < l.length) :
    ∃ b off p, A = some ⟨b, off, none⟩ ∧ b < B ∧ l[k]? = some p ∧ w.cell? ⟨b, off + k * 2, none⟩ = some (.int .i64 p.1) ∧ w.cell? ⟨b, off + k * 2 + 1, none⟩ = some (.int .i64 p.2) := by
  obtain ⟨b, off, cs, e, hB, hz, hc⟩ := SlS.at_ h (k := k) (by simpa using hk)
  rw [List.getElem?_map] at hz
  cases hl : l[k]? with
  | none => rw [hl] at hz; cases hz
  | some i =>
    rw [hl] at hz
    simp only [Option.map_some, Option.some.injEq] at hz
    subst hz
    exact ⟨b, off, i, e, hB, rfl, hc 0 _ rfl, hc 1 _ rfl⟩
/-- A shift's two slices, as they lie. -/
structure SfAt (A F : Option Addr) (s : Sft) (W : World) : Prop where
  tz : SlI W W.heap.size A s.to_
  fr : SlPr W W.heap.size F s.first
theorem SfAt.to {A F : Option Addr} {s : Sft} {W W' : World} (h : SfAt A F s W) (hb : Below W.heap.size W W') : SfAt A F s W' := ⟨(h.tz.below hb).more hb.size, (h.fr.below hb).more hb.size⟩
abbrev sftV (A F : Option Addr) (c fc : Nat) (s : Sft) : Value := .agg #[.slice A s.to_.length c, .slice F s.first.length fc]
abbrev sftB (A F : Option Addr) (c fc : Nat) (s : Sft) : Obj := .cells #[.slice A s.to_.length c, .slice F s.first.length fc] 25
/-- A shift in a box. -/
structure SfBx (pb : Nat) (A F : Option Addr) (c fc : Nat) (s : Sft) (W : World) : Prop where
  c0 : W.cell? ⟨pb, 0, none⟩ = some (.slice A s.to_.length c)
  c1 : W.cell? ⟨pb, 1, none⟩ = some (.slice F s.first.length fc)
  at_ : SfAt A F s W
theorem SfBx.to {pb : Nat} {A F : Option Addr} {c fc : Nat} {s : Sft} {W W' : World} (h : SfBx pb A F c fc s W) (hb : Below W.heap.size W W') : SfBx pb A F c fc s W' :=
  ⟨(bcell hb (lt_of_cell h.c0) _).trans h.c0, (bcell hb (lt_of_cell h.c1) _).trans h.c1, h.at_.to hb⟩
theorem SfBx.new {A F : Option Addr} (c fc : Nat) {s : Sft} {W : World} (h : SfAt A F s W) : SfBx W.heap.size A F c fc s (W.alloc (sftB A F c fc s)) :=
  ⟨cell_new rfl rfl rfl, cell_new rfl rfl rfl, h.to ((Below.refl _ W).alloc (Nat.le_refl _) _)⟩
theorem al_t (W : World) (o : Obj) : Below W.heap.size W (W.alloc o) := (Below.refl _ _).alloc (Nat.le_refl _) o
/-- A loop's needle, and a pair, as they are read. -/
theorem SfBx.to_at {pb : Nat} {A F : Option Addr} {c fc : Nat} {s : Sft} {W : World} (h : SfBx pb A F c fc s W) {i : Nat} (hi : i < s.n) :
    ∃ b off, A = some ⟨b, off, none⟩ ∧ W.cell? ⟨b, off + i, none⟩ = some (.int .i64 (s.to_.getD i 0)) := by
  obtain ⟨b, off, z, e, -, hz, hc⟩ := h.at_.tz.at_ hi
  refine ⟨b, off, e, ?_⟩
  rw [List.getD_eq_getElem?_getD, hz]
  exact hc
set_option maxHeartbeats 1000000 in
theorem sameI_any (A A' : Option Addr) (c c' : Nat) (l : List Int) (w : World) (h : SlI w w.heap.size A l) (h' : SlI w w.heap.size A' l) (hn : l.length ≤ 4611686018427387904) :
    Calls Tryz.prog 19 #[.slice A l.length c, .slice A' l.length c'] w fun e w' => e = .returned (.bool true) ∧ ∃ m, w' = w.drewN m := by
  have hne : (((l.length : Nat) : Int) == ((l.length : Nat) : Int)) = true := by simp
  go_enter Tryz.func19, Tryz.ntmps19
  go_wp2
  go_loopw [5] (fun i wr => ∃ k : Nat, k ≤ l.length ∧ i = .int .i64 k ∧ Hid (∃ m, wr = w.drewN m)) (fun i _ => l.length - (intOf i).toNat)
  case atStart => exact ⟨0, Nat.zero_le _, rfl, 0, rfl⟩
  case round =>
    obtain ⟨k, hk, rfl, HM⟩ := hrel
    have hbw : Below w.heap.size w wr := by obtain ⟨m, rfl⟩ := HM.out; exact below_drewT (Below.refl _ _) m
    by_cases hlt : k < l.length
    · obtain ⟨b, off, z, rfl, hB, hz, hc⟩ := h.at_ hlt
      obtain ⟨b', off', z', rfl, hB', hz', hc'⟩ := h'.at_ hlt
      rw [hz] at hz'
      obtain rfl : z = z' := by simpa using hz'
      have h1 := (bcell hbw hB _).trans hc
      have h2 := (bcell hbw hB' _).trans hc'
      clear hc hc' h h' hz hz' hbw
      go_wp2
      go_quiet (fail)
      go_wp2
      go_roundw
      case rel => exact ⟨k + 1, by omega, by go_num, by obtain ⟨m, hm⟩ := HM.out; exact ⟨_, by rw [hm, World.drewN_drewN]⟩⟩
      case measure => simp [intOf]; omega
    · clear h h' hbw
      go_wp2
      go_ret
      exact ⟨rfl, HM.out⟩
end Go.Proofs.YtflpikickbellaaGreat
namespace Go.Proofs.YtflpikickbellaaGreat
open Go.RowKit Go.Shelf Go.Sort
set_option maxRecDepth 100000

/-- What order answers. -/
def cmpP (p q : Int × Int) : Int := if Lib.compareInt p.1 q.1 != 0 then Lib.compareInt p.1 q.1 else Lib.compareInt p.2 q.2
set_option maxHeartbeats 2000000 in
theorem scmp_any (b o cp b' o' cp' : Nat) (p q : Int × Int) (w : World) (h0 : w.cell? ⟨b, o, none⟩ = some (.int .i64 p.1)) (h1 : w.cell? ⟨b, o + 1, none⟩ = some (.int .i64 p.2)) (g0 : w.cell? ⟨b', o', none⟩ = some (.int .i64 q.1)) (g1 : w.cell? ⟨b', o' + 1, none⟩ = some (.int .i64 q.2)) :
    Calls Tryz.prog 42 #[.slice (some ⟨b, o, none⟩) 2 cp, .slice (some ⟨b', o', none⟩) 2 cp'] w fun e w' => e = .returned (.int .i64 (cmpP p q)) ∧ w' = w := by
  obtain ⟨a, c⟩ := p
  obtain ⟨x, y⟩ := q
  simp only at h0 h1 g0 g1
  have HC := Lib.hid (fun x y w => Tryz.cmp_Compare_int x y w)
  have HE : Hid (cmpP (a, c) (x, y) = if Lib.compareInt a x != 0 then Lib.compareInt a x else Lib.compareInt c y) := rfl
  generalize h1' : Lib.compareInt a x = z1 at HE
  generalize h2' : Lib.compareInt c y = z2 at HE
  have HC1 : Hid (Calls Tryz.prog 88 #[.int .i64 a, .int .i64 x] w fun e w' => e = .returned (.int .i64 z1) ∧ w' = w) := by subst h1'; exact HC.out a x w
  have HC2 : Hid (Calls Tryz.prog 88 #[.int .i64 c, .int .i64 y] w fun e w' => e = .returned (.int .i64 z2) ∧ w' = w) := by subst h2'; exact HC.out c y w
  clear h1' h2' HC
  go_enter Tryz.func42, Tryz.ntmps42
  go_wp2
  go_loopw [11] (fun s11 wr => ∃ k : Nat, k ≤ 2 ∧ s11 = .int .i64 (k : Int) ∧ (0 < k → z1 = 0) ∧ (1 < k → z2 = 0) ∧ wr = w) (fun s11 _ => 2 - (intOf s11).toNat)
  case atStart => exact ⟨0, by omega, rfl, fun h => absurd h (by omega), fun h => absurd h (by omega), rfl⟩
  case round =>
    obtain ⟨k, hk, rfl, hz1, hz2, rfl⟩ := hrel
    match k, hk, hz1, hz2 with
    | 0, _, _, _ =>
      by_cases h : z1 = 0
      · have HE' : Hid (z1 = 0) := h
        subst h
        clear g1 h1
        go_wp2_with ((go_at_call 88; refine HC1.out.mono ?_; rintro e w' ⟨rfl, rfl⟩))
        go_roundw
        case rel => exact ⟨1, by omega, by go_num, fun _ => (by first | trivial | rfl), fun h => absurd h (by omega), by first | trivial | rfl⟩
        case measure => simp [intOf]
      · have hn : (z1 != 0) = true := by simpa using h
        have HF : Hid (cmpP (a, c) (x, y) = z1) := by show _ = _; rw [HE.out, if_pos hn]
        clear g1 h1 HE h
        go_wp2_with ((go_at_call 88; refine HC1.out.mono ?_; rintro e w' ⟨rfl, rfl⟩))
        go_ret
        exact ⟨ret_int HF.out.symm, rfl⟩
    | 1, _, hz1, _ =>
      obtain rfl := hz1 (by omega)
      have HF : Hid (cmpP (a, c) (x, y) = z2) := by show _ = _; rw [HE.out]; rfl
      by_cases h : z2 = 0
      · subst h
        clear g0 h0 HE HF
        go_wp2_with ((go_at_call 88; refine HC2.out.mono ?_; rintro e w' ⟨rfl, rfl⟩))
        go_roundw
        case rel => exact ⟨2, by omega, by go_num, fun _ => (by first | trivial | rfl), fun _ => (by first | trivial | rfl), by first | trivial | rfl⟩
        case measure => simp [intOf]
      · have hn : (z2 != 0) = true := by simpa using h
        clear g0 h0 HE h
        go_wp2_with ((go_at_call 88; refine HC2.out.mono ?_; rintro e w' ⟨rfl, rfl⟩))
        go_ret
        exact ⟨ret_int HF.out.symm, rfl⟩
    | 2, _, hz1, hz2 =>
      obtain rfl := hz1 (by omega)
      obtain rfl := hz2 (by omega)
      have HF : Hid (cmpP (a, c) (x, y) = 0) := by show _ = _; rw [HE.out]; rfl
      clear HE h0 h1 g0 g1
      go_wp2
      go_ret
      exact ⟨ret_int HF.out.symm, rfl⟩
abbrev prV (p : Int × Int) : Value := .agg #[.int .i64 p.1, .int .i64 p.2]
theorem cmpP_ge (p q : Int × Int) : decide (0 ≤ cmpP p q) = !(ltP p q) := by
  unfold cmpP ltP Lib.compareInt
  rw [Bool.eq_iff_iff]
  by_cases h1 : p.1 < q.1
  · simp [h1]
  · by_cases h2 : p.1 > q.1
    · have h3 : ¬ p.1 = q.1 := by omega
      simp [h1, h2, h3]
    · have h3 : p.1 = q.1 := by omega
      by_cases h4 : p.2 < q.2
      · simp [h3, h4]
      · by_cases h5 : p.2 > q.2
        · simp [h3, h4, h5]
        · simp [h3, h4, h5]
end Go.Proofs.YtflpikickbellaaGreat
namespace Go.Proofs.YtflpikickbellaaGreat
open Go.RowKit Go.Shelf Go.Sort
set_option maxRecDepth 100000

set_option maxHeartbeats 2000000 in
theorem roff_any (A F : Option Addr) (c fc : Nat) (s : Sft) (i : Nat) (hi : i < s.n) (h0 : 0 ≤ s.to_.getD i 0) (h1 : s.to_.getD i 0 ≤ 100) (hn : s.n ≤ 1000) (w : World) (h : SfAt A F s w) :
    Calls Tryz.prog 24 #[sftV A F c fc s, .int .i64 (i : Int)] w fun e w' => e = .returned (.int .i64 (offN s i)) ∧ Below w.heap.size w w' := by
  have hbx := SfBx.new c fc h
  obtain ⟨b, off, hA, hcl⟩ := hbx.to_at hi
  have c0 := hbx.c0
  have HF : Hid (offN s i = s.to_.getD i 0 - (i : Int)) := rfl
  obtain ⟨z, hz⟩ : ∃ z, z = s.to_.getD i 0 := ⟨_, rfl⟩
  rw [← hz] at h0 h1 hcl HF
  have HB := Lib.hid (al_t w (sftB A F c fc s))
  have hi' : i < s.to_.length := hi
  have hn' : s.to_.length ≤ 1000 := hn
  subst hA
  clear h hbx hz hi hn
  go_enter Tryz.func24, Tryz.ntmps24
  go_wp2
  go_ret
  exact ⟨ret_int HF.out.symm, HB.out⟩
/-- off and its like, at every later world. -/
theorem roff_later {A F : Option Addr} (c fc : Nat) {s : Sft} (hs : SftOk s) {W0 : World} (h : SfAt A F s W0) :
    ∀ (i : Nat) (W : World), i < s.n → Below W0.heap.size W0 W → Calls Tryz.prog 24 #[sftV A F c fc s, .int .i64 (i : Int)] W fun e w' => e = .returned (.int .i64 (offN s i)) ∧ Below W.heap.size W w' := fun i W hi hb =>
  roff_any A F c fc s i hi (hs.to_ i hi).1 (hs.to_ i hi).2.1 (by have := hs.len; omega) W (h.to hb)
/-- No pair before the k-th ends at the loop. -/
def pairTo (s : Sft) (i k : Nat) : Prop := ∀ (j : Nat) (p : Int × Int), j < k → s.first[j]? = some p → p.2 ≠ (i : Int)
end Go.Proofs.YtflpikickbellaaGreat
