/- Layer 32, plain. -/
import Derived.Test.YtflpikickbellaaGreatZ4
import Derived.Test.YtflpikickbellaaGreatZ1
import Derived.ChangeKeysEq
namespace Go.Proofs.YtflpikickbellaaGreat
open Go.RowKit
set_option maxRecDepth 100000
theorem leftN_le (s : Sft) (come : Nat → Bool) : leftN s come ≤ s.n := by
 unfold leftN
 have := List.countP_le_length (p := waitN s come) (l := List.range s.n)
 rwa [List.length_range] at this
theorem left_pos {s : Sft} {come : Nat → Bool} {t : Int} (h : hasN s come t = true) : 0 < leftN s come := by
 obtain ⟨i, hi, -, hw⟩ := hasN_iff.1 h
 unfold leftN
 exact List.countP_pos_iff.2 ⟨i, List.mem_range.2 hi, hw⟩
theorem inner_end {s : Sft} {t : Int} {f : Nat} {come : Nat → Bool} {out : List Int} (h : hasN s come t = false) : innerN s t f come out = some (come, out) := by
 cases f with
 | zero => rfl
 | succ f => unfold innerN; rw [h]; rfl
theorem inner_go {s : Sft} {t : Int} {f : Nat} {come : Nat → Bool} {out : List Int} {i : Nat} (h : hasN s come t = true) (hp : pickN s come t = some i) :
 innerN s t (f + 1) come out = innerN s t f (putN come i) (out ++ [(i : Int)]) := by
 show (if hasN s come t then _ else _) = _
 rw [if_pos h, hp]
theorem inner_none {s : Sft} {t : Int} {f : Nat} {come : Nat → Bool} {out : List Int} (h : hasN s come t = true) (hp : pickN s come t = none) : innerN s t (f + 1) come out = none := by
 show (if hasN s come t then _ else _) = _
 rw [if_pos h, hp]
def InnR (s : Sft) (t : Int) (R : Option ((Nat → Bool) × List Int)) (come : Nat → Bool) (out : List Int) : Prop := ∃ f, leftN s come ≤ f ∧ innerN s t f come out = R
theorem InnR.new (s : Sft) (t : Int) (come : Nat → Bool) (out : List Int) : InnR s t (innerN s t s.n come out) come out := ⟨s.n, leftN_le s come, rfl⟩
theorem InnR.end_ {s : Sft} {t : Int} {R : Option ((Nat → Bool) × List Int)} {come : Nat → Bool} {out : List Int} (h : InnR s t R come out) (he : hasN s come t = false) : R = some (come, out) := by
 obtain ⟨f, -, h2⟩ := h
 rw [← h2, inner_end he]
theorem InnR.none {s : Sft} {t : Int} {R : Option ((Nat → Bool) × List Int)} {come : Nat → Bool} {out : List Int} (h : InnR s t R come out) (hh : hasN s come t = true) (hp : pickN s come t = none) : R = none := by
 obtain ⟨f, h1, h2⟩ := h
 have := left_pos hh
 obtain ⟨g, rfl⟩ : ∃ g, f = g + 1 := ⟨f - 1, by omega⟩
 rw [← h2, inner_none hh hp]
theorem InnR.go {s : Sft} {t : Int} {R : Option ((Nat → Bool) × List Int)} {come : Nat → Bool} {out : List Int} {i : Nat} (h : InnR s t R come out) (hh : hasN s come t = true) (hp : pickN s come t = some i) :
 InnR s t R (putN come i) (out ++ [(i : Int)]) := by
 obtain ⟨f, h1, h2⟩ := h
 obtain ⟨p1, -, p3, -⟩ := pickN_some hp
 have := leftN_put p1 p3
 obtain ⟨g, rfl⟩ : ∃ g, f = g + 1 := ⟨f - 1, by omega⟩
 rw [inner_go hh hp] at h2
 exact ⟨g, by omega, h2⟩
def OutR (s : Sft) (R : Option (List Int)) (come : Nat → Bool) (out : List Int) : Prop := ∃ f, leftN s come ≤ f ∧ outerN s f come out = R
theorem OutR.new (s : Sft) (come : Nat → Bool) (out : List Int) : OutR s (outerN s s.n come out) come out := ⟨s.n, leftN_le s come, rfl⟩
theorem outer_end {s : Sft} {f : Nat} {come : Nat → Bool} {out : List Int} (h : stopsN s come = []) : outerN s f come out = some out := by
 cases f with
 | zero => rfl
 | succ f => show (if stopsN s come = [] then _ else _) = _; rw [if_pos h]
theorem OutR.end_ {s : Sft} {R : Option (List Int)} {come : Nat → Bool} {out : List Int} (h : OutR s R come out) (he : stopsN s come = []) : R = some out := by
 obtain ⟨f, -, h2⟩ := h
 rw [← h2, outer_end he]
theorem stops_pos {s : Sft} {come : Nat → Bool} (h : stopsN s come ≠ []) : ∃ t, hasN s come t = true := by
 obtain ⟨t, ht⟩ := List.exists_mem_of_ne_nil _ h
 exact ⟨t, (List.mem_filter.1 ht).2⟩
theorem OutR.none {s : Sft} {R : Option (List Int)} {come : Nat → Bool} {out : List Int} (h : OutR s R come out) (hh : stopsN s come ≠ []) (hp : nextN s come = none) : R = none := by
 obtain ⟨f, h1, h2⟩ := h
 obtain ⟨t, ht⟩ := stops_pos hh
 have := left_pos ht
 obtain ⟨g, rfl⟩ : ∃ g, f = g + 1 := ⟨f - 1, by omega⟩
 rw [← h2]
 show (if stopsN s come = [] then _ else _) = _
 rw [if_neg hh, hp]
theorem nextN_some {s : Sft} {come : Nat → Bool} {t : Int} (h : nextN s come = some t) : hasN s come t = true ∧ readyN s come t = true ∧ -8 ≤ t ∧ t ≤ 8 := by
 unfold nextN at h
 have h1 := List.find?_some h
 rw [Bool.and_eq_true] at h1
 have h2 := mem_stops.1 (List.mem_of_find?_eq_some h)
 exact ⟨h1.1, h1.2, h2.1, h2.2⟩
theorem OutR.go {s : Sft} {R : Option (List Int)} {come : Nat → Bool} {out : List Int} {t : Int} (h : OutR s R come out) (hp : nextN s come = some t) :
 (innerN s t s.n come out = Option.none → R = Option.none) ∧ ∀ come' out', innerN s t s.n come out = some (come', out') → leftN s come' < leftN s come → OutR s R come' out' := by
 obtain ⟨f, h1, h2⟩ := h
 have hh := (nextN_some hp).1
 have hne : stopsN s come ≠ [] := fun e => by
  have : t ∈ stopsN s come := List.mem_filter.2 ⟨List.mem_of_find?_eq_some hp, hh⟩
  rw [e] at this; cases this
 have := left_pos hh
 obtain ⟨g, rfl⟩ : ∃ g, f = g + 1 := ⟨f - 1, by omega⟩
 have e : outerN s (g + 1) come out = match innerN s t s.n come out with | .none => .none | some r => outerN s g r.1 r.2 := by
  show (if stopsN s come = [] then _ else _) = _
  rw [if_neg hne, hp]
  try rfl
 rw [e] at h2
 constructor
 · intro hi
   rw [hi] at h2
   exact h2.symm
 · intro come' out' hi hl
   rw [hi] at h2
   exact ⟨g, by omega, h2⟩
def stackB (s : Sft) : Bool := s.to_.any fun t => decide (6 < s.to_.countP (fun u => decide (u = t)))
def plndE (s : Sft) : List Int × Int :=
 if (ordE s).2 ≠ 0 then ([], (ordE s).2) else if stackB s then ([], 4) else ordE s
def movedL (s : Sft) : List Nat := (List.range s.n).filter (movedN s)
end Go.Proofs.YtflpikickbellaaGreat
namespace Go.Proofs.YtflpikickbellaaGreat
open Go.RowKit Go.Shelf
set_option maxRecDepth 100000
theorem below_drewT {B : Nat} {w W : World} (h : Below B w W) (n : Nat) : Below B w (W.drewN n) := by
 obtain ⟨a, b, c, d, e⟩ := h
 exact ⟨a, b, c, d, e⟩
abbrev prC (p : Int × Int) : List Value := [.int .i64 p.1, .int .i64 p.2]
def SlPr (w : World) (B : Nat) (A : Option Addr) (l : List (Int × Int)) : Prop := SlS 2 w B A (l.map prC)
theorem SlPr.below {w w' : World} {B : Nat} {A : Option Addr} {l : List (Int × Int)} (h : SlPr w B A l) (hb : Below B w w') : SlPr w' B A l := SlS.below h hb
theorem SlPr.more {w : World} {B B' : Nat} {A : Option Addr} {l : List (Int × Int)} (h : SlPr w B A l) (hb : B ≤ B') : SlPr w B' A l := SlS.more h hb
theorem SlPr.nil {w : World} {B : Nat} {A : Option Addr} : SlPr w B A [] := fun h => absurd rfl h
theorem SlPr.at_ {w : World} {B : Nat} {A : Option Addr} {l : List (Int × Int)} (h : SlPr w B A l) {k : Nat} (hk : k < l.length) :
 ∃ b off p, A = some ⟨b, off, none⟩ ∧ b < B ∧ l[k]? = some p ∧ w.cell? ⟨b, off + k * 2, none⟩ = some (.int .i64 p.1) ∧ w.cell? ⟨b, off + k * 2 + 1, none⟩ = some (.int .i64 p.2) := by
 obtain ⟨b, off, cs, e, hB, hz, hc⟩ := SlS.at_ h (k := k) (by simpa using hk)
 rw [List.getElem?_map] at hz
 cases hl : l[k]? with
 | none => rw [hl] at hz; cases hz
 | some i =>
   rw [hl] at hz
   simp only [Option.map_some, Option.some.injEq] at hz
   subst hz
   exact ⟨b, off, i, e, hB, rfl, hc 0 _ rfl, hc 1 _ rfl⟩
structure SfAt (A F : Option Addr) (s : Sft) (W : World) : Prop where
 tz : SlI W W.heap.size A s.to_
 fr : SlPr W W.heap.size F s.first
theorem SfAt.to {A F : Option Addr} {s : Sft} {W W' : World} (h : SfAt A F s W) (hb : Below W.heap.size W W') : SfAt A F s W' := ⟨(h.tz.below hb).more hb.size, (h.fr.below hb).more hb.size⟩
abbrev sftV (A F : Option Addr) (c fc : Nat) (s : Sft) : Value := .agg #[.slice A s.to_.length c, .slice F s.first.length fc]
abbrev sftB (A F : Option Addr) (c fc : Nat) (s : Sft) : Obj := .cells #[.slice A s.to_.length c, .slice F s.first.length fc] 25
structure SfBx (pb : Nat) (A F : Option Addr) (c fc : Nat) (s : Sft) (W : World) : Prop where
 c0 : W.cell? ⟨pb, 0, none⟩ = some (.slice A s.to_.length c)
 c1 : W.cell? ⟨pb, 1, none⟩ = some (.slice F s.first.length fc)
 at_ : SfAt A F s W
theorem SfBx.to {pb : Nat} {A F : Option Addr} {c fc : Nat} {s : Sft} {W W' : World} (h : SfBx pb A F c fc s W) (hb : Below W.heap.size W W') : SfBx pb A F c fc s W' :=
 ⟨(bcell hb (lt_of_cell h.c0) _).trans h.c0, (bcell hb (lt_of_cell h.c1) _).trans h.c1, h.at_.to hb⟩
theorem SfBx.new {A F : Option Addr} (c fc : Nat) {s : Sft} {W : World} (h : SfAt A F s W) : SfBx W.heap.size A F c fc s (W.alloc (sftB A F c fc s)) :=
 ⟨cell_new rfl rfl rfl, cell_new rfl rfl rfl, h.to ((Below.refl _ W).alloc (Nat.le_refl _) _)⟩
theorem al_t (W : World) (o : Obj) : Below W.heap.size W (W.alloc o) := (Below.refl _ _).alloc (Nat.le_refl _) o
theorem SfBx.to_at {pb : Nat} {A F : Option Addr} {c fc : Nat} {s : Sft} {W : World} (h : SfBx pb A F c fc s W) {i : Nat} (hi : i < s.n) :
 ∃ b off, A = some ⟨b, off, none⟩ ∧ W.cell? ⟨b, off + i, none⟩ = some (.int .i64 (s.to_.getD i 0)) := by
 obtain ⟨b, off, z, e, -, hz, hc⟩ := h.at_.tz.at_ hi
 refine ⟨b, off, e, ?_⟩
 rw [List.getD_eq_getElem?_getD, hz]
 exact hc
set_option maxHeartbeats 1000000 in
theorem sameI_any (A A' : Option Addr) (c c' : Nat) (l : List Int) (w : World) (h : SlI w w.heap.size A l) (h' : SlI w w.heap.size A' l) (hn : l.length ≤ 4611686018427387904) :
 Calls Tryz.prog 19 #[.slice A l.length c, .slice A' l.length c'] w fun e w' => e = .returned (.bool true) ∧ ∃ m, w' = w.drewN m := by
 have hne : (((l.length : Nat) : Int) == ((l.length : Nat) : Int)) = true := by simp
 go_enter Tryz.func19, Tryz.ntmps19
 go_wp2
 go_loopw [5] (fun i wr => ∃ k : Nat, k ≤ l.length ∧ i = .int .i64 k ∧ Hid (∃ m, wr = w.drewN m)) (fun i _ => l.length - (intOf i).toNat)
 case atStart => exact ⟨0, Nat.zero_le _, rfl, 0, rfl⟩
 case round =>
  obtain ⟨k, hk, rfl, HM⟩ := hrel
  have hbw : Below w.heap.size w wr := by obtain ⟨m, rfl⟩ := HM.out; exact below_drewT (Below.refl _ _) m
  by_cases hlt : k < l.length
  · obtain ⟨b, off, z, rfl, hB, hz, hc⟩ := h.at_ hlt
    obtain ⟨b', off', z', rfl, hB', hz', hc'⟩ := h'.at_ hlt
    rw [hz] at hz'
    obtain rfl : z = z' := by simpa using hz'
    have h1 := (bcell hbw hB _).trans hc
    have h2 := (bcell hbw hB' _).trans hc'
    clear hc hc' h h' hz hz' hbw
    go_wp2
    go_quiet (fail)
    go_wp2
    go_roundw
    case rel => exact ⟨k + 1, by omega, by go_num, by obtain ⟨m, hm⟩ := HM.out; exact ⟨_, by rw [hm, World.drewN_drewN]⟩⟩
    case measure => simp [intOf]; omega
  · clear h h' hbw
    go_wp2
    go_ret
    exact ⟨rfl, HM.out⟩
end Go.Proofs.YtflpikickbellaaGreat
namespace Go.Proofs.YtflpikickbellaaGreat
open Go.RowKit Go.Shelf Go.Sort
set_option maxRecDepth 100000
def cmpP (p q : Int × Int) : Int := if Lib.compareInt p.1 q.1 != 0 then Lib.compareInt p.1 q.1 else Lib.compareInt p.2 q.2
set_option maxHeartbeats 2000000 in
theorem scmp_any (b o cp b' o' cp' : Nat) (p q : Int × Int) (w : World) (h0 : w.cell? ⟨b, o, none⟩ = some (.int .i64 p.1)) (h1 : w.cell? ⟨b, o + 1, none⟩ = some (.int .i64 p.2)) (g0 : w.cell? ⟨b', o', none⟩ = some (.int .i64 q.1)) (g1 : w.cell? ⟨b', o' + 1, none⟩ = some (.int .i64 q.2)) :
 Calls Tryz.prog 42 #[.slice (some ⟨b, o, none⟩) 2 cp, .slice (some ⟨b', o', none⟩) 2 cp'] w fun e w' => e = .returned (.int .i64 (cmpP p q)) ∧ w' = w := by
 obtain ⟨a, c⟩ := p
 obtain ⟨x, y⟩ := q
 simp only at h0 h1 g0 g1
 have HC := Lib.hid (fun x y w => Tryz.cmp_Compare_int x y w)
 have HE : Hid (cmpP (a, c) (x, y) = if Lib.compareInt a x != 0 then Lib.compareInt a x else Lib.compareInt c y) := rfl
 generalize h1' : Lib.compareInt a x = z1 at HE
 generalize h2' : Lib.compareInt c y = z2 at HE
 have HC1 : Hid (Calls Tryz.prog 88 #[.int .i64 a, .int .i64 x] w fun e w' => e = .returned (.int .i64 z1) ∧ w' = w) := by subst h1'; exact HC.out a x w
 have HC2 : Hid (Calls Tryz.prog 88 #[.int .i64 c, .int .i64 y] w fun e w' => e = .returned (.int .i64 z2) ∧ w' = w) := by subst h2'; exact HC.out c y w
 clear h1' h2' HC
 go_enter Tryz.func42, Tryz.ntmps42
 go_wp2
 go_loopw [11] (fun s11 wr => ∃ k : Nat, k ≤ 2 ∧ s11 = .int .i64 (k : Int) ∧ (0 < k → z1 = 0) ∧ (1 < k → z2 = 0) ∧ wr = w) (fun s11 _ => 2 - (intOf s11).toNat)
 case atStart => exact ⟨0, by omega, rfl, fun h => absurd h (by omega), fun h => absurd h (by omega), rfl⟩
 case round =>
  obtain ⟨k, hk, rfl, hz1, hz2, rfl⟩ := hrel
  match k, hk, hz1, hz2 with
  | 0, _, _, _ =>
    by_cases h : z1 = 0
    · have HE' : Hid (z1 = 0) := h
      subst h
      clear g1 h1
      go_wp2_with ((go_at_call 88; refine HC1.out.mono ?_; rintro e w' ⟨rfl, rfl⟩))
      go_roundw
      case rel => exact ⟨1, by omega, by go_num, fun _ => (by first | trivial | rfl), fun h => absurd h (by omega), by first | trivial | rfl⟩
      case measure => simp [intOf]
    · have hn : (z1 != 0) = true := by simpa using h
      have HF : Hid (cmpP (a, c) (x, y) = z1) := by show _ = _; rw [HE.out, if_pos hn]
      clear g1 h1 HE h
      go_wp2_with ((go_at_call 88; refine HC1.out.mono ?_; rintro e w' ⟨rfl, rfl⟩))
      go_ret
      exact ⟨ret_int HF.out.symm, rfl⟩
  | 1, _, hz1, _ =>
    obtain rfl := hz1 (by omega)
    have HF : Hid (cmpP (a, c) (x, y) = z2) := by show _ = _; rw [HE.out]; rfl
    by_cases h : z2 = 0
    · subst h
      clear g0 h0 HE HF
      go_wp2_with ((go_at_call 88; refine HC2.out.mono ?_; rintro e w' ⟨rfl, rfl⟩))
      go_roundw
      case rel => exact ⟨2, by omega, by go_num, fun _ => (by first | trivial | rfl), fun _ => (by first | trivial | rfl), by first | trivial | rfl⟩
      case measure => simp [intOf]
    · have hn : (z2 != 0) = true := by simpa using h
      clear g0 h0 HE h
      go_wp2_with ((go_at_call 88; refine HC2.out.mono ?_; rintro e w' ⟨rfl, rfl⟩))
      go_ret
      exact ⟨ret_int HF.out.symm, rfl⟩
  | 2, _, hz1, hz2 =>
    obtain rfl := hz1 (by omega)
    obtain rfl := hz2 (by omega)
    have HF : Hid (cmpP (a, c) (x, y) = 0) := by show _ = _; rw [HE.out]; rfl
    clear HE h0 h1 g0 g1
    go_wp2
    go_ret
    exact ⟨ret_int HF.out.symm, rfl⟩
theorem cmpP_ge (p q : Int × Int) : decide (0 ≤ cmpP p q) = !(ltP p q) := by
 unfold cmpP ltP Lib.compareInt
 rw [Bool.eq_iff_iff]
 by_cases h1 : p.1 < q.1
 · simp [h1]
 · by_cases h2 : p.1 > q.1
   · have h3 : ¬ p.1 = q.1 := by omega
     simp [h1, h2, h3]
   · have h3 : p.1 = q.1 := by omega
     by_cases h4 : p.2 < q.2
     · simp [h3, h4]
     · by_cases h5 : p.2 > q.2
       · simp [h3, h4, h5]
       · simp [h3, h4, h5]
set_option maxHeartbeats 2000000 in
theorem roff_any (A F : Option Addr) (c fc : Nat) (s : Sft) (i : Nat) (hi : i < s.n) (h0 : 0 ≤ s.to_.getD i 0) (h1 : s.to_.getD i 0 ≤ 100) (hn : s.n ≤ 1000) (w : World) (h : SfAt A F s w) :
 Calls Tryz.prog 24 #[sftV A F c fc s, .int .i64 (i : Int)] w fun e w' => e = .returned (.int .i64 (offN s i)) ∧ Below w.heap.size w w' := by
 have hbx := SfBx.new c fc h
 obtain ⟨b, off, hA, hcl⟩ := hbx.to_at hi
 have c0 := hbx.c0
 have HF : Hid (offN s i = s.to_.getD i 0 - (i : Int)) := rfl
 obtain ⟨z, hz⟩ : ∃ z, z = s.to_.getD i 0 := ⟨_, rfl⟩
 rw [← hz] at h0 h1 hcl HF
 have HB := Lib.hid (al_t w (sftB A F c fc s))
 have hi' : i < s.to_.length := hi
 have hn' : s.to_.length ≤ 1000 := hn
 subst hA
 clear h hbx hz hi hn
 go_enter Tryz.func24, Tryz.ntmps24
 go_wp2
 go_ret
 exact ⟨ret_int HF.out.symm, HB.out⟩
theorem sftE_many {s : Sft} (h : 40 < s.n) : sftE s = 4 := by unfold sftE; rw [if_pos h]
theorem sftE_to {s : Sft} (h : ¬ 40 < s.n) {i : Nat} (hi : i < s.n) (hb : badT (s.to_.getD i 0) i = true) : sftE s = 8 := by
 have hx : ((List.range s.n).any fun i => badT (s.to_.getD i 0) i) = true := List.any_eq_true.2 ⟨i, List.mem_range.2 hi, hb⟩
 unfold sftE
 rw [if_neg h, if_pos hx]
theorem sftE_fr {s : Sft} (h : ¬ 40 < s.n) (ht : ∀ i, i < s.n → badT (s.to_.getD i 0) i = false) {i : Nat} {p : Int × Int} (hp : s.first[i]? = some p) (hb : badF s i p = true) : sftE s = 8 := by
 have hi := (List.getElem?_eq_some_iff.1 hp).1
 have hx : ((List.range s.first.length).any fun i => badF s i (s.first.getD i (0, 0))) = true := List.any_eq_true.2 ⟨i, List.mem_range.2 hi, by rw [List.getD_eq_getElem?_getD, hp]; exact hb⟩
 unfold sftE
 rw [if_neg h, if_neg (by rw [Bool.not_eq_true, List.any_eq_false]; intro j hj; rw [ht j (List.mem_range.1 hj)]; simp), if_pos hx]
theorem sftE_zero {s : Sft} (h : ¬ 40 < s.n) (ht : ∀ i, i < s.n → badT (s.to_.getD i 0) i = false) (hf : ∀ (i : Nat) (p : Int × Int), s.first[i]? = some p → badF s i p = false) : sftE s = 0 := by
 unfold sftE
 rw [if_neg h, if_neg (by rw [Bool.not_eq_true, List.any_eq_false]; intro j hj; rw [ht j (List.mem_range.1 hj)]; simp), if_neg (by
  rw [Bool.not_eq_true, List.any_eq_false]
  intro j hj
  have hjl := List.mem_range.1 hj
  rw [List.getD_eq_getElem?_getD, List.getElem?_eq_getElem hjl, Option.getD_some, hf j _ (List.getElem?_eq_getElem hjl)]
  simp)]
theorem badT_iff {t : Int} {i : Nat} : badT t i = true ↔ t < 0 ∨ 100 < t ∨ t - i < -8 ∨ 8 < t - i := by
 unfold badT
 simp only [Bool.or_eq_true, decide_eq_true_eq]
 omega
theorem badF_iff {s : Sft} {i : Nat} {p : Int × Int} : badF s i p = true ↔ (p.1 < 0 ∨ (s.to_.length : Int) ≤ p.1 ∨ p.2 < 0 ∨ (s.to_.length : Int) ≤ p.2 ∨ p.1 = p.2) ∨ 0 < i ∧ ltP (s.first.getD (i - 1) (0, 0)) p = false := by
 unfold badF
 simp only [Bool.or_eq_true, Bool.and_eq_true, decide_eq_true_eq, Bool.not_eq_true']
 have e : s.n = s.to_.length := rfl
 rw [e]
 constructor
 · rintro (((h | h) | h) | h)
   · left; omega
   · left; omega
   · left; omega
   · right; exact h
 · rintro (h | h)
   · left
     by_cases h1 : p.1 = p.2
     · right; exact h1
     · left; omega
   · right; exact h
theorem ltP_iff {p q : Int × Int} : ltP p q = true ↔ p.1 < q.1 ∨ p.1 = q.1 ∧ p.2 < q.2 := by
 unfold ltP
 simp only [Bool.or_eq_true, Bool.and_eq_true, decide_eq_true_eq]
set_option maxHeartbeats 16000000 in
theorem rchk_any (A F : Option Addr) (c fc : Nat) (s : Sft) (hl : s.to_.length ≤ 4611686018427387904) (hf : s.first.length ≤ 4611686018427387904) (w : World) (h : SfAt A F s w) :
 Calls Tryz.prog 7 #[sftV A F c fc s] w fun e w' => e = .returned (.int .i64 (sftE s)) ∧ Below w.heap.size w w' := by
 have hb0 := al_t w (sftB A F c fc s)
 have HX0 : Hid (SfBx w.heap.size A F c fc s (w.alloc (sftB A F c fc s)) ∧ Below w.heap.size w (w.alloc (sftB A F c fc s))) := ⟨SfBx.new c fc h, hb0⟩
 have c0 := HX0.out.1.c0
 have c1 := HX0.out.1.c1
 obtain ⟨r, hr⟩ : ∃ r, r = sftE s := ⟨_, rfl⟩
 have HR : Hid (r = sftE s) := hr
 rw [← hr]
 obtain ⟨pb, hpb⟩ : ∃ pb, pb = w.heap.size := ⟨_, rfl⟩
 clear h hb0 hr
 by_cases h40 : 40 < s.to_.length
 case pos =>
  have d1 : decide (40 < s.to_.length) = true := decide_eq_true h40
  have d2 : decide ((40 : Int) < (s.to_.length : Int)) = true := decide_eq_true (by omega)
  have HR2 : Hid (r = 4) := by show _ = _; rw [HR.out, sftE_many h40]
  clear h40 HR hpb
  go_enter Tryz.func7, Tryz.ntmps7
  go_wp2
  go_ret
  exact ⟨ret_int HR2.out.symm, HX0.out.2⟩
 case neg =>
 have d1 : decide (40 < s.to_.length) = false := decide_eq_false h40
 have d2 : decide ((40 : Int) < (s.to_.length : Int)) = false := decide_eq_false (by omega)
 have HTo := Lib.hid (fun (i : Nat) (hi : i < s.n) hb => sftE_to (s := s) h40 (i := i) hi hb)
 have HFr := Lib.hid (fun ht (i : Nat) (p : Int × Int) hp hb => sftE_fr (s := s) h40 ht (i := i) (p := p) hp hb)
 have HZe := Lib.hid (fun ht hf => sftE_zero (s := s) h40 ht hf)
 have h40' : s.to_.length ≤ 40 := by omega
 go_enter Tryz.func7, Tryz.ntmps7
 go_upto_region 4 with fail
 refine abs_world (Q := fun W => Code.wp _ _ _ _ W) (F := fun W => SfBx w.heap.size A F c fc s W ∧ Below w.heap.size w W) _ HX0.out ?_
 clear HX0 c0 c1 d1 d2 h40
 rintro W1 ⟨hx, hb1⟩
 rw [← hpb] at hx ⊢
 have HX1 := Lib.hid (And.intro hx hb1)
 clear hx hb1 hpb
 go_wp2
 go_loopw [4] (fun s4 wr => ∃ i : Nat, i ≤ s.to_.length ∧ s4 = .int .i64 (i : Int) ∧ Hid (SfBx pb A F c fc s wr ∧ Below w.heap.size w wr) ∧ Hid (∀ j, j < i → badT (s.to_.getD j 0) j = false)) (fun s4 _ => s.to_.length - (intOf s4).toNat)
 case atStart => exact ⟨0, Nat.zero_le _, rfl, HX1.out, fun j hj => absurd hj (Nat.not_lt_zero j)⟩
 case round =>
  obtain ⟨i, hi, rfl, HX, HT⟩ := hrel
  clear HX1
  obtain ⟨W2, hW2⟩ : ∃ W2 : World, W2 = wr := ⟨_, rfl⟩
  rw [← hW2] at HX ⊢
  clear hW2
  have c0 := HX.out.1.c0
  have c1 := HX.out.1.c1
  by_cases hlt : i < s.to_.length
  case pos =>
   obtain ⟨b, off, hA, hcl⟩ := HX.out.1.to_at hlt
   have HXn : Hid (∀ W, Below W2.heap.size W2 W → SfBx pb A F c fc s W ∧ Below w.heap.size w W) := fun W hb => ⟨HX.out.1.to hb, HX.out.2.trans (hb.mono HX.out.2.size)⟩
   have hOf : 0 ≤ s.to_.getD i 0 → s.to_.getD i 0 ≤ 100 → ∀ W, Below W2.heap.size W2 W → Calls Tryz.prog 24 #[sftV A F c fc s, .int .i64 (i : Int)] W fun e w' => e = .returned (.int .i64 (s.to_.getD i 0 - (i : Int))) ∧ Below W.heap.size W w' := fun h0 h1 W hb => roff_any A F c fc s i hlt h0 h1 (by show s.to_.length ≤ 1000; omega) W (HX.out.1.at_.to hb)
   have HXs : Hid (∀ W, Below W2.heap.size W2 W → W.cell? ⟨pb, 0, none⟩ = some (.slice A s.to_.length c) ∧ W.cell? ⟨pb, 1, none⟩ = some (.slice F s.first.length fc)) := fun W hb => ⟨(HX.out.1.to hb).c0, (HX.out.1.to hb).c1⟩
   have HBad : Hid (badT (s.to_.getD i 0) i = true → r = 8) := fun hb => HR.out.trans (HTo.out i hlt hb)
   have HT2 : Hid (badT (s.to_.getD i 0) i = false → ∀ j, j < i + 1 → badT (s.to_.getD j 0) j = false) := fun hb j hj => by
    by_cases e : j = i
    · subst e; exact hb
    · exact HT.out j (by omega)
   obtain ⟨z, hz⟩ : ∃ z, z = s.to_.getD i 0 := ⟨_, rfl⟩
   rw [← hz] at hcl hOf HBad HT2
   subst hA
   have HOf := Lib.hid hOf
   clear hOf hz HT
   have hcase : z < 0 ∨ (0 ≤ z ∧ 100 < z) ∨ (0 ≤ z ∧ z ≤ 100) := by omega
   rcases hcase with h1 | ⟨h1, h2⟩ | ⟨h1, h2⟩
   · have HR2 := Lib.hid (HBad.out (badT_iff.2 (by omega)))
     clear HBad HT2
     go_wp2
     go_ret
     exact ⟨ret_int HR2.out.symm, HX.out.2⟩
   · have HR2 := Lib.hid (HBad.out (badT_iff.2 (by omega)))
     clear HBad HT2
     go_wp2
     go_ret
     exact ⟨ret_int HR2.out.symm, HX.out.2⟩
   · have HOz := Lib.hid (HOf.out h1 h2)
     clear HOf
     by_cases h3 : z - (i : Int) < -8
     · have d3 : decide (z - (i : Int) < -8) = true := decide_eq_true h3
       have HR2 := Lib.hid (HBad.out (badT_iff.2 (by omega)))
       obtain ⟨o, ho⟩ : ∃ o, o = z - (i : Int) := ⟨_, rfl⟩
       rw [← ho] at d3
       simp only [← ho] at HOz
       clear HBad HT2 h3 ho
       go_wp2_with fail
       refine (HOz.out W2 (Below.refl _ _)).mono ?_
       rintro e w3 ⟨rfl, hb3⟩
       have HB3 := Lib.hid hb3
       clear hb3
       go_wp2
       go_ret
       exact ⟨ret_int HR2.out.symm, (HXn.out w3 HB3.out).2⟩
     · have d3 : decide (z - (i : Int) < -8) = false := decide_eq_false h3
       by_cases h4 : 8 < z - (i : Int)
       · have d4 : decide (8 < z - (i : Int)) = true := decide_eq_true h4
         have HR2 := Lib.hid (HBad.out (badT_iff.2 (by omega)))
         obtain ⟨o, ho⟩ : ∃ o, o = z - (i : Int) := ⟨_, rfl⟩
         rw [← ho] at d3 d4
         simp only [← ho] at HOz
         clear HBad HT2 h3 h4 ho
         go_wp2_with fail
         refine (HOz.out W2 (Below.refl _ _)).mono ?_
         rintro e w3 ⟨rfl, hb3⟩
         obtain ⟨e0, e1⟩ := HXs.out w3 hb3
         have HB3 := Lib.hid hb3
         clear hb3 c0 c1
         go_wp2_with fail
         refine (HOz.out w3 HB3.out).mono ?_
         rintro e w4 ⟨rfl, hb4⟩
         have HB4 := Lib.hid (HB3.out.trans (hb4.mono HB3.out.size))
         clear hb4
         go_wp2
         go_ret
         exact ⟨ret_int HR2.out.symm, (HXn.out w4 HB4.out).2⟩
       · have d4 : decide (8 < z - (i : Int)) = false := decide_eq_false h4
         have HT3 := Lib.hid (HT2.out (by rw [Bool.eq_false_iff, Ne, badT_iff]; omega))
         obtain ⟨o, ho⟩ : ∃ o, o = z - (i : Int) := ⟨_, rfl⟩
         rw [← ho] at d3 d4
         simp only [← ho] at HOz
         clear HBad HT2 h3 h4 ho
         go_wp2_with fail
         refine (HOz.out W2 (Below.refl _ _)).mono ?_
         rintro e w3 ⟨rfl, hb3⟩
         obtain ⟨e0, e1⟩ := HXs.out w3 hb3
         have HB3 := Lib.hid hb3
         clear hb3 c0 c1
         go_wp2_with fail
         refine (HOz.out w3 HB3.out).mono ?_
         rintro e w4 ⟨rfl, hb4⟩
         have HB4 := Lib.hid (HB3.out.trans (hb4.mono HB3.out.size))
         clear hb4 e0 e1
         go_wp2
         go_roundw
         case rel => exact ⟨i + 1, by omega, by go_num, HXn.out w4 HB4.out, HT3.out⟩
         case measure => simp [intOf]; omega
  case neg =>
   have HTA : Hid (∀ i, i < s.n → badT (s.to_.getD i 0) i = false) := fun j hj => HT.out j (by have e : s.n = s.to_.length := rfl; omega)
   clear HT HTo
   go_upto_region 9 with fail
   go_wp2
   go_loopw [5] (fun s5 wr => ∃ k : Nat, k ≤ s.first.length ∧ s5 = .int .i64 (k : Int) ∧ Hid (SfBx pb A F c fc s wr ∧ Below w.heap.size w wr) ∧ Hid (∀ (j : Nat) (p : Int × Int), j < k → s.first[j]? = some p → badF s j p = false)) (fun s5 _ => s.first.length - (intOf s5).toNat)
   case atStart => exact ⟨0, Nat.zero_le _, rfl, HX.out, fun j p hj => absurd hj (Nat.not_lt_zero j)⟩
   case round =>
    obtain ⟨k, hk, rfl, HX3, HT⟩ := hrel
    clear HX c0 c1
    obtain ⟨W3, hW3⟩ : ∃ W3 : World, W3 = wr := ⟨_, rfl⟩
    rw [← hW3] at HX3 ⊢
    clear hW3
    have c0 := HX3.out.1.c0
    have c1 := HX3.out.1.c1
    by_cases hkl : k < s.first.length
    case neg =>
     have HR2 : Hid (r = 0) := by
      show _ = _
      rw [HR.out]
      exact HZe.out HTA.out fun j p hp => HT.out j p (by have := (List.getElem?_eq_some_iff.1 hp).1; omega) hp
     clear HT
     go_wp2
     go_ret
     exact ⟨ret_int HR2.out.symm, HX3.out.2⟩
    case pos =>
     obtain ⟨b, off, p, rfl, -, hp, q0, q1⟩ := HX3.out.1.at_.fr.at_ hkl
     have HPk := Lib.hid hp
     have HBad : Hid (badF s k p = true → r = 8) := fun hb => HR.out.trans (HFr.out HTA.out k p hp hb)
     have HT2 : Hid (badF s k p = false → ∀ (j : Nat) (q : Int × Int), j < k + 1 → s.first[j]? = some q → badF s j q = false) := fun hb j q hj hq => by
      by_cases e : j = k
      · subst e; rw [HPk.out] at hq; cases hq; exact hb
      · exact HT.out j q (by omega) hq
     have HPr : Hid (0 < k → ∃ q : Int × Int, s.first.getD (k - 1) (0, 0) = q ∧ (∀ o, (W3.alloc o).cell? ⟨b, off + (k - 1) * 2, none⟩ = some (.int .i64 q.1)) ∧ ∀ o, (W3.alloc o).cell? ⟨b, off + (k - 1) * 2 + 1, none⟩ = some (.int .i64 q.2)) := fun h0 => by
      obtain ⟨b', off', q, e, -, hq, r0, r1⟩ := HX3.out.1.at_.fr.at_ (k := k - 1) (by omega)
      cases e
      exact ⟨q, by rw [List.getD_eq_getElem?_getD, hq]; rfl, fun o => (bcell (al_t W3 o) (lt_of_cell r0) _).trans r0, fun o => (bcell (al_t W3 o) (lt_of_cell r0) _).trans r1⟩
     have HAl : Hid (∀ o, SfBx pb A (some ⟨b, off, none⟩) c fc s (W3.alloc o) ∧ Below w.heap.size w (W3.alloc o)) := fun o => ⟨HX3.out.1.to (al_t W3 o), HX3.out.2.trans ((al_t W3 o).mono HX3.out.2.size)⟩
     have HAl2 : Hid (∀ o o2, SfBx pb A (some ⟨b, off, none⟩) c fc s ((W3.alloc o).alloc o2) ∧ Below w.heap.size w ((W3.alloc o).alloc o2)) := fun o o2 => ⟨(HAl.out o).1.to (al_t _ o2), (HAl.out o).2.trans ((al_t _ o2).mono (HAl.out o).2.size)⟩
     have e10 : ∀ o, (W3.alloc o).cell? ⟨pb, 0, none⟩ = some (.slice A s.to_.length c) := fun o => (HAl.out o).1.c0
     have e11 : ∀ o, (W3.alloc o).cell? ⟨pb, 1, none⟩ = some (.slice (some ⟨b, off, none⟩) s.first.length fc) := fun o => (HAl.out o).1.c1
     clear hp HT
     by_cases e1 : 0 ≤ p.1 ∧ p.1 < (s.to_.length : Int) ∧ 0 ≤ p.2 ∧ p.2 < (s.to_.length : Int) ∧ p.1 ≠ p.2
     case neg =>
      have HR2 := Lib.hid (HBad.out (badF_iff.2 (Or.inl (by omega))))
      have hcase : p.1 < 0 ∨ (0 ≤ p.1 ∧ (s.to_.length : Int) ≤ p.1) ∨ (0 ≤ p.1 ∧ p.1 < (s.to_.length : Int) ∧ p.2 < 0) ∨ (0 ≤ p.1 ∧ p.1 < (s.to_.length : Int) ∧ 0 ≤ p.2 ∧ (s.to_.length : Int) ≤ p.2) ∨ (0 ≤ p.1 ∧ p.1 < (s.to_.length : Int) ∧ 0 ≤ p.2 ∧ p.2 < (s.to_.length : Int) ∧ p.1 = p.2) := by omega
      clear e1 HBad HT2 HPr
      obtain ⟨x, y⟩ := p
      simp only at hcase q0 q1
      rcases hcase with h1 | ⟨h1, h2⟩ | ⟨h1, h2, h3⟩ | ⟨h1, h2, h3, h4⟩ | ⟨h1, h2, h3, h4, h5⟩
      · go_wp2
        go_ret
        exact ⟨ret_int HR2.out.symm, (HAl.out _).2⟩
      · go_wp2
        go_ret
        exact ⟨ret_int HR2.out.symm, (HAl.out _).2⟩
      · go_wp2
        go_ret
        exact ⟨ret_int HR2.out.symm, (HAl.out _).2⟩
      · go_wp2
        go_ret
        exact ⟨ret_int HR2.out.symm, (HAl.out _).2⟩
      · have d5 : (x == y) = true := by rw [beq_iff_eq]; exact h5
        subst h5
        go_wp2
        go_ret
        exact ⟨ret_int HR2.out.symm, (HAl.out _).2⟩
     case pos =>
      obtain ⟨h1, h2, h3, h4, h5⟩ := e1
      have d5 : (p.1 == p.2) = false := beq_eq_false_iff_ne.2 h5
      by_cases hk0 : k = 0
      · subst hk0
        have HT3 := Lib.hid (HT2.out (by rw [Bool.eq_false_iff, Ne, badF_iff]; omega))
        clear HBad HT2 HPr h5
        obtain ⟨x, y⟩ := p
        simp only at h1 h2 h3 h4 d5 q0 q1
        simp only [Nat.zero_mul, Nat.add_zero] at q0 q1
        go_wp2
        go_roundw
        case rel => exact ⟨0 + 1, by omega, by go_num, HAl.out _, HT3.out⟩
        case measure => simp [intOf]; omega
      · obtain ⟨q, hqe, r0, r1⟩ := HPr.out (by omega)
        have hk1 : (k : Int) - 1 = ((k - 1 : Nat) : Int) := by omega
        have hkl1 : k - 1 < s.first.length := by omega
        have hk1p : (0 : Int) < (k : Int) := by omega
        have hlts : (q.1 < p.1) ∨ (p.1 < q.1) ∨ (q.1 = p.1 ∧ p.2 ≤ q.2) ∨ (q.1 = p.1 ∧ q.2 < p.2) := by omega
        clear HPr
        rcases hlts with g1 | g1 | ⟨g1, g2⟩ | ⟨g1, g2⟩
        · have HT3 := Lib.hid (HT2.out (by
           rw [Bool.eq_false_iff, Ne, badF_iff, hqe]
           rintro (h | ⟨-, h⟩)
           · omega
           · rw [ltP_iff.2 (Or.inl g1)] at h; cases h))
          have d6 : (q.1 == p.1) = false := by rw [beq_eq_false_iff_ne]; omega
          clear HBad HT2 hqe h5
          obtain ⟨x, y⟩ := p
          obtain ⟨u, v⟩ := q
          simp only at h1 h2 h3 h4 d5 d6 q0 q1 r0 r1 g1
          go_wp2
          go_roundw
          case rel => exact ⟨k + 1, by omega, by go_num, HAl2.out _ _, HT3.out⟩
          case measure => simp [intOf]; omega
        · have HR2 := Lib.hid (HBad.out (badF_iff.2 (Or.inr ⟨by omega, by
           rw [hqe, Bool.eq_false_iff, Ne, ltP_iff]; omega⟩)))
          clear HBad HT2 hqe h5
          obtain ⟨x, y⟩ := p
          obtain ⟨u, v⟩ := q
          simp only at h1 h2 h3 h4 d5 q0 q1 r0 r1 g1
          go_wp2
          go_ret
          exact ⟨ret_int HR2.out.symm, (HAl2.out _ _).2⟩
        · have HR2 := Lib.hid (HBad.out (badF_iff.2 (Or.inr ⟨by omega, by
           rw [hqe, Bool.eq_false_iff, Ne, ltP_iff]; omega⟩)))
          clear HBad HT2 hqe h5
          obtain ⟨x, y⟩ := p
          obtain ⟨u, v⟩ := q
          simp only at h1 h2 h3 h4 d5 q0 q1 r0 r1 g1 g2
          subst g1
          go_wp2
          go_ret
          exact ⟨ret_int HR2.out.symm, (HAl2.out _ _).2⟩
        · have HT3 := Lib.hid (HT2.out (by
           rw [Bool.eq_false_iff, Ne, badF_iff, hqe]
           rintro (h | ⟨-, h⟩)
           · omega
           · rw [ltP_iff.2 (Or.inr ⟨g1, g2⟩)] at h; cases h))
          clear HBad HT2 hqe h5
          obtain ⟨x, y⟩ := p
          obtain ⟨u, v⟩ := q
          simp only at h1 h2 h3 h4 d5 q0 q1 r0 r1 g1 g2
          subst g1
          go_wp2
          go_roundw
          case rel => exact ⟨k + 1, by omega, by go_num, HAl2.out _ _, HT3.out⟩
          case measure => simp [intOf]; omega
end Go.Proofs.YtflpikickbellaaGreat
