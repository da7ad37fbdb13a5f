/- HandChecks, walked: Check, Of and Right return what the reference returns. -/
import Derived.Test.YtodjkifcbgmckaaRof
import Derived.Test.YtodjkifcbgmckaaRlk
import Derived.Test.YtodjkifcbgmckaaRgr
import Derived.Test.YtodjkifcbgmckaaHri
import Derived.Test.YtodjkifcbgmckaaHrck
import Derived.Test.YtodjkifcbgmckaaReps
import Derived.Deep.RegionHeld3
namespace Go.Proofs.Ytodjkifcbgmckaa
open Go.RowKit Go.Shelf Go.Sort
set_option maxRecDepth 100000

theorem limbC {P0 P1 P2 P3 P4 P5 Q : Prop} (h : P0 ∧ P1 ∧ P2 ∧ P3 ∧ P4 ∧ P5 ∧ Q) : Q := h.2.2.2.2.2.2
theorem of_lens (s : Stc) : (ofE s).1.to_.length ≤ 8 ∧ (ofE s).1.fronts.length ≤ 64 := by
  unfold ofE
  split
  · simp
  · rename_i h1
    split
    · simp
    · rename_i h2
      split
      · simp
      · rename_i h3
        obtain ⟨a0, a1, b0, b1⟩ := ok_cable (s := s) (Classical.not_not.1 h1) (by omega)
        have h4 := frC_len (decide (s.kind = 6)) s.a.toNat s.b.toNat (s.a.toNat + s.b.toNat)
        have h5 : (s.a.toNat + s.b.toNat) * s.b.toNat ≤ 8 * 8 := Nat.mul_le_mul (by omega) (by omega)
        exact ⟨by show (toC _ _).length ≤ 8; rw [toC_len]; omega, by show (frC _ _ _ _).length ≤ 64; omega⟩
/-- A braid in a box, and its lists. -/
structure BrBx (pb : Nat) (A F : Option Addr) (c fc : Nat) (to_ : List Int) (fr : List (Int × Int)) (W : World) : Prop where
  c0 : W.cell? ⟨pb, 0, none⟩ = some (.slice A to_.length c)
  c1 : W.cell? ⟨pb, 1, none⟩ = some (.slice F fr.length fc)
  tz : SlI W W.heap.size A to_
  fr : SlPr W W.heap.size F fr
theorem BrBx.to {pb : Nat} {A F : Option Addr} {c fc : Nat} {to_ : List Int} {fr : List (Int × Int)} {W W' : World} (h : BrBx pb A F c fc to_ fr W) (hb : Below W.heap.size W W') : BrBx pb A F c fc to_ fr W' :=
  ⟨(bcell hb (lt_of_cell h.c0) _).trans h.c0, (bcell hb (lt_of_cell h.c1) _).trans h.c1, (h.tz.below hb).more hb.size, (h.fr.below hb).more hb.size⟩
theorem BrBx.new {A F : Option Addr} {c fc : Nat} {to_ : List Int} {fr : List (Int × Int)} {W : World} (h : SlI W W.heap.size A to_) (h' : SlPr W W.heap.size F fr) : BrBx W.heap.size A F c fc to_ fr (W.alloc (.cells #[.slice A to_.length c, .slice F fr.length fc] 26)) :=
  ⟨cell_new rfl rfl rfl, cell_new rfl rfl rfl, (h.below ((Below.refl _ W).alloc (Nat.le_refl _) _)).more (by simp), (h'.below ((Below.refl _ W).alloc (Nat.le_refl _) _)).more (by simp)⟩
/-- The arguments of a law, as they lie: a braid, two lists. -/
structure Ag (w : World) (A F : Option Addr) (c fc : Nat) (b : Brd) (An : Option Addr) (ns : List Int) (Ap : Option Addr) (plan : List Int) (W : World) : Prop where
  lo : Below w.heap.size w W
  br : BrBx w.heap.size A F c fc b.to_ b.fronts W
  ns : SlI W W.heap.size An ns
  pl : SlI W W.heap.size Ap plan
theorem Ag.to {w W W' : World} {A F : Option Addr} {c fc : Nat} {b : Brd} {An : Option Addr} {ns : List Int} {Ap : Option Addr} {plan : List Int} (h : Ag w A F c fc b An ns Ap plan W) (hb : Below W.heap.size W W') : Ag w A F c fc b An ns Ap plan W' :=
  ⟨h.lo.trans (hb.mono h.lo.size), h.br.to hb, (h.ns.below hb).more hb.size, (h.pl.below hb).more hb.size⟩
/-- The stitch of HandChecks in its box. -/
def StB (pb : Nat) (kind : Int) (purl : Bool) (sa sb : Int) (W : World) : Prop := W.cell? ⟨pb, 0, none⟩ = some (.int .u8 kind) ∧ W.cell? ⟨pb, 1, none⟩ = some (.bool purl) ∧ W.cell? ⟨pb, 2, none⟩ = some (.int .i64 sa) ∧ W.cell? ⟨pb, 3, none⟩ = some (.int .i64 sb)
theorem StB.to {pb : Nat} {kind : Int} {purl : Bool} {sa sb : Int} {W W' : World} (h : StB pb kind purl sa sb W) (hb : Below W.heap.size W W') : StB pb kind purl sa sb W' :=
  ⟨(bcell hb (lt_of_cell h.1) _).trans h.1, (bcell hb (lt_of_cell h.1) _).trans h.2.1, (bcell hb (lt_of_cell h.1) _).trans h.2.2.1, (bcell hb (lt_of_cell h.1) _).trans h.2.2.2⟩
set_option maxHeartbeats 16000000 in
theorem checks_walk (A F : Option Addr) (c fc : Nat) (b : Brd) (s : Stc) (hw : s.wf) (An : Option Addr) (cn : Nat) (ns : List Int) (Ap : Option Addr) (cp : Nat) (plan : List Int) (hpc : plan.length ≤ cp) (w : World) (hs : SlI w w.heap.size A b.to_) (hp : SlPr w w.heap.size F b.fronts) (hns : SlI w w.heap.size An ns) (hpn : SlI w w.heap.size Ap plan) :
    Calls Try.prog 4 #[.agg #[.slice A b.to_.length c, .slice F b.fronts.length fc], s.val, .slice An ns.length cn, .slice Ap plan.length cp] w fun e w' => e = .returned (.bool true) ∧ Below w.heap.size w w' := by
  have HL := Lib.hid (of_lens s)
  obtain ⟨r, hr⟩ : ∃ r, r = ofE s := ⟨_, rfl⟩
  rw [← hr] at HL
  obtain ⟨kind, purl, sa, sb⟩ := s
  have HOf : Hid (∀ W, Calls Try.prog 15 #[.agg #[.int .u8 kind, .bool purl, .int .i64 sa, .int .i64 sb]] W fun e w' => brdOut r W e w') := fun W => by rw [hr]; exact hof_any ⟨kind, purl, sa, sb⟩ hw W
  have HRo : Hid (∀ W, Calls Try.prog 16 #[.agg #[.int .u8 kind, .bool purl, .int .i64 sa, .int .i64 sb]] W fun e w' => brdOut r W e w') := fun W => by rw [hr]; exact rof_any ⟨kind, purl, sa, sb⟩ hw W
  clear hr hw
  obtain ⟨⟨to_, fr⟩, x⟩ := r
  replace HL : Hid (to_.length ≤ 8 ∧ fr.length ≤ 64) := HL
  show Calls Try.prog 4 #[.agg #[.slice A b.to_.length c, .slice F b.fronts.length fc], .agg #[.int .u8 kind, .bool purl, .int .i64 sa, .int .i64 sb], .slice An ns.length cn, .slice Ap plan.length cp] w _
  have hb1 := (Below.refl w.heap.size w).alloc (Nat.le_refl _) (.cells #[.slice A b.to_.length c, .slice F b.fronts.length fc] 26)
  have hA1 : Ag w A F c fc b An ns Ap plan (w.alloc (.cells #[.slice A b.to_.length c, .slice F b.fronts.length fc] 26)) := ⟨hb1, BrBx.new hs hp, (hns.below hb1).more hb1.size, (hpn.below hb1).more hb1.size⟩
  have hb2 := (Below.refl (w.alloc (.cells #[.slice A b.to_.length c, .slice F b.fronts.length fc] 26)).heap.size (w.alloc (.cells #[.slice A b.to_.length c, .slice F b.fronts.length fc] 26))).alloc (Nat.le_refl _) (.cells #[.int .u8 kind, .bool purl, .int .i64 sa, .int .i64 sb] 35)
  have HX : Hid (Ag w A F c fc b An ns Ap plan ((w.alloc (.cells #[.slice A b.to_.length c, .slice F b.fronts.length fc] 26)).alloc (.cells #[.int .u8 kind, .bool purl, .int .i64 sa, .int .i64 sb] 35)) ∧ StB (w.heap.size + 1) kind purl sa sb ((w.alloc (.cells #[.slice A b.to_.length c, .slice F b.fronts.length fc] 26)).alloc (.cells #[.int .u8 kind, .bool purl, .int .i64 sa, .int .i64 sb] 35))) := by
    refine ⟨hA1.to hb2, ?_⟩
    have e : (w.alloc (.cells #[.slice A b.to_.length c, .slice F b.fronts.length fc] 26)).heap.size = w.heap.size + 1 := by simp
    rw [← e]
    exact ⟨cell_new rfl rfl rfl, cell_new rfl rfl rfl, cell_new rfl rfl rfl, cell_new rfl rfl rfl⟩
  clear hb1 hb2 hA1 hs hp hns hpn
  go_enter Try.func4, Try.ntmps4
  go_upto_region 1 with fail
  refine abs_world (Q := fun W => Code.wp _ _ _ _ W) (F := fun W => Ag w A F c fc b An ns Ap plan W ∧ StB (w.heap.size + 1) kind purl sa sb W) _ HX.out ?_
  try simp only [World.size_alloc]
  clear HX
  rintro W1 ⟨hA1, hS1⟩
  obtain ⟨g0, g1⟩ := And.intro hA1.br.c0 hA1.br.c1
  have HA1 := Lib.hid hA1
  have HS1 := Lib.hid hS1
  have HGr := Lib.hid (great_any A F c fc b W1)
  clear hA1 hS1
  cases hgr : greatB b with
  | true =>
    rw [hgr] at HGr
    clear hgr
    go_wp2_with ((go_at_call 14; refine HGr.out.mono ?_; rintro e w2 ⟨rfl, hb2⟩))
    go_ret
    exact ⟨rfl, HA1.out.lo.trans (hb2.mono HA1.out.lo.size)⟩
  | false =>
  rw [hgr] at HGr
  have hb20 : b.to_.length ≤ 20 ∧ b.fronts.length ≤ 100 := by
    unfold greatB at hgr
    rw [Bool.or_eq_false_iff] at hgr
    have h1 := of_decide_eq_false hgr.1
    have h2 := of_decide_eq_false hgr.2
    omega
  clear hgr
  by_cases hn : 20 < ns.length
  · have d1 : decide (20 < ns.length) = true := decide_eq_true hn
    have d2 : decide ((20 : Int) < (ns.length : Int)) = true := decide_eq_true (by omega)
    clear hn
    go_wp2_with ((go_at_call 14; refine HGr.out.mono ?_; rintro e w2 ⟨rfl, hb2⟩))
    go_ret
    exact ⟨rfl, HA1.out.lo.trans (hb2.mono HA1.out.lo.size)⟩
  have d1 : decide (20 < ns.length) = false := decide_eq_false hn
  have d2 : decide ((20 : Int) < (ns.length : Int)) = false := decide_eq_false (by omega)
  by_cases hm : 20 < plan.length
  · have d3 : decide (20 < plan.length) = true := decide_eq_true hm
    have d4 : decide ((20 : Int) < (plan.length : Int)) = true := decide_eq_true (by omega)
    clear hn hm
    go_wp2_with ((go_at_call 14; refine HGr.out.mono ?_; rintro e w2 ⟨rfl, hb2⟩))
    go_ret
    exact ⟨rfl, HA1.out.lo.trans (hb2.mono HA1.out.lo.size)⟩
  have d3 : decide (20 < plan.length) = false := decide_eq_false hm
  have d4 : decide ((20 : Int) < (plan.length : Int)) = false := decide_eq_false (by omega)
  have HC1 : Hid (∀ W, Ag w A F c fc b An ns Ap plan W → Calls Try.prog 19 #[.agg #[.slice A b.to_.length c, .slice F b.fronts.length fc]] W fun e w' => e = .returned (.int .i64 (brdE b)) ∧ Below W.heap.size W w') := fun W h => hcheck_any A F c fc b (by omega) W h.br.tz h.br.fr
  have HC2 : Hid (∀ W, Ag w A F c fc b An ns Ap plan W → Calls Try.prog 20 #[.agg #[.slice A b.to_.length c, .slice F b.fronts.length fc]] W fun e w' => e = .returned (.int .i64 (brdE b)) ∧ Below W.heap.size W w') := fun W h => rcheck_any A F c fc b (by omega) W h.br.tz h.br.fr
  have HR1 : Hid (∀ W, Ag w A F c fc b An ns Ap plan W → Calls Try.prog 17 #[.agg #[.slice A b.to_.length c, .slice F b.fronts.length fc], .slice An ns.length cn, .slice Ap plan.length cp] W fun e w' => e = .returned (.tuple #[.bool (rightE b ns plan).1, .int .i64 (rightE b ns plan).2]) ∧ Below W.heap.size W w') := fun W h => hright_any A F c fc b (by omega) An cn ns (by omega) Ap cp plan hpc (by omega) W h.br.tz h.br.fr h.ns h.pl
  have HR2 : Hid (∀ W, Ag w A F c fc b An ns Ap plan W → Calls Try.prog 18 #[.agg #[.slice A b.to_.length c, .slice F b.fronts.length fc], .slice An ns.length cn, .slice Ap plan.length cp] W fun e w' => e = .returned (.tuple #[.bool (rightE b ns plan).1, .int .i64 (rightE b ns plan).2]) ∧ Below W.heap.size W w') := fun W h => rright_any A F c fc b (by omega) An cn ns (by omega) Ap cp plan (by omega) W h.br.tz h.br.fr h.ns h.pl
  obtain ⟨eb, heb⟩ : ∃ y, y = brdE b := ⟨_, rfl⟩
  obtain ⟨rq, hrq⟩ : ∃ y, y = (rightE b ns plan).1 := ⟨_, rfl⟩
  obtain ⟨rx, hrx⟩ : ∃ y, y = (rightE b ns plan).2 := ⟨_, rfl⟩
  rw [← heb] at HC1 HC2
  rw [← hrq, ← hrx] at HR1 HR2
  clear heb hrq hrx hn hm hpc hb20
  go_upto_region 3 with ((go_at_call 14; refine HGr.out.mono ?_; rintro e w2 ⟨rfl, hb2⟩))
  refine abs_world (Q := fun W => Code.wp _ _ _ _ W) (F := fun W => Ag w A F c fc b An ns Ap plan W ∧ StB (w.heap.size + 1) kind purl sa sb W) _ ⟨HA1.out.to hb2, HS1.out.to hb2⟩ ?_
  clear HGr hb2 HA1 HS1 d1 d2 d3 d4 g0 g1
  rintro W3 ⟨hA3, hS3⟩
  obtain ⟨s0, s1, s2, s3⟩ := hS3
  have HA3 := Lib.hid hA3
  have HS3 : Hid (StB (w.heap.size + 1) kind purl sa sb W3) := ⟨s0, s1, s2, s3⟩
  clear hA3
  go_upto_region 4 with ((go_at_call 15; refine (HOf.out _).mono ?_; intro e w4 ho; obtain ⟨A1, F1, c1, fc1, rfl, hs1, hp1, hb1⟩ := brd_open ho; clear ho))
  have hal := (Below.refl w4.heap.size w4).alloc (Nat.le_refl _) (.cells #[.slice A1 to_.length c1, .slice F1 fr.length fc1] 26)
  have HX : Hid (Ag w A F c fc b An ns Ap plan (w4.alloc (.cells #[.slice A1 to_.length c1, .slice F1 fr.length fc1] 26)) ∧ StB (w.heap.size + 1) kind purl sa sb (w4.alloc (.cells #[.slice A1 to_.length c1, .slice F1 fr.length fc1] 26)) ∧ BrBx w4.heap.size A1 F1 c1 fc1 to_ fr (w4.alloc (.cells #[.slice A1 to_.length c1, .slice F1 fr.length fc1] 26))) := ⟨(HA3.out.to hb1).to hal, (HS3.out.to hb1).to hal, BrBx.new hs1 hp1⟩
  clear hal hs1 hp1 hb1 s0 s1 s2 s3 HA3 HS3 HOf
  refine abs_world (Q := fun W => Code.wp _ _ _ _ W) (F := fun W => Ag w A F c fc b An ns Ap plan W ∧ StB (w.heap.size + 1) kind purl sa sb W ∧ BrBx w4.heap.size A1 F1 c1 fc1 to_ fr W) _ HX.out ?_
  clear HX
  obtain ⟨p1, hp1⟩ : ∃ p1, p1 = w4.heap.size := ⟨_, rfl⟩
  rw [← hp1]
  clear hp1
  rintro W5 ⟨hA5, ⟨s0, s1, s2, s3⟩, hB5⟩
  have HA5 := Lib.hid hA5
  have HB5 := Lib.hid hB5
  clear hA5 hB5
  go_upto_region 5 with ((go_at_call 16; refine (HRo.out _).mono ?_; intro e w6 ho; obtain ⟨A2, F2, c2, fc2, rfl, hs2, hp2, hb2⟩ := brd_open ho; clear ho))
  have hal := (Below.refl w6.heap.size w6).alloc (Nat.le_refl _) (.cells #[.slice A2 to_.length c2, .slice F2 fr.length fc2] 26)
  have HX : Hid (Ag w A F c fc b An ns Ap plan (w6.alloc (.cells #[.slice A2 to_.length c2, .slice F2 fr.length fc2] 26)) ∧ BrBx p1 A1 F1 c1 fc1 to_ fr (w6.alloc (.cells #[.slice A2 to_.length c2, .slice F2 fr.length fc2] 26)) ∧ BrBx w6.heap.size A2 F2 c2 fc2 to_ fr (w6.alloc (.cells #[.slice A2 to_.length c2, .slice F2 fr.length fc2] 26))) := ⟨(HA5.out.to hb2).to hal, (HB5.out.to hb2).to hal, BrBx.new hs2 hp2⟩
  clear hal hs2 hp2 hb2 s0 s1 s2 s3 HA5 HB5 HRo
  refine abs_world (Q := fun W => Code.wp _ _ _ _ W) (F := fun W => Ag w A F c fc b An ns Ap plan W ∧ BrBx p1 A1 F1 c1 fc1 to_ fr W ∧ BrBx w6.heap.size A2 F2 c2 fc2 to_ fr W) _ HX.out ?_
  clear HX
  obtain ⟨p2, hp2⟩ : ∃ p2, p2 = w6.heap.size := ⟨_, rfl⟩
  rw [← hp2]
  clear hp2
  rintro W7 ⟨hA7, hB7, hC7⟩
  obtain ⟨g0, g1⟩ := And.intro hA7.br.c0 hA7.br.c1
  have HA7 := Lib.hid hA7
  have HB7 := Lib.hid (And.intro hB7 hC7)
  clear hA7 hB7 hC7
  go_upto_region 6 with ((go_at_call 17; refine (HR1.out _ HA7.out).mono ?_; rintro e w8 ⟨rfl, hb8⟩))
  refine abs_world (Q := fun W => Code.wp _ _ _ _ W) (F := fun W => Ag w A F c fc b An ns Ap plan W ∧ BrBx p1 A1 F1 c1 fc1 to_ fr W ∧ BrBx p2 A2 F2 c2 fc2 to_ fr W) _ ⟨HA7.out.to hb8, HB7.out.1.to hb8, HB7.out.2.to hb8⟩ ?_
  clear hb8 g0 g1 HA7 HB7 HR1
  rintro W9 ⟨hA9, hB9, hC9⟩
  obtain ⟨g0, g1⟩ := And.intro hA9.br.c0 hA9.br.c1
  have HA9 := Lib.hid hA9
  have HB9 := Lib.hid (And.intro hB9 hC9)
  clear hA9 hB9 hC9
  go_upto_region 7 with ((go_at_call 18; refine (HR2.out _ HA9.out).mono ?_; rintro e w10 ⟨rfl, hb10⟩))
  refine abs_world (Q := fun W => Code.wp _ _ _ _ W) (F := fun W => Ag w A F c fc b An ns Ap plan W ∧ BrBx p1 A1 F1 c1 fc1 to_ fr W ∧ BrBx p2 A2 F2 c2 fc2 to_ fr W) _ ⟨HA9.out.to hb10, HB9.out.1.to hb10, HB9.out.2.to hb10⟩ ?_
  clear hb10 g0 g1 HA9 HB9 HR2
  rintro W ⟨hA, hB, hC⟩
  have HSm : Hid (∀ W', Below W.heap.size W W' → Calls Try.prog 13 #[.agg #[.slice A1 to_.length c1, .slice F1 fr.length fc1], .agg #[.slice A2 to_.length c2, .slice F2 fr.length fc2]] W' fun e w' => e = .returned (.bool true) ∧ Below W'.heap.size W' w') := fun W' hb =>
    rsame29_any A1 A2 F1 F2 c1 c2 fc1 fc2 to_ fr (by have := HL.out.1; omega) (by have := HL.out.2; omega) W' (hB.to hb).tz (hC.to hb).tz (hB.to hb).fr (hC.to hb).fr
  have HSb : Hid (∀ W', Below W.heap.size W W' → W'.cell? ⟨w.heap.size, 0, none⟩ = some (.slice A b.to_.length c) ∧ W'.cell? ⟨w.heap.size, 1, none⟩ = some (.slice F b.fronts.length fc) ∧ W'.cell? ⟨p1, 0, none⟩ = some (.slice A1 to_.length c1) ∧ W'.cell? ⟨p1, 1, none⟩ = some (.slice F1 fr.length fc1) ∧ W'.cell? ⟨p2, 0, none⟩ = some (.slice A2 to_.length c2) ∧ W'.cell? ⟨p2, 1, none⟩ = some (.slice F2 fr.length fc2) ∧ Below W.heap.size W W') := fun W' hb => by
    have h := hA.to hb
    have h1 := hB.to hb
    have h2 := hC.to hb
    exact ⟨h.br.c0, h.br.c1, h1.c0, h1.c1, h2.c0, h2.c1, hb⟩
  have HA := Lib.hid hA
  have hbD : Below W.heap.size W W.drew := Below.drew (Below.refl _ _)
  clear hA hB hC HL
  go_cut [8] (fun s8 wr => s8 = .bool true ∧ Hid (Below W.heap.size W wr))
  case first =>
    go_region_held3 (fun W' => W'.cell? ⟨w.heap.size, 0, none⟩ = some (.slice A b.to_.length c) ∧ W'.cell? ⟨w.heap.size, 1, none⟩ = some (.slice F b.fronts.length fc) ∧ W'.cell? ⟨p1, 0, none⟩ = some (.slice A1 to_.length c1) ∧ W'.cell? ⟨p1, 1, none⟩ = some (.slice F1 fr.length fc1) ∧ W'.cell? ⟨p2, 0, none⟩ = some (.slice A2 to_.length c2) ∧ W'.cell? ⟨p2, 1, none⟩ = some (.slice F2 fr.length fc2) ∧ Below W.heap.size W W')
      (first | (with_reducible exact HSb.out _ (by assumption)) | fail)
      (first | (go_at_call 19; have hp := limbC (by assumption); refine (HC1.out _ (HA.out.to hp)).mono ?_; rintro e wd ⟨rfl, hbd⟩; have hbw := hp.trans (hbd.mono hp.size); clear hp) | (go_at_call 20; have hp := limbC (by assumption); refine (HC2.out _ (HA.out.to hp)).mono ?_; rintro e wd ⟨rfl, hbd⟩; have hbw := hp.trans (hbd.mono hp.size); clear hp) | (go_at_call 13; have hp := limbC (by assumption); refine (HSm.out _ hp).mono ?_; rintro e wd ⟨rfl, hbd⟩; have hbw := hp.trans (hbd.mono hp.size); clear hp) | fail)
    all_goals
      go_wp2_with fail
      go_meet
      exact ⟨rfl, by assumption⟩
  case rest =>
    obtain ⟨rfl, HB⟩ := hcut
    have HO := Lib.hid (HA.out.to HB.out).lo
    clear HSb hbD HB HA
    go_wp2
    go_ret
    exact ⟨rfl, HO.out⟩
end Go.Proofs.Ytodjkifcbgmckaa
