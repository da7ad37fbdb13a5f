/- Layer 31: grow, at a pass of yarn. Layer 31: grow, at a pass of transfers or drops, and where nothing may be taken in. The reference's Instr: 0 or 8. -/
import Derived.Test.YtbnddpknejgmhaaGreatKP46
import Derived.Test.YtbnddpknejgmhaaGreatKP39
import Derived.Deep.RegionHeld3
import Derived.Deep.CutBlock
import Derived.Deep.Light
namespace Go.Proofs.YtbnddpknejgmhaaGreat
open Go.RowKit
set_option maxRecDepth 100000

def yarnB (i : Ins) : Bool := decide (3 ≤ i.op ∧ i.op ≤ 6)
def wayB (rack : Int) (l i : Ins) : Bool := if i.right then decide (0 < i.col rack - l.col rack) else decide (i.col rack - l.col rack < 0)
def growB (rack : Int) (a l : Ins) (U : List Hook) (i : Ins) : Bool :=
  if yarnB a && yarnB i then decide (i.car = a.car) && decide (i.right = a.right) && wayB rack l i
  else if a.op = i.op ∧ (a.op = 7 ∨ a.op = 9) then !((hooks i).any fun u => decide (u ∈ U)) else false
def growU (a : Ins) (U : List Hook) (i : Ins) : List Hook := if yarnB a && yarnB i then U else (hooks i).reverse ++ U

theorem keep_first {w W0 : World} {pb : Nat} {i l : Ins} {rack : Int} {W W' : World} (h : W.cell? ⟨w.heap.size, 0, none⟩ = some (.pointer (some ⟨pb, 0, none⟩)) ∧ W.cell? ⟨w.heap.size + 1, 0, none⟩ = some (.int .u8 i.op) ∧ W.cell? ⟨w.heap.size + 1, 1, none⟩ = some (.bool i.right) ∧ W.cell? ⟨w.heap.size + 1, 2, none⟩ = some (.int .u8 i.bed) ∧ W.cell? ⟨w.heap.size + 1, 3, none⟩ = some (.int .i64 i.at_) ∧ W.cell? ⟨w.heap.size + 1, 4, none⟩ = some (.int .i64 i.to_) ∧ W.cell? ⟨w.heap.size + 1, 5, none⟩ = some (.int .i64 i.car) ∧ W.cell? ⟨w.heap.size + 1, 6, none⟩ = some (.int .i64 i.rack) ∧ W.cell? ⟨pb, 7, none⟩ = some (.int .u8 l.op) ∧ W.cell? ⟨pb, 8, none⟩ = some (.bool l.right) ∧ W.cell? ⟨pb, 9, none⟩ = some (.int .u8 l.bed) ∧ W.cell? ⟨pb, 10, none⟩ = some (.int .i64 l.at_) ∧ W.cell? ⟨pb, 11, none⟩ = some (.int .i64 l.to_) ∧ W.cell? ⟨pb, 12, none⟩ = some (.int .i64 l.car) ∧ W.cell? ⟨pb, 13, none⟩ = some (.int .i64 l.rack) ∧ W.cell? ⟨pb, 14, none⟩ = some (.int .i64 rack) ∧ Below W0.heap.size W0 W) (hb : Below W.heap.size W W') : W'.cell? ⟨w.heap.size, 0, none⟩ = some (.pointer (some ⟨pb, 0, none⟩)) ∧ W'.cell? ⟨w.heap.size + 1, 0, none⟩ = some (.int .u8 i.op) ∧ W'.cell? ⟨w.heap.size + 1, 1, none⟩ = some (.bool i.right) ∧ W'.cell? ⟨w.heap.size + 1, 2, none⟩ = some (.int .u8 i.bed) ∧ W'.cell? ⟨w.heap.size + 1, 3, none⟩ = some (.int .i64 i.at_) ∧ W'.cell? ⟨w.heap.size + 1, 4, none⟩ = some (.int .i64 i.to_) ∧ W'.cell? ⟨w.heap.size + 1, 5, none⟩ = some (.int .i64 i.car) ∧ W'.cell? ⟨w.heap.size + 1, 6, none⟩ = some (.int .i64 i.rack) ∧ W'.cell? ⟨pb, 7, none⟩ = some (.int .u8 l.op) ∧ W'.cell? ⟨pb, 8, none⟩ = some (.bool l.right) ∧ W'.cell? ⟨pb, 9, none⟩ = some (.int .u8 l.bed) ∧ W'.cell? ⟨pb, 10, none⟩ = some (.int .i64 l.at_) ∧ W'.cell? ⟨pb, 11, none⟩ = some (.int .i64 l.to_) ∧ W'.cell? ⟨pb, 12, none⟩ = some (.int .i64 l.car) ∧ W'.cell? ⟨pb, 13, none⟩ = some (.int .i64 l.rack) ∧ W'.cell? ⟨pb, 14, none⟩ = some (.int .i64 rack) ∧ Below W0.heap.size W0 W' := by
  obtain ⟨s0, s1, s2, s3, s4, s5, s6, s7, s8, s9, s10, s11, s12, s13, s14, s15, s16⟩ := h
  exact ⟨(bcell hb (cell_lt s0) _).trans s0, (bcell hb (cell_lt s1) _).trans s1, (bcell hb (cell_lt s2) _).trans s2, (bcell hb (cell_lt s3) _).trans s3, (bcell hb (cell_lt s4) _).trans s4, (bcell hb (cell_lt s5) _).trans s5, (bcell hb (cell_lt s6) _).trans s6, (bcell hb (cell_lt s7) _).trans s7, (bcell hb (cell_lt s8) _).trans s8, (bcell hb (cell_lt s9) _).trans s9, (bcell hb (cell_lt s10) _).trans s10, (bcell hb (cell_lt s11) _).trans s11, (bcell hb (cell_lt s12) _).trans s12, (bcell hb (cell_lt s13) _).trans s13, (bcell hb (cell_lt s14) _).trans s14, (bcell hb (cell_lt s15) _).trans s15, s16.trans (hb.mono s16.size)⟩
theorem keep_rack {w W0 : World} {pb : Nat} {i l : Ins} {rack : Int} {W : World} (h : W.cell? ⟨w.heap.size, 0, none⟩ = some (.pointer (some ⟨pb, 0, none⟩)) ∧ W.cell? ⟨w.heap.size + 1, 0, none⟩ = some (.int .u8 i.op) ∧ W.cell? ⟨w.heap.size + 1, 1, none⟩ = some (.bool i.right) ∧ W.cell? ⟨w.heap.size + 1, 2, none⟩ = some (.int .u8 i.bed) ∧ W.cell? ⟨w.heap.size + 1, 3, none⟩ = some (.int .i64 i.at_) ∧ W.cell? ⟨w.heap.size + 1, 4, none⟩ = some (.int .i64 i.to_) ∧ W.cell? ⟨w.heap.size + 1, 5, none⟩ = some (.int .i64 i.car) ∧ W.cell? ⟨w.heap.size + 1, 6, none⟩ = some (.int .i64 i.rack) ∧ W.cell? ⟨pb, 7, none⟩ = some (.int .u8 l.op) ∧ W.cell? ⟨pb, 8, none⟩ = some (.bool l.right) ∧ W.cell? ⟨pb, 9, none⟩ = some (.int .u8 l.bed) ∧ W.cell? ⟨pb, 10, none⟩ = some (.int .i64 l.at_) ∧ W.cell? ⟨pb, 11, none⟩ = some (.int .i64 l.to_) ∧ W.cell? ⟨pb, 12, none⟩ = some (.int .i64 l.car) ∧ W.cell? ⟨pb, 13, none⟩ = some (.int .i64 l.rack) ∧ W.cell? ⟨pb, 14, none⟩ = some (.int .i64 rack) ∧ Below W0.heap.size W0 W) : W.cell? ⟨pb, 14, none⟩ = some (.int .i64 rack) := h.2.2.2.2.2.2.2.2.2.2.2.2.2.2.2.1

def condY (rack : Int) (a l i : Ins) : Bool := decide (i.car = a.car) && decide (i.right = a.right) && wayB rack l i
def GrowPost (rack : Int) (a l i : Ins) (pb mb n : Nat) (U : List Hook) (w : World) (e : Ending) (w' : World) : Prop :=
  ∃ b, e = .returned (.bool b) ∧ b = condY rack a l i ∧ w.grownBy w' (some pb) ∧ (b = true → PassAt w' pb mb n a i rack U)
theorem GrowPost.no {rack : Int} {a l i : Ins} {pb mb n : Nat} {U : List Hook} {w w' : World} (h : condY rack a l i = false) (hb : Below w.heap.size w w') : GrowPost rack a l i pb mb n U w (.returned (.bool false)) w' :=
  ⟨false, rfl, h.symm, grown_of_below hb, fun h => by cases h⟩
theorem GrowPost.yes {rack : Int} {a l i : Ins} {pb mb n : Nat} {U : List Hook} {w W w' : World} (h : condY rack a l i = true) (hb : Below w.heap.size w W) (hs : W.grownBy w' (some pb) ∧ PassAt w' pb mb n a i rack U) : GrowPost rack a l i pb mb n U w (.returned (.bool true)) w' :=
  ⟨true, rfl, h.symm, (grown_of_below hb).trans hs.1, fun _ => hs.2⟩
set_option maxHeartbeats 1000000 in
theorem grow_yarn (i a l : Ins) (hi : i.fit) (hl : l.fit) (rack : Int) (hr : -8 ≤ rack ∧ rack ≤ 8) (pb mb n : Nat) (U : List Hook) (w : World) (hP : PassAt w pb mb n a l rack U) (hya : yarnB a = true) (hyi : yarnB i = true) :
    Calls Tryz.prog 73 #[.pointer (some ⟨pb, 0, none⟩), i.val] w fun e w' => GrowPost rack a l i pb mb n U w e w' := by
  have hy1 := yarnP_any a.op
  have hy2 := yarnP_any i.op
  unfold yarnB at hya hyi
  rw [hya] at hy1
  rw [hyi] at hy2
  have HY1 := Lib.hid hy1
  have HY2 := Lib.hid hy2
  have hcol := Lib.hid (fun pb w hp => columnP_any rack i hi hr pb w hp)
  have hcol2 := Lib.hid (fun pb w hp => columnP_any rack l hl hr pb w hp)
  obtain ⟨f0, f1, f2, f3, f4, f5, f6⟩ := hP.first
  obtain ⟨l0, l1, l2, l3, l4, l5, l6⟩ := hP.last
  have hk := hP.rack
  have hpl := cell_lt hk
  have hA2 : ∀ o1 o2 k, ((w.alloc o1).alloc o2).cell? ⟨pb, k, none⟩ = w.cell? ⟨pb, k, none⟩ := fun o1 o2 k => bcell (((Below.refl _ w).alloc (Nat.le_refl _) o1).alloc (by simp) o2) hpl k
  have hA3 : ∀ o1 o2 o3 k, (((w.alloc o1).alloc o2).alloc o3).cell? ⟨pb, k, none⟩ = w.cell? ⟨pb, k, none⟩ := fun o1 o2 o3 k => bcell ((((Below.refl _ w).alloc (Nat.le_refl _) o1).alloc (by simp) o2).alloc (by simp; omega) o3) hpl k
  simp only [Nat.zero_add, Nat.reduceAdd] at f1 f2 f3 f4 f5 f6 l1 l2 l3 l4 l5 l6
  obtain ⟨W0, hW0⟩ : ∃ W0, W0 = ((w.alloc (.cells #[.pointer (some ⟨pb, 0, none⟩)] 130)).alloc (.cells #[.int .u8 i.op, .bool i.right, .int .u8 i.bed, .int .i64 i.at_, .int .i64 i.to_, .int .i64 i.car, .int .i64 i.rack] 64)).alloc (.cells #[.int .u8 a.op, .bool a.right, .int .u8 a.bed, .int .i64 a.at_, .int .i64 a.to_, .int .i64 a.car, .int .i64 a.rack] 64) := ⟨_, rfl⟩
  have hb0 : Below w.heap.size w W0 := by rw [hW0]; exact (((Below.refl _ w).alloc (Nat.le_refl _) _).alloc (by simp) _).alloc (by simp; omega) _
  have hz0 : W0.heap.size = w.heap.size + 3 := by rw [hW0]; simp
  have hS0 : W0.cell? ⟨w.heap.size, 0, none⟩ = some (.pointer (some ⟨pb, 0, none⟩)) ∧ W0.cell? ⟨w.heap.size + 1, 0, none⟩ = some (.int .u8 i.op) ∧ W0.cell? ⟨w.heap.size + 1, 1, none⟩ = some (.bool i.right) ∧ W0.cell? ⟨w.heap.size + 1, 2, none⟩ = some (.int .u8 i.bed) ∧ W0.cell? ⟨w.heap.size + 1, 3, none⟩ = some (.int .i64 i.at_) ∧ W0.cell? ⟨w.heap.size + 1, 4, none⟩ = some (.int .i64 i.to_) ∧ W0.cell? ⟨w.heap.size + 1, 5, none⟩ = some (.int .i64 i.car) ∧ W0.cell? ⟨w.heap.size + 1, 6, none⟩ = some (.int .i64 i.rack) ∧ W0.cell? ⟨pb, 7, none⟩ = some (.int .u8 l.op) ∧ W0.cell? ⟨pb, 8, none⟩ = some (.bool l.right) ∧ W0.cell? ⟨pb, 9, none⟩ = some (.int .u8 l.bed) ∧ W0.cell? ⟨pb, 10, none⟩ = some (.int .i64 l.at_) ∧ W0.cell? ⟨pb, 11, none⟩ = some (.int .i64 l.to_) ∧ W0.cell? ⟨pb, 12, none⟩ = some (.int .i64 l.car) ∧ W0.cell? ⟨pb, 13, none⟩ = some (.int .i64 l.rack) ∧ W0.cell? ⟨pb, 14, none⟩ = some (.int .i64 rack) ∧ Below W0.heap.size W0 W0 := by
    rw [hW0]
    have hn1 : ∀ k v, (#[.int .u8 i.op, .bool i.right, .int .u8 i.bed, .int .i64 i.at_, .int .i64 i.to_, .int .i64 i.car, .int .i64 i.rack] : Array Value)[k]? = some v → (((w.alloc (.cells #[.pointer (some ⟨pb, 0, none⟩)] 130)).alloc (.cells #[.int .u8 i.op, .bool i.right, .int .u8 i.bed, .int .i64 i.at_, .int .i64 i.to_, .int .i64 i.car, .int .i64 i.rack] 64)).alloc (.cells #[.int .u8 a.op, .bool a.right, .int .u8 a.bed, .int .i64 a.at_, .int .i64 a.to_, .int .i64 a.car, .int .i64 a.rack] 64)).cell? ⟨w.heap.size + 1, k, none⟩ = some v := fun k v hv =>
      (bcell (B := w.heap.size + 2) ((Below.refl _ _).alloc (by simp) _) (by omega) _).trans (cell_of_new _ _ _ (by simp) hv)
    exact ⟨(bcell (B := w.heap.size + 1) ((Below.refl _ _).alloc (by simp) _) (by omega) _).trans ((bcell (B := w.heap.size + 1) ((Below.refl _ _).alloc (by simp) _) (by omega) _).trans (cell_of_new _ _ _ rfl rfl)),
      hn1 0 _ rfl, hn1 1 _ rfl, hn1 2 _ rfl, hn1 3 _ rfl, hn1 4 _ rfl, hn1 5 _ rfl, hn1 6 _ rfl,
      (hA3 _ _ _ _).trans l0, (hA3 _ _ _ _).trans l1, (hA3 _ _ _ _).trans l2, (hA3 _ _ _ _).trans l3, (hA3 _ _ _ _).trans l4, (hA3 _ _ _ _).trans l5, (hA3 _ _ _ _).trans l6, (hA3 _ _ _ _).trans hk, Below.refl _ _⟩
  have ha0 : InsAt W0 (w.heap.size + 2) 0 a := by
    rw [hW0]
    exact ⟨cell_of_new _ _ _ (by simp) rfl, cell_of_new _ _ _ (by simp) rfl, cell_of_new _ _ _ (by simp) rfl, cell_of_new _ _ _ (by simp) rfl, cell_of_new _ _ _ (by simp) rfl, cell_of_new _ _ _ (by simp) rfl, cell_of_new _ _ _ (by simp) rfl⟩
  have HS0 := Lib.hid hS0
  have HP := Lib.hid hP
  have HA0 := Lib.hid ha0
  have HB0 := Lib.hid hb0
  have HZ0 := Lib.hid hz0
  have hwr : IntKind.i64.wrap (i.col rack - l.col rack) = i.col rack - l.col rack := IntWalk.i64_in _ (by have h1 := (col_rng hi hr).2; have h2 := (col_rng hl hr).2; omega)
  have HWAY : Hid (∀ d, i.col rack - l.col rack = d → condY rack a l i = (decide (i.car = a.car) && decide (i.right = a.right) && if i.right then decide (0 < d) else decide (d < 0))) := fun d hd => by unfold condY wayB; rw [hd]
  clear hy1 hy2 hya hyi hS0 ha0 hP hb0 hz0 hi hl hr
  go_enter Tryz.func73, Tryz.ntmps73
  go_wp2_with (first
    | (go_at_call 100; refine (HY1.out _).mono ?_; rintro e w' ⟨rfl, rfl⟩)
    | (go_at_call 100; refine (HY2.out _).mono ?_; rintro e w' ⟨rfl, rfl⟩))
  rw [← hW0]
  clear hW0 hA2 hA3 f0 f1 f2 f3 f4 f5 f6 l0 l1 l2 l3 l4 l5 l6 hk
  go_region_held3 (fun W => W.cell? ⟨w.heap.size, 0, none⟩ = some (.pointer (some ⟨pb, 0, none⟩)) ∧ W.cell? ⟨w.heap.size + 1, 0, none⟩ = some (.int .u8 i.op) ∧ W.cell? ⟨w.heap.size + 1, 1, none⟩ = some (.bool i.right) ∧ W.cell? ⟨w.heap.size + 1, 2, none⟩ = some (.int .u8 i.bed) ∧ W.cell? ⟨w.heap.size + 1, 3, none⟩ = some (.int .i64 i.at_) ∧ W.cell? ⟨w.heap.size + 1, 4, none⟩ = some (.int .i64 i.to_) ∧ W.cell? ⟨w.heap.size + 1, 5, none⟩ = some (.int .i64 i.car) ∧ W.cell? ⟨w.heap.size + 1, 6, none⟩ = some (.int .i64 i.rack) ∧ W.cell? ⟨pb, 7, none⟩ = some (.int .u8 l.op) ∧ W.cell? ⟨pb, 8, none⟩ = some (.bool l.right) ∧ W.cell? ⟨pb, 9, none⟩ = some (.int .u8 l.bed) ∧ W.cell? ⟨pb, 10, none⟩ = some (.int .i64 l.at_) ∧ W.cell? ⟨pb, 11, none⟩ = some (.int .i64 l.to_) ∧ W.cell? ⟨pb, 12, none⟩ = some (.int .i64 l.car) ∧ W.cell? ⟨pb, 13, none⟩ = some (.int .i64 l.rack) ∧ W.cell? ⟨pb, 14, none⟩ = some (.int .i64 rack) ∧ Below W0.heap.size W0 W)
    (first | exact keep_first HS0.out (Below.drew (Below.refl _ _)) | exact keep_first (by assumption) (by assumption))
    (first
      | (go_at_call_of 101 (Value.agg #[.int .u8 i.op, .bool i.right, .int .u8 i.bed, .int .i64 i.at_, .int .i64 i.to_, .int .i64 i.car, .int .i64 i.rack]); refine (hcol.out pb _ (keep_rack (by assumption))).mono ?_; rintro e w' ⟨rfl, hb1⟩)
      | (go_at_call_of 101 (Value.agg #[.int .u8 l.op, .bool l.right, .int .u8 l.bed, .int .i64 l.at_, .int .i64 l.to_, .int .i64 l.car, .int .i64 l.rack]); refine (hcol2.out pb _ (keep_rack (by assumption))).mono ?_; rintro e w' ⟨rfl, hb1⟩))
  have hS1 : w'.cell? ⟨w.heap.size, 0, none⟩ = some (.pointer (some ⟨pb, 0, none⟩)) ∧ w'.cell? ⟨w.heap.size + 1, 0, none⟩ = some (.int .u8 i.op) ∧ w'.cell? ⟨w.heap.size + 1, 1, none⟩ = some (.bool i.right) ∧ w'.cell? ⟨w.heap.size + 1, 2, none⟩ = some (.int .u8 i.bed) ∧ w'.cell? ⟨w.heap.size + 1, 3, none⟩ = some (.int .i64 i.at_) ∧ w'.cell? ⟨w.heap.size + 1, 4, none⟩ = some (.int .i64 i.to_) ∧ w'.cell? ⟨w.heap.size + 1, 5, none⟩ = some (.int .i64 i.car) ∧ w'.cell? ⟨w.heap.size + 1, 6, none⟩ = some (.int .i64 i.rack) ∧ w'.cell? ⟨pb, 7, none⟩ = some (.int .u8 l.op) ∧ w'.cell? ⟨pb, 8, none⟩ = some (.bool l.right) ∧ w'.cell? ⟨pb, 9, none⟩ = some (.int .u8 l.bed) ∧ w'.cell? ⟨pb, 10, none⟩ = some (.int .i64 l.at_) ∧ w'.cell? ⟨pb, 11, none⟩ = some (.int .i64 l.to_) ∧ w'.cell? ⟨pb, 12, none⟩ = some (.int .i64 l.car) ∧ w'.cell? ⟨pb, 13, none⟩ = some (.int .i64 l.rack) ∧ w'.cell? ⟨pb, 14, none⟩ = some (.int .i64 rack) ∧ Below W0.heap.size W0 w' := by assumption
  have hb2 : Below w.heap.size w w' := HB0.out.trans (hS1.2.2.2.2.2.2.2.2.2.2.2.2.2.2.2.2.mono HB0.out.size)
  have hP1 : PassAt w' pb mb n a l rack U := HP.out.below hb2 hpl HP.out.set_.lt
  have hA1 : InsAt w' (w.heap.size + 2) 0 a := HA0.out.below hS1.2.2.2.2.2.2.2.2.2.2.2.2.2.2.2.2 (by rw [HZ0.out]; omega)
  obtain ⟨s0, s1, s2, s3, s4, s5, s6, s7, _⟩ := hS1
  obtain ⟨a0, a1, a2, a3, a4, a5, a6⟩ := hA1
  simp only [Nat.zero_add] at a0 a1 a2 a3 a4 a5 a6
  clear HS0 HA0 HB0 HZ0 HP hcol hcol2 HY1 HY2 hwr
  have HB2 := Lib.hid hb2
  have HP1 := Lib.hid hP1
  clear hb2 hP1
  generalize w' = W1 at *
  have fr := HP1.out.thawed
  have l0 := HP1.out.last.1
  have HD := HWAY.out _ rfl
  generalize i.col rack - l.col rack = d at HD ⊢
  have HD2 := Lib.hid HD
  clear HD HWAY
  have HP2 := Lib.hid (fun v0 v1 v2 v3 v4 v5 v6 => HP1.out.store (i := i) (v0 := v0) (v1 := v1) (v2 := v2) (v3 := v3) (v4 := v4) (v5 := v5) (v6 := v6))
  clear HP1
  go_wp2
  all_goals go_ret
  all_goals first
    | (refine GrowPost.no ?_ HB2.out
       rw [HD2.out]; simp [*]; done)
    | (refine GrowPost.yes ?_ HB2.out (HP2.out _ _ _ _ _ _ _ rfl (by first | rfl | (simp [*]; done)) rfl rfl rfl (by first | rfl | (simp [*]; done)) rfl)
       rw [HD2.out]; simp [*]; done)
    | skip
end Go.Proofs.YtbnddpknejgmhaaGreat
namespace Go.Proofs.YtbnddpknejgmhaaGreat
open Go.RowKit
set_option maxRecDepth 100000

theorem PassAt.grown {w w' : World} {pb mb n n' : Nat} {a l : Ins} {rack : Int} {U U' : List Hook} (h : PassAt w pb mb n a l rack U) (hg : w.grownBy w' (some mb)) (hs : HookSet w' mb n' U') : PassAt w' pb mb n' a l rack U' := by
  have hne : pb ≠ mb := h.set_.ne h.rack
  exact ⟨grown_ins hg hne h.first, grown_ins hg hne h.last, grown_cell hg hne h.rack, grown_cell hg hne h.used, hs, fun k => grown_thawed hg hne (cell_lt h.rack) (h.thawed k)⟩

def condO (a i : Ins) (U : List Hook) : Bool := decide (a.op = i.op ∧ (a.op = 7 ∨ a.op = 9)) && !((hooks i).any fun u => decide (u ∈ U))
def GrowPostO (rack : Int) (a i : Ins) (pb mb n : Nat) (U : List Hook) (B : Nat) (w : World) (e : Ending) (w' : World) : Prop :=
  ∃ b, e = .returned (.bool b) ∧ b = condO a i U ∧ Below B w w' ∧ (b = true → PassAt w' pb mb (n + (hooks i).length) a i rack ((hooks i).reverse ++ U))
theorem GrowPostO.no {rack : Int} {a i : Ins} {pb mb n B : Nat} {U : List Hook} {w w' : World} (h : condO a i U = false) (hb : Below B w w') : GrowPostO rack a i pb mb n U B w (.returned (.bool false)) w' :=
  ⟨false, rfl, h.symm, hb, fun h => by cases h⟩
theorem GrowPostO.yes {rack : Int} {a i : Ins} {pb mb n B : Nat} {U : List Hook} {w W w' : World} (h : condO a i U = true) (hb : Below B w W) (hB : B ≤ pb) (hs : W.grownBy w' (some pb) ∧ PassAt w' pb mb (n + (hooks i).length) a i rack ((hooks i).reverse ++ U)) (hBW : B ≤ W.heap.size) : GrowPostO rack a i pb mb n U B w (.returned (.bool true)) w' :=
  ⟨true, rfl, h.symm, hb.grown hs.1 hBW (fun k e => by cases e; exact hB), fun _ => hs.2⟩

/-- The boxed pass and the boxed instruction, seen from later worlds. -/
theorem boxes {w w1 : World} {pb : Nat} {i : Ins} {t t2 : TypeId} {o2 : Obj}
    (hb : Below (((w.alloc (.cells #[.pointer (some ⟨pb, 0, none⟩)] t)).alloc (.cells #[.int .u8 i.op, .bool i.right, .int .u8 i.bed, .int .i64 i.at_, .int .i64 i.to_, .int .i64 i.car, .int .i64 i.rack] t2)).alloc o2).heap.size
      (((w.alloc (.cells #[.pointer (some ⟨pb, 0, none⟩)] t)).alloc (.cells #[.int .u8 i.op, .bool i.right, .int .u8 i.bed, .int .i64 i.at_, .int .i64 i.to_, .int .i64 i.car, .int .i64 i.rack] t2)).alloc o2) w1) :
    w1.cell? ⟨w.heap.size, 0, none⟩ = some (.pointer (some ⟨pb, 0, none⟩)) ∧ InsAt w1 (w.heap.size + 1) 0 i ∧ Below w.heap.size w w1 := by
  have h2 : Below (w.heap.size + 2) ((w.alloc (.cells #[.pointer (some ⟨pb, 0, none⟩)] t)).alloc (.cells #[.int .u8 i.op, .bool i.right, .int .u8 i.bed, .int .i64 i.at_, .int .i64 i.to_, .int .i64 i.car, .int .i64 i.rack] t2)) w1 :=
    ((Below.refl _ _).alloc (by simp) _).trans (hb.mono (by simp))
  refine ⟨?_, ?_, ?_⟩
  · exact (bcell h2 (by omega) _).trans ((bcell (B := w.heap.size + 1) ((Below.refl _ _).alloc (by simp) _) (by omega) _).trans (cell_of_new _ _ _ rfl rfl))
  · refine InsAt.below (B := w.heap.size + 2) ?_ h2 (by omega)
    exact ⟨cell_of_new _ _ _ (by simp) rfl, cell_of_new _ _ _ (by simp) rfl, cell_of_new _ _ _ (by simp) rfl, cell_of_new _ _ _ (by simp) rfl, cell_of_new _ _ _ (by simp) rfl, cell_of_new _ _ _ (by simp) rfl, cell_of_new _ _ _ (by simp) rfl⟩
  · exact (((Below.refl _ _).alloc (Nat.le_refl _) _).alloc (by simp) _).trans (h2.mono (by omega))

set_option maxHeartbeats 1000000 in
theorem grow_same (i a l : Ins) (hi : i.fit) (rack : Int) (pb mb n B : Nat) (U : List Hook) (w : World) (hP : PassAt w pb mb n a l rack U) (hB : B ≤ pb) (hB2 : B ≤ mb) (hn : n ≤ 100000) (he : a.op = i.op) (h79 : i.op = 7 ∨ i.op = 9) :
    Calls Tryz.prog 73 #[.pointer (some ⟨pb, 0, none⟩), i.val] w fun e w' => GrowPostO rack a i pb mb n U B w e w' := by
  have hya : decide (3 ≤ i.op ∧ i.op ≤ 6) = false := decide_eq_false (by omega)
  have hy1 := yarnP_any i.op
  rw [hya] at hy1
  have HY1 := Lib.hid hy1
  have hpl := cell_lt hP.rack
  have hml := hP.set_.lt
  have HN := Lib.hid (needles_any i hi)
  have hUse := Lib.hid (fun w hp hs => use_any i hi pb mb n U w hp hs (by unfold maxLen; omega))
  have hcont := Lib.hid (fun w1 A c (hs : SlH w1 w1.heap.size A (hooks i)) hb hp hset => usedH_any w.heap.size pb mb n U (hooks i) (hooks_ok hi) (hooks_len i) A c w1 hs hb hp hset)
  obtain ⟨f0, f1, f2, f3, f4, f5, f6⟩ := hP.first
  have hk := hP.rack
  have hA2 : ∀ o1 o2 k, ((w.alloc o1).alloc o2).cell? ⟨pb, k, none⟩ = w.cell? ⟨pb, k, none⟩ := fun o1 o2 k => bcell (((Below.refl _ w).alloc (Nat.le_refl _) o1).alloc (by simp) o2) hpl k
  simp only [Nat.zero_add] at f1 f2 f3 f4 f5 f6
  rw [he] at f0
  have hx : Hid (∀ b, ((hooks i).any fun u => decide (u ∈ U)) = b → condO a i U = !b) := fun b hb => by
    unfold condO; rw [hb, decide_eq_true (⟨he, by omega⟩ : a.op = i.op ∧ (a.op = 7 ∨ a.op = 9))]; rfl
  have HP := Lib.hid hP
  have h79b : (i.op == 7) = true ∨ ((i.op == 7) = false ∧ (i.op == 9) = true) := by rcases h79 with e | e <;> rw [e] <;> simp
  clear h79 he
  generalize hq : ((hooks i).any fun u => decide (u ∈ U)) = q at hcont
  have HX := Lib.hid (hx.out q hq)
  have hBs : Hid (B ≤ w.heap.size ∧ B ≤ pb) := ⟨by omega, hB⟩
  have hne := hP.set_.ne hP.rack
  clear hy1 hya hi hP hx hq hB
  cases q with
  | true =>
    rcases h79b with g7 | ⟨g7, g9⟩
    all_goals
      go_enter Tryz.func73, Tryz.ntmps73
      go_wp2_with (first
        | (go_at_call 100; refine (HY1.out _).mono ?_; rintro e w' ⟨rfl, rfl⟩)
        | (go_at_call 103; refine (HN.out _).mono ?_; rintro e w1 ⟨A, c, rfl, hs, hb1⟩)
        | (go_at_call 102; refine (hcont.out w1 A c hs (boxes hb1).1 (HP.out.below (boxes hb1).2.2 hpl hml).used (HP.out.below (boxes hb1).2.2 hpl hml).set_).mono ?_; rintro e w2 ⟨rfl, hb2⟩))
      go_ret
      exact GrowPostO.no HX.out (((boxes hb1).2.2.trans (hb2.mono (boxes hb1).2.2.size)).mono hBs.out.1)
  | false =>
    rcases h79b with g7 | ⟨g7, g9⟩
    all_goals
      go_enter Tryz.func73, Tryz.ntmps73
      go_wp2_with (first
        | (go_at_call 100; refine (HY1.out _).mono ?_; rintro e w' ⟨rfl, rfl⟩)
        | (go_at_call 103; refine (HN.out _).mono ?_; rintro e w1 ⟨A, c, rfl, hs, hb1⟩)
        | (go_at_call 102; refine (hcont.out w1 A c hs (boxes hb1).1 (HP.out.below (boxes hb1).2.2 hpl hml).used (HP.out.below (boxes hb1).2.2 hpl hml).set_).mono ?_; rintro e w2 ⟨rfl, hb2⟩
           have hbx := (bcell hb2 (cell_lt (boxes hb1).1) _).trans (boxes hb1).1
           have hP2 := Lib.hid (HP.out.below ((boxes hb1).2.2.trans (hb2.mono (boxes hb1).2.2.size)) hpl hml)
           have hi2 := Lib.hid ((boxes hb1).2.1.below hb2 (cell_lt (boxes hb1).2.1.1))
           obtain ⟨s0, s1, s2, s3, s4, s5, s6⟩ := hi2.out)
        | (go_at_call 99; refine (hUse.out w2 hP2.out.used hP2.out.set_).mono ?_; rintro e w3 ⟨rfl, hs3, hg3⟩
           have hP3 := Lib.hid (hP2.out.grown hg3 hs3)
           have hbx3 := grown_cell hg3 (hP2.out.set_.ne hbx) hbx
           have hi3 := Lib.hid (grown_ins hg3 (hP2.out.set_.ne s0) hi2.out)
           obtain ⟨z0, z1, z2, z3, z4, z5, z6⟩ := hi3.out
           have fr := hP3.out.thawed
           obtain ⟨l0, l1, l2, l3, l4, l5, l6⟩ := hP3.out.last
           simp only [Nat.reduceAdd] at l1 l2 l3 l4 l5 l6))
      go_ret
      refine GrowPostO.yes (W := w3) HX.out ?_ hBs.out.2 (hP3.out.store rfl rfl rfl rfl rfl rfl rfl) ?_
      · refine Below.grown (row := some mb) (((boxes hb1).2.2.trans (hb2.mono (boxes hb1).2.2.size)).mono hBs.out.1) hg3 ?_ (fun k e => by cases e; exact hB2)
        exact Nat.le_trans hBs.out.1 (Nat.le_trans (boxes hb1).2.2.size hb2.size)
      · exact Nat.le_trans hBs.out.1 (Nat.le_trans (boxes hb1).2.2.size (Nat.le_trans hb2.size hg3.size))

theorem condO_not {a i : Ins} (U : List Hook) (h : ¬ (a.op = i.op ∧ (a.op = 7 ∨ a.op = 9))) : condO a i U = false := by unfold condO; rw [decide_eq_false h]; rfl
set_option maxHeartbeats 1000000 in
theorem grow_none (i a l : Ins) (rack : Int) (pb mb n : Nat) (U : List Hook) (w : World) (hP : PassAt w pb mb n a l rack U) (hy : (yarnB a && yarnB i) = false) (h79 : ¬ (a.op = i.op ∧ (a.op = 7 ∨ a.op = 9))) :
    Calls Tryz.prog 73 #[.pointer (some ⟨pb, 0, none⟩), i.val] w fun e w' => GrowPostO rack a i pb mb n U w.heap.size w e w' := by
  have hpl := cell_lt hP.rack
  have HX := Lib.hid (condO_not U h79)
  have hy1 := yarnP_any a.op
  have hy2 := yarnP_any i.op
  obtain ⟨f0, f1, f2, f3, f4, f5, f6⟩ := hP.first
  have hA2 : ∀ o1 o2 k, ((w.alloc o1).alloc o2).cell? ⟨pb, k, none⟩ = w.cell? ⟨pb, k, none⟩ := fun o1 o2 k => bcell (((Below.refl _ w).alloc (Nat.le_refl _) o1).alloc (by simp) o2) hpl k
  simp only [Nat.zero_add] at f1 f2 f3 f4 f5 f6
  have hb3 : Hid (∀ o1 o2 o3, Below w.heap.size w (((w.alloc o1).alloc o2).alloc o3)) := fun o1 o2 o3 => (((Below.refl _ w).alloc (Nat.le_refl _) o1).alloc (by simp) o2).alloc (by simp; omega) o3
  have H79 := Lib.hid h79
  unfold yarnB at hy
  clear hP h79
  cases hya : decide (3 ≤ a.op ∧ a.op ≤ 6) <;> cases hyi : decide (3 ≤ i.op ∧ i.op ≤ 6)
  case true.true => rw [hya, hyi] at hy; cases hy
  all_goals
    rw [hya] at hy1
    rw [hyi] at hy2
    have HY1 := Lib.hid hy1
    have HY2 := Lib.hid hy2
    clear hy hya hyi hy1 hy2
    go_enter Tryz.func73, Tryz.ntmps73
    go_wp2_with (first
      | (go_at_call_of 100 (Value.int .u8 a.op); refine (HY1.out _).mono ?_; rintro e w' ⟨rfl, rfl⟩)
      | (go_at_call_of 100 (Value.int .u8 i.op); refine (HY2.out _).mono ?_; rintro e w' ⟨rfl, rfl⟩))
    all_goals first
      | (go_ret; exact GrowPostO.no HX.out (hb3.out _ _ _))
      | exact (H79.out ⟨by omega, by omega⟩).elim
      | (exfalso; have h := H79.out; simp_all; done)
      | skip
end Go.Proofs.YtbnddpknejgmhaaGreat
namespace Go.Proofs.YtbnddpknejgmhaaGreat
open Go.RowKit
set_option maxRecDepth 100000

/-- The instruction that has the named fields alone. -/
def Ins.named (i : Ins) : Ins :=
  if i.op = 1 ∨ i.op = 2 then ⟨i.op, false, 0, 0, 0, i.car, 0⟩
  else if i.op = 3 ∨ i.op = 4 ∨ i.op = 5 then ⟨i.op, i.right, i.bed, i.at_, 0, i.car, 0⟩
  else if i.op = 6 then ⟨i.op, i.right, i.bed, i.at_, i.to_, i.car, 0⟩
  else if i.op = 7 then ⟨i.op, false, i.bed, i.at_, i.to_, 0, 0⟩
  else if i.op = 8 then ⟨i.op, false, 0, 0, 0, 0, i.rack⟩
  else ⟨i.op, false, i.bed, i.at_, 0, 0, 0⟩
set_option maxHeartbeats 1000000 in
theorem Ins.good_iff2 (i : Ins) : i.good ↔ (1 ≤ i.op ∧ i.op ≤ 9) ∧ i.okP ∧ i.named = i ∧ i.bed ≤ 1 ∧ needleP i.at_ ∧ needleP i.to_ := by
  obtain ⟨op, right, bed, at_, to_, car, rack⟩ := i
  unfold Ins.good Ins.okP Ins.named carP needleP
  dsimp only
  by_cases e1 : op = 1
  · subst e1; cases right <;> simp <;> (constructor <;> intro h <;> (repeat' apply And.intro) <;> omega)
  by_cases e2 : op = 2
  · subst e2; cases right <;> simp <;> (constructor <;> intro h <;> (repeat' apply And.intro) <;> omega)
  by_cases e3 : op = 3
  · subst e3; cases right <;> simp <;> (constructor <;> intro h <;> (repeat' apply And.intro) <;> omega)
  by_cases e4 : op = 4
  · subst e4; cases right <;> simp <;> (constructor <;> intro h <;> (repeat' apply And.intro) <;> omega)
  by_cases e5 : op = 5
  · subst e5; cases right <;> simp <;> (constructor <;> intro h <;> (repeat' apply And.intro) <;> omega)
  by_cases e6 : op = 6
  · subst e6; cases right <;> simp <;> (constructor <;> intro h <;> (repeat' apply And.intro) <;> omega)
  by_cases e7 : op = 7
  · subst e7; cases right <;> simp <;> (constructor <;> intro h <;> (repeat' apply And.intro) <;> omega)
  by_cases e8 : op = 8
  · subst e8; cases right <;> simp <;> (constructor <;> intro h <;> (repeat' apply And.intro) <;> omega)
  by_cases e9 : op = 9
  · subst e9; cases right <;> simp <;> (constructor <;> intro h <;> (repeat' apply And.intro) <;> omega)
  simp only [e1, e2, e3, e4, e5, e6, e7, e8, e9, false_and, or_false, false_iff]
  omega

end Go.Proofs.YtbnddpknejgmhaaGreat
