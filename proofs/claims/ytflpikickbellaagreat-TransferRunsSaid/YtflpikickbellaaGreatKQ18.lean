/- Layer 32: the chapter's examples: plain; SamePairs; cells. Layer 32: SameInstrs at two slices of one content. Layer 32: the examples' cells, and Same at literals. Layer 32: the chapter's examples hold: alive. -/
import Derived.Test.YtflpikickbellaaGreatKQ16
import Derived.Test.YtflpikickbellaaGreatKQ17
import Derived.Test.YtflpikickbellaaGreatKQ4
import Derived.BigQuiet
import Derived.ChangeKeysEq
namespace Go.Proofs.YtflpikickbellaaGreat
open Go.RowKit Go.Shelf Go.Sort
set_option maxRecDepth 100000

def alC (k : Int) : List Stc := [⟨k, false, 2, 0⟩, ⟨2, false, 0, 0⟩]
theorem al_of (k : Int) (f : Int × Int) (h1 : allE (alC k) = 0) (h2 : (alC k).any kindB = false) (h3 : sumU (alC k) = 2) (h4 : runO (alC k) 2 = ⟨2, [0, 0], [f]⟩) : ofE (alC k) = (⟨[0, 0], [f]⟩, 0) := by
  have e : (alC k).length = 2 := rfl
  have hs : sortP [f] = [f] := by unfold sortP; simp
  have hf : farB [0, 0] = false := by decide
  unfold ofE
  rw [e, h4, if_neg (by rw [h1]; simp), if_neg (by rw [h2]; simp), if_neg (by rw [h3]; omega), hf, hs]
  rfl
theorem al_of3 : ofE (alC 3) = (⟨[0, 0], [(0, 1)]⟩, 0) := al_of 3 (0, 1) (by kernel_rfl) (by kernel_rfl) (by kernel_rfl) (by kernel_rfl)
theorem al_of4 : ofE (alC 4) = (⟨[0, 0], [(1, 0)]⟩, 0) := al_of 4 (1, 0) (by kernel_rfl) (by kernel_rfl) (by kernel_rfl) (by kernel_rfl)
theorem al_plan : plE ⟨[0, 0], [(0, 1)]⟩ = ([xferF 1, rackI (-1), xferB 1 0, rackI 0], 0) := by kernel_rfl
theorem al_ord : ordE ⟨[0, 0], [(1, 0)]⟩ = ([1, 0], 0) := by kernel_rfl
end Go.Proofs.YtflpikickbellaaGreat
namespace Go.Proofs.YtflpikickbellaaGreat
open Go.RowKit Go.Shelf
set_option maxRecDepth 100000

set_option maxHeartbeats 1000000 in
theorem sameInstrs_any (A A' : Option Addr) (c c' : Nat) (l : List Ins) (w : World) (h : SlX w w.heap.size A l) (h' : SlX w w.heap.size A' l) (hn : l.length ≤ 4611686018427387904) :
    Calls Tryz.prog 23 #[.slice A l.length c, .slice A' l.length c'] w fun e w' => e = .returned (.bool true) ∧ Below w.heap.size w w' := by
  have hne : (((l.length : Nat) : Int) == ((l.length : Nat) : Int)) = true := by simp
  go_enter Tryz.func23, Tryz.ntmps23
  go_wp2
  go_loopw [5] (fun i wr => ∃ k : Nat, k ≤ l.length ∧ i = .int .i64 k ∧ Below w.heap.size w wr) (fun i _ => l.length - (intOf i).toNat)
  case atStart => exact ⟨0, Nat.zero_le _, rfl, Below.refl _ _⟩
  case round =>
    obtain ⟨k, hk, rfl, hbw⟩ := hrel
    by_cases hlt : k < l.length
    · obtain ⟨b, off, x, rfl, hB, hz, hc⟩ := h.at_ hlt
      obtain ⟨b', off', x', rfl, hB', hz', hc'⟩ := h'.at_ hlt
      rw [hz] at hz'
      obtain rfl : x = x' := by simpa using hz'
      obtain ⟨c0, c1, c2, c3, c4, c5, c6⟩ := hc.below hbw hB
      obtain ⟨d0, d1, d2, d3, d4, d5, d6⟩ := hc'.below hbw hB'
      have hneq : ∀ W : World, (binOp .neq 63 (.agg #[.int .u8 x.op, .bool x.right, .int .u8 x.bed, .int .i64 x.at_, .int .i64 x.to_, .int .i64 x.car, .int .i64 x.rack]) (.agg #[.int .u8 x.op, .bool x.right, .int .u8 x.bed, .int .i64 x.at_, .int .i64 x.to_, .int .i64 x.car, .int .i64 x.rack])).run Tryz.prog W = .ok (.bool false) W := fun W => by
        rw [run_neq_ins]; unfold insNe' insNe; simp
      clear hc hc' h h' hz hz'
      go_wp2
      go_quiet (fail)
      go_wp2
      go_roundw
      case rel => exact ⟨k + 1, by omega, by go_num, below_drewT hbw _⟩
      case measure => simp [intOf]; omega
    · clear h h'
      go_wp2
      go_ret
      exact ⟨rfl, hbw⟩
end Go.Proofs.YtflpikickbellaaGreat
namespace Go.Proofs.YtflpikickbellaaGreat
open Go.RowKit Go.Shelf Go.Sort
set_option maxRecDepth 100000

theorem neq_pr (W : World) (a b : Int) : (binOp .neq 48 (.agg #[.int .i64 a, .int .i64 b]) (.agg #[.int .i64 a, .int .i64 b])).run Tryz.prog W = .ok (.bool false) W := by
  obtain ⟨i1, hi', hz0', hz1', hz2'⟩ := info_parts info_int'
  rw [run_neq_struct, show (10000 : Nat) = 9999 + 1 from rfl, run_equalIn_array W 9999 _ _ Tryz.underlying48 hi', show Tryz.prog.cellsOf 3 = 1 by kernel_rfl]
  simp [Op.eqItems, List.range, List.range.loop, part, go_sem]
set_option maxHeartbeats 1000000 in
theorem samePr_any (A A' : Option Addr) (c c' : Nat) (l : List (Int × Int)) (w : World) (h : SlPr w w.heap.size A l) (h' : SlPr w w.heap.size A' l) (hn : l.length ≤ 4611686018427387904) :
    Calls Tryz.prog 22 #[.slice A l.length c, .slice A' l.length c'] w fun e w' => e = .returned (.bool true) ∧ ∃ m, w' = w.drewN m := by
  have hne : (((l.length : Nat) : Int) == ((l.length : Nat) : Int)) = true := by simp
  go_enter Tryz.func22, Tryz.ntmps22
  go_wp2
  go_loopw [5] (fun i wr => ∃ k : Nat, k ≤ l.length ∧ i = .int .i64 k ∧ Hid (∃ m, wr = w.drewN m)) (fun i _ => l.length - (intOf i).toNat)
  case atStart => exact ⟨0, Nat.zero_le _, rfl, 0, rfl⟩
  case round =>
    obtain ⟨k, hk, rfl, HM⟩ := hrel
    have hbw : Below w.heap.size w wr := by obtain ⟨m, rfl⟩ := HM.out; exact below_drewT (Below.refl _ _) m
    by_cases hlt : k < l.length
    · obtain ⟨b, off, z, rfl, hB, hz, q0, q1⟩ := h.at_ hlt
      obtain ⟨b', off', z', rfl, hB', hz', r0, r1⟩ := h'.at_ hlt
      rw [hz] at hz'
      obtain rfl : z = z' := by simpa using hz'
      have h1 := (bcell hbw hB _).trans q0
      have h2 := (bcell hbw hB _).trans q1
      have h3 := (bcell hbw hB' _).trans r0
      have h4 := (bcell hbw hB' _).trans r1
      clear q0 q1 r0 r1 h h' hz hz' hbw
      obtain ⟨z1, z2⟩ := z
      have hN := fun W => neq_pr W z1 z2
      go_wp2
      go_quiet (fail)
      go_wp2
      go_roundw
      case rel => exact ⟨k + 1, by omega, by go_num, by obtain ⟨m, hm⟩ := HM.out; exact ⟨_, by rw [hm, World.drewN_drewN]⟩⟩
      case measure => simp [intOf]; omega
    · clear h h' hbw
      go_wp2
      go_ret
      exact ⟨rfl, HM.out⟩
theorem sl_lit {W W' : World} {cs : Array Value} {t : TypeId} (l : List Int) (e : W' = W.alloc (.cells cs t)) (hc : cs = (intV l).toArray) : SlI W' W'.heap.size (some ⟨W.heap.size, 0, none⟩) l := fun _ => by
  subst hc
  refine ⟨W.heap.size, 0, rfl, by subst e; simp, fun j z hz => ?_⟩
  rw [Nat.zero_add]
  refine cell_new e rfl ?_
  unfold intV
  simp [hz]
theorem sls_lit {W W' : World} {sz : Nat} {cs : Array Value} {t : TypeId} (zs : List (List Value)) (hz : ∀ z ∈ zs, z.length = sz) (e : W' = W.alloc (.cells cs t)) (hc : cs = zs.flatten.toArray) : SlS sz W' W'.heap.size (some ⟨W.heap.size, 0, none⟩) zs := fun _ => by
  subst hc
  refine ⟨W.heap.size, 0, rfl, by subst e; simp, fun j z hj i v hv => ?_⟩
  rw [Nat.zero_add]
  refine cell_new e rfl ?_
  have := flat_at hz hj hv
  simpa using this
set_option maxHeartbeats 2000000 in
theorem cells32_any (k : Int) (w : World) : Calls Tryz.prog 20 #[.int .u8 k] w fun e w' => ∃ A, e = .returned (.slice A 2 2) ∧ SlT w' w'.heap.size A (alC k) ∧ Below w.heap.size w w' := by
  have HB : Hid (Below w.heap.size w (w.alloc (.cells ((alC k).map Stc.cells).flatten.toArray 96))) := al_t _ _
  have HS : Hid (SlT (w.alloc (.cells ((alC k).map Stc.cells).flatten.toArray 96)) (w.alloc (.cells ((alC k).map Stc.cells).flatten.toArray 96)).heap.size (some ⟨w.heap.size, 0, none⟩) (alC k)) := sls_lit _ (by intro z hz; simp [alC, Stc.cells] at hz; rcases hz with rfl | rfl <;> rfl) rfl rfl
  go_enter Tryz.func20, Tryz.ntmps20
  go_wp2
  go_ret
  exact ⟨_, rfl, HS.out, HB.out⟩
end Go.Proofs.YtflpikickbellaaGreat
namespace Go.Proofs.YtflpikickbellaaGreat
open Go.RowKit Go.Shelf Go.Sort
set_option maxRecDepth 100000

abbrev alS3 : Sft := ⟨[0, 0], [(0, 1)]⟩
abbrev alS4 : Sft := ⟨[0, 0], [(1, 0)]⟩
abbrev alI : List Ins := [xferF 1, rackI (-1), xferB 1 0, rackI 0]
theorem al_wf (k : Int) (h : 0 ≤ k) (h2 : k ≤ 255) : ∀ s ∈ alC k, s.wf := by
  intro s hs
  simp [alC] at hs
  rcases hs with rfl | rfl
  · exact ⟨h, h2⟩
  · unfold Stc.wf; decide
structure Al (w : World) (pb : Nat) (A F : Option Addr) (c fc : Nat) (s : Sft) (W : World) : Prop where
  lo : Below w.heap.size w W
  bx : SfBx pb A F c fc s W
theorem Al.to {w W W' : World} {pb : Nat} {A F : Option Addr} {c fc : Nat} {s : Sft} (h : Al w pb A F c fc s W) (hb : Below W.heap.size W W') : Al w pb A F c fc s W' := ⟨h.lo.trans (hb.mono h.lo.size), h.bx.to hb⟩
theorem al_ofc (k : Int) (h : 0 ≤ k) (h2 : k ≤ 255) (s : Sft) (h3 : s.to_.length = 2) (h4 : s.first.length = 1) (ho : ofE (alC k) = (s, 0)) (A : Option Addr) (W : World) (hs : SlT W W.heap.size A (alC k)) :
    Calls Tryz.prog 17 #[.slice A 2 2] W fun e w' => ∃ At ct Af cf, e = .returned (.tuple #[.agg #[.slice At 2 ct, .slice Af 1 cf], .int .i64 0]) ∧ SfAt At Af s w' ∧ Below W.heap.size W w' := by
  have hc := pof_any A 2 (alC k) (al_wf k h h2) W hs
  rw [ho] at hc
  refine hc.mono fun e w' hp => ?_
  obtain ⟨At, ct, Af, cf, rfl, p1, p2, p3⟩ := hp
  refine ⟨At, ct, Af, cf, ?_, ⟨p1, p2⟩, p3⟩
  show Ending.returned (.tuple #[.agg #[.slice At s.to_.length ct, .slice Af s.first.length cf], .int .i64 0]) = _
  rw [h3, h4]
set_option maxHeartbeats 16000000 in
theorem alive32_any (w : World) : Calls Tryz.prog 5 #[] w fun e w' => e = .returned (.bool true) ∧ Below w.heap.size w w' := by
  have HC := Lib.hid (fun k W => cells32_any k W)
  have HO3 := Lib.hid (al_ofc 3 (by decide) (by decide) alS3 rfl rfl al_of3)
  have HO4 := Lib.hid (al_ofc 4 (by decide) (by decide) alS4 rfl rfl al_of4)
  have HPl : Hid (∀ A F c fc W, SfAt A F alS3 W → Calls Tryz.prog 8 #[.agg #[.slice A 2 c, .slice F 1 fc]] W fun e w' => ∃ a k, e = .returned (.tuple #[.slice a 4 k, .int .i64 0]) ∧ SlX w' w'.heap.size a alI ∧ Below W.heap.size W w') := fun A F c fc W h => by
    have := pplan_any A F c fc alS3 (by decide) (by decide) W h
    rw [al_plan] at this
    exact this
  have HOr : Hid (∀ A F c fc W, SfAt A F alS4 W → Calls Tryz.prog 21 #[.agg #[.slice A 2 c, .slice F 1 fc]] W fun e w' => ∃ a k, e = .returned (.tuple #[.slice a 2 k, .int .i64 0]) ∧ SlI w' w'.heap.size a [1, 0] ∧ Below W.heap.size W w') := fun A F c fc W h => by
    have := porder_any A F c fc alS4 (by decide) (by decide) W h
    rw [al_ord] at this
    exact this
  go_enter Tryz.func5, Tryz.ntmps5
  go_upto_region 2 with (first
    | (go_at_call 20; refine (HC.out 3 _).mono ?_; rintro e w1 ⟨C1, rfl, hs1, hb1⟩)
    | (go_at_call 17; refine (HO3.out C1 _ hs1).mono ?_; rintro e w2 ⟨A, c, F, fc, rfl, ha2, hb2⟩))
  have hb12 := hb1.trans (hb2.mono hb1.size)
  have HAl : Hid (Al w w2.heap.size A F c fc alS3 (w2.alloc (sftB A F c fc alS3))) := ⟨hb12.trans ((al_t _ _).mono hb12.size), SfBx.new c fc ha2⟩
  refine abs_world (Q := fun W => Code.wp _ _ _ _ W) (F := Al w w2.heap.size A F c fc alS3) _ HAl.out ?_
  obtain ⟨pb, hpb⟩ : ∃ pb, pb = w2.heap.size := ⟨_, rfl⟩
  rw [← hpb]
  clear HAl hs1 ha2 hb1 hb2 hb12 hpb
  intro W2 hA2
  obtain ⟨y0, y1⟩ : W2.cell? ⟨pb, 0, none⟩ = some (.slice A 2 c) ∧ W2.cell? ⟨pb, 1, none⟩ = some (.slice F 1 fc) := And.intro hA2.bx.c0 hA2.bx.c1
  have HA2 := Lib.hid hA2
  clear hA2
  go_upto_region 3 with ((go_at_call 8; refine (HPl.out A F c fc _ HA2.out.bx.at_).mono ?_; rintro e w3 ⟨Ap, cp, rfl, hp3, hb3⟩))
  refine abs_world (Q := fun W => Code.wp _ _ _ _ W) (F := fun W => Al w pb A F c fc alS3 W ∧ SlX W W.heap.size Ap alI) _ ⟨HA2.out.to hb3, hp3⟩ ?_
  clear HA2 hb3 hp3 y0 y1
  rintro W3 ⟨hA3, hp3⟩
  have HA3 := Lib.hid hA3
  have HP3 := Lib.hid hp3
  clear hA3 hp3
  go_upto_region 4 with (first
    | (go_at_call 20; refine (HC.out 4 _).mono ?_; rintro e w4 ⟨C4, rfl, hs4, hb4⟩)
    | (go_at_call 17; refine (HO4.out C4 _ hs4).mono ?_; rintro e w5 ⟨A', c', F', fc', rfl, ha5, hb5⟩))
  have hb45 := hb4.trans (hb5.mono hb4.size)
  have hb46 := hb45.trans ((al_t w5 (sftB A' F' c' fc' alS4)).mono hb45.size)
  have HX : Hid (Al w pb A F c fc alS3 (w5.alloc (sftB A' F' c' fc' alS4)) ∧ SlX (w5.alloc (sftB A' F' c' fc' alS4)) (w5.alloc (sftB A' F' c' fc' alS4)).heap.size Ap alI ∧ SfBx w5.heap.size A' F' c' fc' alS4 (w5.alloc (sftB A' F' c' fc' alS4))) :=
    ⟨HA3.out.to hb46, (HP3.out.below hb46).more hb46.size, SfBx.new c' fc' ha5⟩
  obtain ⟨qb, hqb⟩ : ∃ qb, qb = w5.heap.size := ⟨_, rfl⟩
  refine abs_world (Q := fun W => Code.wp _ _ _ _ W) (F := fun W => Al w pb A F c fc alS3 W ∧ SlX W W.heap.size Ap alI ∧ SfBx w5.heap.size A' F' c' fc' alS4 W) _ HX.out ?_
  rw [← hqb]
  clear HX hqb hb46 hb45 hb5 hb4 ha5 hs4 HA3 HP3
  rintro W5 ⟨hA5, hp5, hx5⟩
  obtain ⟨y0, y1⟩ : W5.cell? ⟨qb, 0, none⟩ = some (.slice A' 2 c') ∧ W5.cell? ⟨qb, 1, none⟩ = some (.slice F' 1 fc') := And.intro hx5.c0 hx5.c1
  have HA5 := Lib.hid hA5
  have HP5 := Lib.hid hp5
  have HX5 := Lib.hid hx5
  clear hA5 hp5 hx5
  go_upto_region 5 with ((go_at_call 21; refine (HOr.out A' F' c' fc' _ HX5.out.at_).mono ?_; rintro e w6 ⟨Ao, co, rfl, ho6, hb6⟩))
  refine abs_world (Q := fun W => Code.wp _ _ _ _ W) (F := fun W => Al w pb A F c fc alS3 W ∧ SlX W W.heap.size Ap alI ∧ SlI W W.heap.size Ao [1, 0]) _ ⟨HA5.out.to hb6, (HP5.out.below hb6).more hb6.size, ho6⟩ ?_
  clear HA5 HP5 HX5 ho6 hb6 y0 y1
  rintro W6 ⟨hA6, hp6, ho6⟩
  obtain ⟨o, ho⟩ : ∃ o, o = Obj.cells ((alI.map Ins.cells).flatten.toArray) 63 := ⟨_, rfl⟩
  have hbo := al_t W6 o
  have HX : Hid (Al w pb A F c fc alS3 (W6.alloc o) ∧ SlX (W6.alloc o) (W6.alloc o).heap.size Ap alI ∧ SlI (W6.alloc o) (W6.alloc o).heap.size Ao [1, 0] ∧ SlX (W6.alloc o) (W6.alloc o).heap.size (some ⟨W6.heap.size, 0, none⟩) alI) :=
    ⟨hA6.to hbo, (hp6.below hbo).more hbo.size, (ho6.below hbo).more hbo.size, sls_lit _ (by intro z hz; simp at hz; rcases hz with rfl | rfl | rfl | rfl <;> rfl) (by rw [ho]) rfl⟩
  rw [ho] at HX
  clear hA6 hp6 ho6 hbo ho
  go_upto_region 6 with fail
  obtain ⟨lb, hlb⟩ : ∃ lb, lb = W6.heap.size := ⟨_, rfl⟩
  refine abs_world (Q := fun W => Code.wp _ _ _ _ W) (F := fun W => Al w pb A F c fc alS3 W ∧ SlX W W.heap.size Ap alI ∧ SlI W W.heap.size Ao [1, 0] ∧ SlX W W.heap.size (some ⟨W6.heap.size, 0, none⟩) alI) _ HX.out ?_
  rw [← hlb]
  clear HX hlb
  rintro W ⟨hA, hp, ho, hl⟩
  obtain ⟨y0, y1⟩ : W.cell? ⟨pb, 0, none⟩ = some (.slice A 2 c) ∧ W.cell? ⟨pb, 1, none⟩ = some (.slice F 1 fc) := And.intro hA.bx.c0 hA.bx.c1
  have HA := Lib.hid hA
  have HP := Lib.hid hp
  have HO := Lib.hid ho
  have HL := Lib.hid hl
  have HY1 := Lib.hid (fun W' (h : Below W.heap.size W W') => (bcell h (lt_of_cell y1) _).trans y1)
  clear hA hp ho hl
  have sI : ∀ (l : List Int) (A : Option Addr) (c : Nat) (V : World) (t : TypeId), l.length ≤ 4 → Below W.heap.size W V → SlI V V.heap.size A l → Calls Tryz.prog 19 #[.slice A l.length c, .slice (some ⟨V.heap.size, 0, none⟩) l.length l.length] (V.alloc (.cells (intV l).toArray t)) fun e w' => e = .returned (.bool true) ∧ Below W.heap.size W w' := fun l A c V t hl hb h =>
    (sameI_any A (some ⟨V.heap.size, 0, none⟩) c l.length l _ ((h.below (al_t _ _)).more (al_t _ _).size) (sl_lit l rfl rfl) (by omega)).mono fun e w' ⟨h1, m, h2⟩ => ⟨h1, by rw [h2]; exact below_drewT (hb.trans ((al_t _ _).mono hb.size)) _⟩
  have HSI := Lib.hid sI
  clear sI
  go_wp2_with (first
    | (go_at_call_of 19 (Value.slice A 2 c); refine (HSI.out [0, 0] A c _ _ (by decide) (Below.refl _ _) HA.out.bx.at_.tz).mono ?_; rintro e w7 ⟨rfl, hb7⟩; have z1 := HY1.out w7 hb7)
    | (go_at_call 22; refine (samePr_any F _ fc 1 [(0, 1)] _ ((HA.out.bx.at_.fr.below (hb7.trans ((al_t _ _).mono hb7.size))).more (hb7.trans ((al_t _ _).mono hb7.size)).size) (sls_lit _ (by intro z hz; simp at hz; rw [hz]; rfl) rfl rfl) (by decide)).mono ?_; rintro e w8 ⟨rfl, m8, hw8⟩; have hb8 : Below W.heap.size W w8 := (by rw [hw8]; exact below_drewT (hb7.trans ((al_t _ _).mono hb7.size)) _); clear hw8)
    | (go_at_call 23; refine (sameInstrs_any Ap (some ⟨lb, 0, none⟩) cp 4 alI w8 ((HP.out.below hb8).more hb8.size) ((HL.out.below hb8).more hb8.size) (by decide)).mono ?_; rintro e w9 ⟨rfl, hb9⟩; have hb89 := hb8.trans (hb9.mono hb8.size))
    | (go_at_call_of 19 (Value.slice Ao 2 co); refine (HSI.out [1, 0] Ao co w9 _ (by decide) hb89 ((HO.out.below hb89).more hb89.size)).mono ?_; rintro e w10 ⟨rfl, hb10⟩))
  go_ret
  exact ⟨rfl, HA.out.lo.trans (hb10.mono HA.out.lo.size)⟩
end Go.Proofs.YtflpikickbellaaGreat
