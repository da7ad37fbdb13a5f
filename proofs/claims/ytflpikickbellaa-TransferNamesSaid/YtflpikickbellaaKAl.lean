/- Layer 32: the chapter's examples hold: alive. -/
import Derived.Test.YtflpikickbellaaKAl1
import Derived.Test.YtflpikickbellaaKOf
namespace Go.Proofs.Ytflpikickbellaa
open Go.RowKit Go.Shelf Go.Sort
set_option maxRecDepth 100000

abbrev alS3 : Sft := ⟨[0, 0], [(0, 1)]⟩
abbrev alS4 : Sft := ⟨[0, 0], [(1, 0)]⟩
abbrev alI : List Ins := [xferF 1, rackI (-1), xferB 1 0, rackI 0]
theorem al_wf (k : Int) (h : 0 ≤ k) (h2 : k ≤ 255) : ∀ s ∈ alC k, s.wf := by
  intro s hs
  simp [alC] at hs
  rcases hs with rfl | rfl
  · exact ⟨h, h2⟩
  · unfold Stc.wf; decide
structure Al (w : World) (pb : Nat) (A F : Option Addr) (c fc : Nat) (s : Sft) (W : World) : Prop where
  lo : Below w.heap.size w W
  bx : SfBx pb A F c fc s W
theorem Al.to {w W W' : World} {pb : Nat} {A F : Option Addr} {c fc : Nat} {s : Sft} (h : Al w pb A F c fc s W) (hb : Below W.heap.size W W') : Al w pb A F c fc s W' := ⟨h.lo.trans (hb.mono h.lo.size), h.bx.to hb⟩
theorem al_ofc (k : Int) (h : 0 ≤ k) (h2 : k ≤ 255) (s : Sft) (h3 : s.to_.length = 2) (h4 : s.first.length = 1) (ho : ofE (alC k) = (s, 0)) (A : Option Addr) (W : World) (hs : SlT W W.heap.size A (alC k)) :
    Calls Try.prog 21 #[.slice A 2 2] W fun e w' => ∃ At ct Af cf, e = .returned (.tuple #[.agg #[.slice At 2 ct, .slice Af 1 cf], .int .i64 0]) ∧ SfAt At Af s w' ∧ Below W.heap.size W w' := by
  have hc := pof_any A 2 (alC k) (al_wf k h h2) W hs
  rw [ho] at hc
  refine hc.mono fun e w' hp => ?_
  obtain ⟨At, ct, Af, cf, rfl, p1, p2, p3⟩ := hp
  refine ⟨At, ct, Af, cf, ?_, ⟨p1, p2⟩, p3⟩
  show Ending.returned (.tuple #[.agg #[.slice At s.to_.length ct, .slice Af s.first.length cf], .int .i64 0]) = _
  rw [h3, h4]
set_option maxHeartbeats 16000000 in
theorem alive32_any (w : World) : Calls Try.prog 26 #[] w fun e w' => e = .returned (.bool true) ∧ Below w.heap.size w w' := by
  have HC := Lib.hid (fun k W => cells32_any k W)
  have HO3 := Lib.hid (al_ofc 3 (by decide) (by decide) alS3 rfl rfl al_of3)
  have HO4 := Lib.hid (al_ofc 4 (by decide) (by decide) alS4 rfl rfl al_of4)
  have HPl : Hid (∀ A F c fc W, SfAt A F alS3 W → Calls Try.prog 11 #[.agg #[.slice A 2 c, .slice F 1 fc]] W fun e w' => ∃ a k, e = .returned (.tuple #[.slice a 4 k, .int .i64 0]) ∧ SlX w' w'.heap.size a alI ∧ Below W.heap.size W w') := fun A F c fc W h => by
    have := pplan_any A F c fc alS3 (by decide) (by decide) W h
    rw [al_plan] at this
    exact this
  have HOr : Hid (∀ A F c fc W, SfAt A F alS4 W → Calls Try.prog 9 #[.agg #[.slice A 2 c, .slice F 1 fc]] W fun e w' => ∃ a k, e = .returned (.tuple #[.slice a 2 k, .int .i64 0]) ∧ SlI w' w'.heap.size a [1, 0] ∧ Below W.heap.size W w') := fun A F c fc W h => by
    have := porder_any A F c fc alS4 (by decide) (by decide) W h
    rw [al_ord] at this
    exact this
  go_enter Try.func26, Try.ntmps26
  go_upto_region 2 with (first
    | (go_at_call 60; refine (HC.out 3 _).mono ?_; rintro e w1 ⟨C1, rfl, hs1, hb1⟩)
    | (go_at_call 21; refine (HO3.out C1 _ hs1).mono ?_; rintro e w2 ⟨A, c, F, fc, rfl, ha2, hb2⟩))
  have hb12 := hb1.trans (hb2.mono hb1.size)
  have HAl : Hid (Al w w2.heap.size A F c fc alS3 (w2.alloc (sftB A F c fc alS3))) := ⟨hb12.trans ((al_t _ _).mono hb12.size), SfBx.new c fc ha2⟩
  refine abs_world (Q := fun W => Code.wp _ _ _ _ W) (F := Al w w2.heap.size A F c fc alS3) _ HAl.out ?_
  obtain ⟨pb, hpb⟩ : ∃ pb, pb = w2.heap.size := ⟨_, rfl⟩
  rw [← hpb]
  clear HAl hs1 ha2 hb1 hb2 hb12 hpb
  intro W2 hA2
  obtain ⟨y0, y1⟩ : W2.cell? ⟨pb, 0, none⟩ = some (.slice A 2 c) ∧ W2.cell? ⟨pb, 1, none⟩ = some (.slice F 1 fc) := And.intro hA2.bx.c0 hA2.bx.c1
  have HA2 := Lib.hid hA2
  clear hA2
  go_upto_region 3 with ((go_at_call 11; refine (HPl.out A F c fc _ HA2.out.bx.at_).mono ?_; rintro e w3 ⟨Ap, cp, rfl, hp3, hb3⟩))
  refine abs_world (Q := fun W => Code.wp _ _ _ _ W) (F := fun W => Al w pb A F c fc alS3 W ∧ SlX W W.heap.size Ap alI) _ ⟨HA2.out.to hb3, hp3⟩ ?_
  clear HA2 hb3 hp3 y0 y1
  rintro W3 ⟨hA3, hp3⟩
  have HA3 := Lib.hid hA3
  have HP3 := Lib.hid hp3
  clear hA3 hp3
  go_upto_region 4 with (first
    | (go_at_call 60; refine (HC.out 4 _).mono ?_; rintro e w4 ⟨C4, rfl, hs4, hb4⟩)
    | (go_at_call 21; refine (HO4.out C4 _ hs4).mono ?_; rintro e w5 ⟨A', c', F', fc', rfl, ha5, hb5⟩))
  have hb45 := hb4.trans (hb5.mono hb4.size)
  have hb46 := hb45.trans ((al_t w5 (sftB A' F' c' fc' alS4)).mono hb45.size)
  have HX : Hid (Al w pb A F c fc alS3 (w5.alloc (sftB A' F' c' fc' alS4)) ∧ SlX (w5.alloc (sftB A' F' c' fc' alS4)) (w5.alloc (sftB A' F' c' fc' alS4)).heap.size Ap alI ∧ SfBx w5.heap.size A' F' c' fc' alS4 (w5.alloc (sftB A' F' c' fc' alS4))) :=
    ⟨HA3.out.to hb46, (HP3.out.below hb46).more hb46.size, SfBx.new c' fc' ha5⟩
  obtain ⟨qb, hqb⟩ : ∃ qb, qb = w5.heap.size := ⟨_, rfl⟩
  refine abs_world (Q := fun W => Code.wp _ _ _ _ W) (F := fun W => Al w pb A F c fc alS3 W ∧ SlX W W.heap.size Ap alI ∧ SfBx w5.heap.size A' F' c' fc' alS4 W) _ HX.out ?_
  rw [← hqb]
  clear HX hqb hb46 hb45 hb5 hb4 ha5 hs4 HA3 HP3
  rintro W5 ⟨hA5, hp5, hx5⟩
  obtain ⟨y0, y1⟩ : W5.cell? ⟨qb, 0, none⟩ = some (.slice A' 2 c') ∧ W5.cell? ⟨qb, 1, none⟩ = some (.slice F' 1 fc') := And.intro hx5.c0 hx5.c1
  have HA5 := Lib.hid hA5
  have HP5 := Lib.hid hp5
  have HX5 := Lib.hid hx5
  clear hA5 hp5 hx5
  go_upto_region 5 with ((go_at_call 9; refine (HOr.out A' F' c' fc' _ HX5.out.at_).mono ?_; rintro e w6 ⟨Ao, co, rfl, ho6, hb6⟩))
  refine abs_world (Q := fun W => Code.wp _ _ _ _ W) (F := fun W => Al w pb A F c fc alS3 W ∧ SlX W W.heap.size Ap alI ∧ SlI W W.heap.size Ao [1, 0]) _ ⟨HA5.out.to hb6, (HP5.out.below hb6).more hb6.size, ho6⟩ ?_
  clear HA5 HP5 HX5 ho6 hb6 y0 y1
  rintro W6 ⟨hA6, hp6, ho6⟩
  obtain ⟨o, ho⟩ : ∃ o, o = Obj.cells ((alI.map Ins.cells).flatten.toArray) 61 := ⟨_, rfl⟩
  have hbo := al_t W6 o
  have HX : Hid (Al w pb A F c fc alS3 (W6.alloc o) ∧ SlX (W6.alloc o) (W6.alloc o).heap.size Ap alI ∧ SlI (W6.alloc o) (W6.alloc o).heap.size Ao [1, 0] ∧ SlX (W6.alloc o) (W6.alloc o).heap.size (some ⟨W6.heap.size, 0, none⟩) alI) :=
    ⟨hA6.to hbo, (hp6.below hbo).more hbo.size, (ho6.below hbo).more hbo.size, sls_lit _ (by intro z hz; simp at hz; rcases hz with rfl | rfl | rfl | rfl <;> rfl) (by rw [ho]) rfl⟩
  rw [ho] at HX
  clear hA6 hp6 ho6 hbo ho
  go_upto_region 6 with fail
  obtain ⟨lb, hlb⟩ : ∃ lb, lb = W6.heap.size := ⟨_, rfl⟩
  refine abs_world (Q := fun W => Code.wp _ _ _ _ W) (F := fun W => Al w pb A F c fc alS3 W ∧ SlX W W.heap.size Ap alI ∧ SlI W W.heap.size Ao [1, 0] ∧ SlX W W.heap.size (some ⟨W6.heap.size, 0, none⟩) alI) _ HX.out ?_
  rw [← hlb]
  clear HX hlb
  rintro W ⟨hA, hp, ho, hl⟩
  obtain ⟨y0, y1⟩ : W.cell? ⟨pb, 0, none⟩ = some (.slice A 2 c) ∧ W.cell? ⟨pb, 1, none⟩ = some (.slice F 1 fc) := And.intro hA.bx.c0 hA.bx.c1
  have HA := Lib.hid hA
  have HP := Lib.hid hp
  have HO := Lib.hid ho
  have HL := Lib.hid hl
  have HY1 := Lib.hid (fun W' (h : Below W.heap.size W W') => (bcell h (lt_of_cell y1) _).trans y1)
  clear hA hp ho hl
  have sI : ∀ (l : List Int) (A : Option Addr) (c : Nat) (V : World) (t : TypeId), l.length ≤ 4 → Below W.heap.size W V → SlI V V.heap.size A l → Calls Try.prog 17 #[.slice A l.length c, .slice (some ⟨V.heap.size, 0, none⟩) l.length l.length] (V.alloc (.cells (intV l).toArray t)) fun e w' => e = .returned (.bool true) ∧ Below W.heap.size W w' := fun l A c V t hl hb h =>
    (sameI_any A (some ⟨V.heap.size, 0, none⟩) c l.length l _ ((h.below (al_t _ _)).more (al_t _ _).size) (sl_lit l rfl rfl) (by omega)).mono fun e w' ⟨h1, m, h2⟩ => ⟨h1, by rw [h2]; exact below_drewT (hb.trans ((al_t _ _).mono hb.size)) _⟩
  have HSI := Lib.hid sI
  clear sI
  go_wp2_with (first
    | (go_at_call_of 17 (Value.slice A 2 c); refine (HSI.out [0, 0] A c _ _ (by decide) (Below.refl _ _) HA.out.bx.at_.tz).mono ?_; rintro e w7 ⟨rfl, hb7⟩; have z1 := HY1.out w7 hb7)
    | (go_at_call 59; refine (samePr_any F _ fc 1 [(0, 1)] _ ((HA.out.bx.at_.fr.below (hb7.trans ((al_t _ _).mono hb7.size))).more (hb7.trans ((al_t _ _).mono hb7.size)).size) (sls_lit _ (by intro z hz; simp at hz; rw [hz]; rfl) rfl rfl) (by decide)).mono ?_; rintro e w8 ⟨rfl, m8, hw8⟩; have hb8 : Below W.heap.size W w8 := (by rw [hw8]; exact below_drewT (hb7.trans ((al_t _ _).mono hb7.size)) _); clear hw8)
    | (go_at_call 18; refine (sameInstrs_any Ap (some ⟨lb, 0, none⟩) cp 4 alI w8 ((HP.out.below hb8).more hb8.size) ((HL.out.below hb8).more hb8.size) (by decide)).mono ?_; rintro e w9 ⟨rfl, hb9⟩; have hb89 := hb8.trans (hb9.mono hb8.size))
    | (go_at_call_of 17 (Value.slice Ao 2 co); refine (HSI.out [1, 0] Ao co w9 _ (by decide) hb89 ((HO.out.below hb89).more hb89.size)).mono ?_; rintro e w10 ⟨rfl, hb10⟩))
  go_ret
  exact ⟨rfl, HA.out.lo.trans (hb10.mono HA.out.lo.size)⟩
end Go.Proofs.Ytflpikickbellaa
