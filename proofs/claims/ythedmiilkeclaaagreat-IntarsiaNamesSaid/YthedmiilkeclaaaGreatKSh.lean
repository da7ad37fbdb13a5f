/- Layer 34, contracts: Show. -/
import Derived.Test.YthedmiilkeclaaaGreatKRi
import Derived.Test.YthedmiilkeclaaaGreatKLook
import Derived.Test.YthedmiilkeclaaaGreatKRg
import Derived.RegionTactic
import Derived.Deep.RegionLaw
namespace Go.Proofs.YthedmiilkeclaaaGreat
open Go.RowKit Go.Shelf Go.Sort
open Go.Proofs.YthedmiilkeclaaaGreat.I34
set_option maxRecDepth 100000

theorem sh1_any (i : Ins) (w : World) : Calls Tryz.prog 30 #[i.val] w fun e w' => e = .returned (.bool (decide (i.err ≠ 0))) ∧ Below w.heap.size w w' := by
  go_enter Tryz.func30, Tryz.ntmps30
  go_wp2_with (go_at_call 31; refine (instr_any i _).mono ?_; rintro e w' ⟨rfl, hb1⟩)
  go_ret
  refine ⟨ret_bool ?_, ((Below.refl _ _).alloc (Nat.le_refl _) _).trans (hb1.mono (by simp))⟩
  by_cases h : i.err = 0
  · rw [h]; rfl
  · simp [h]
theorem sh2_any (tb : Nat) (a : Option Addr) (n c : Nat) (x : Int) (w : World) (h : w.cell? ⟨tb, 0, none⟩ = some (.slice a n c)) : Calls Tryz.prog 32 #[.int .i64 x, .pointer (some ⟨tb, 0, none⟩)] w fun e w' => e = .returned (.bool (decide (x ≠ (n : Int)))) ∧ w = w' := by
  go_enter Tryz.func32, Tryz.ntmps32
  go_wp2
  go_ret
  refine ⟨ret_bool ?_, rfl⟩
  by_cases hx : x = (n : Int)
  · subst hx; simp
  · simp [hx]
def ShPost (w : World) (r : List (List Int) × Int) (e : Ending) (w' : World) : Prop := ∃ a c, e = .returned (.tuple #[.slice a r.1.length c, .int .i64 r.2]) ∧ SlRows w' w'.heap.size a r.1 ∧ Below w.heap.size w w'
theorem ShPost.nil {w w' : World} {r : List (List Int) × Int} {x : Int} (h : r = ([], x)) (hb : Below w.heap.size w w') : ShPost w r (.returned (.tuple #[.slice none 0 0, .int .i64 x])) w' := by
  subst h
  exact ⟨Option.none, 0, rfl, fun h => absurd rfl h, hb⟩
theorem ShPost.of {w w' : World} {r : List (List Int) × Int} {p : List (List Int)} {a : Option Addr} {c : Nat} (h : r = (p, 0)) (hs : SlRows w' w'.heap.size a p) (hb : Below w.heap.size w w') : ShPost w r (.returned (.tuple #[.slice a p.length c, .int .i64 0])) w' := by
  subst h
  exact ⟨a, c, rfl, hs, hb⟩
/-- The box of an instruction. -/
def IBx (b : Nat) (i : Ins) (W : World) : Prop := InsAt W b 0 i
theorem IBx.to {b : Nat} {i : Ins} {W W' : World} (h : IBx b i W) (hb : Below W.heap.size W W') : IBx b i W' := InsAt.below h hb (lt_of_cell h.1)
theorem IBx.set {b g : Nat} {i : Ins} {W : World} (h : IBx b i W) (hg : g ≠ b) (k : Nat) (v : Value) : IBx b i (W.setCell ⟨g, k, none⟩ v) := by
  obtain ⟨h0, h1, h2, h3, h4, h5, h6⟩ := h
  have e : ∀ o, (W.setCell ⟨g, k, none⟩ v).cell? ⟨b, o, none⟩ = W.cell? ⟨b, o, none⟩ := fun o => World.cell?_setCell_other _ _ _ _ (by intro e; injection e with e1; exact hg e1)
  exact ⟨(e _).trans h0, (e _).trans h1, (e _).trans h2, (e _).trans h3, (e _).trans h4, (e _).trans h5, (e _).trans h6⟩
theorem IBx.far {b : Nat} {i : Ins} {W W' : World} (h : IBx b i W) (hb : ∀ k, W'.cell? ⟨b, k, none⟩ = W.cell? ⟨b, k, none⟩) : IBx b i W' := by
  obtain ⟨h0, h1, h2, h3, h4, h5, h6⟩ := h
  exact ⟨(hb _).trans h0, (hb _).trans h1, (hb _).trans h2, (hb _).trans h3, (hb _).trans h4, (hb _).trans h5, (hb _).trans h6⟩
theorem sl_arr (cb wd : Nat) (hw : wd ≤ 101) (W : World) : (Instr.sliceAt 72 (.pointer (some ⟨cb, 0, none⟩)) none (some (.int .i64 (wd : Int))) none).run Tryz.prog W = .ok (.slice (some ⟨cb, 0, none⟩) wd 101) W := by
  obtain ⟨ii, hii, hii0, hii1, hii2⟩ := info_parts info_intC
  have hal : Tryz.prog.arrayLen 72 = 101 := by kernel_rfl
  have hel : Tryz.prog.elem 72 = 3 := by kernel_rfl
  have hsz : (sizeOf 3).run Tryz.prog W = .ok (Tryz.prog.cellsOf 3) W := by simp [sizeOf, run_typeInfo W hii, Program.cellsOf, hii]
  rw [run_sliceAt_array_h W _ ⟨cb, 0, none⟩ (by kernel_rfl) .i64 (wd : Int) (by omega) (by rw [hal]; omega), hal, hel, hsz]
  simp [slicedAt, Addr.add, Result.andThen]
set_option maxHeartbeats 64000000 in
theorem show_any (A : Option Addr) (c : Nat) (l : List Ins) (wv : Int) (w : World) (hs : SlX w w.heap.size A l) (hl : l.length ≤ 4611686018427387904) :
    Calls Tryz.prog 10 #[.slice A l.length c, .int .i64 wv] w fun e w' => ShPost w (showE l wv) e w' := by
  have HE1 : Hid (2000 < l.length → showE l wv = ([], 4)) := fun h => by unfold showE; rw [if_pos h]
  have HE2 : Hid (¬ 2000 < l.length → l.any (fun i => decide (i.err ≠ 0)) = true → showE l wv = ([], 8)) := fun h h2 => by unfold showE; rw [if_neg h, if_pos h2]
  have HE3 : Hid (¬ 2000 < l.length → ¬ l.any (fun i => decide (i.err ≠ 0)) = true → wv < 1 ∨ 101 < wv → showE l wv = ([], 2)) := fun h h2 h3 => by unfold showE; rw [if_neg h, if_neg h2, if_pos h3]
  have HE4 : Hid (¬ 2000 < l.length → ¬ l.any (fun i => decide (i.err ≠ 0)) = true → ¬ (wv < 1 ∨ 101 < wv) → showE l wv = if 100 < (shRun wv.toNat sh0 l).2.length then ([], 4) else if ((shRun wv.toNat sh0 l).1.take wv.toNat).any (fun n => decide (n ≠ ((shRun wv.toNat sh0 l).2.length : Int))) then ([], 26) else ((shRun wv.toNat sh0 l).2, 0)) := fun h h2 h3 => by unfold showE; rw [if_neg h, if_neg h2, if_neg h3]
  obtain ⟨r, hr⟩ : ∃ r, r = showE l wv := ⟨_, rfl⟩
  rw [← hr] at HE1 HE2 HE3 HE4 ⊢
  clear hr
  by_cases h1 : 2000 < l.length
  · have d1 : decide (2000 < l.length) = true := decide_eq_true h1
    have d2 : decide ((2000 : Int) < (l.length : Int)) = true := decide_eq_true (by omega)
    have HQ := Lib.hid (HE1.out h1)
    clear h1 HE2 HE3 HE4 hs
    go_enter Tryz.func10, Tryz.ntmps10
    go_wp2
    go_ret2
    exact ShPost.nil HQ.out (Below.refl _ _)
  have d1 : decide (2000 < l.length) = false := decide_eq_false h1
  have d2 : decide ((2000 : Int) < (l.length : Int)) = false := decide_eq_false (by omega)
  have HCo := Lib.hid (contI_any 30 #[] (enters_of Tryz.func30 (by kernel_rfl) rfl) (fun i => decide (i.err ≠ 0)) A c l w hs (by omega) (fun x _ w' _ => sh1_any x w'))
  by_cases h2 : l.any (fun i => decide (i.err ≠ 0)) = true
  · rw [h2] at HCo
    have HQ := Lib.hid (HE2.out h1 h2)
    clear h1 h2 HE1 HE3 HE4 hs
    go_enter Tryz.func10, Tryz.ntmps10
    go_wp2_with ((go_at_call 29; refine HCo.out.mono ?_; rintro e w1 ⟨rfl, hb1⟩))
    go_ret2
    exact ShPost.nil HQ.out hb1
  have h2' : l.any (fun i => decide (i.err ≠ 0)) = false := by simpa using h2
  rw [h2'] at HCo
  by_cases h3 : wv < 1
  · have d3 : decide (wv < 1) = true := decide_eq_true h3
    have HQ := Lib.hid (HE3.out h1 h2 (Or.inl h3))
    clear h1 h2 h2' h3 HE1 HE2 HE4 hs
    go_enter Tryz.func10, Tryz.ntmps10
    go_wp2_with ((go_at_call 29; refine HCo.out.mono ?_; rintro e w1 ⟨rfl, hb1⟩))
    go_ret2
    exact ShPost.nil HQ.out hb1
  have d3 : decide (wv < 1) = false := decide_eq_false h3
  by_cases h4 : 101 < wv
  · have d4 : decide (101 < wv) = true := decide_eq_true h4
    have HQ := Lib.hid (HE3.out h1 h2 (Or.inr h4))
    clear h1 h2 h2' h3 h4 HE1 HE2 HE4 hs
    go_enter Tryz.func10, Tryz.ntmps10
    go_wp2_with ((go_at_call 29; refine HCo.out.mono ?_; rintro e w1 ⟨rfl, hb1⟩))
    go_ret2
    exact ShPost.nil HQ.out hb1
  have d4 : decide (101 < wv) = false := decide_eq_false h4
  have HF := Lib.hid (HE4.out h1 h2 (by omega))
  obtain ⟨wd, hwd⟩ : ∃ wd : Nat, wv = (wd : Int) := ⟨wv.toNat, by omega⟩
  subst hwd
  rw [Int.toNat_natCast] at HF
  have hw1 : 1 ≤ wd := by omega
  have hw101 : wd ≤ 101 := by omega
  have hl2000 : l.length ≤ 2000 := by omega
  have HS := Lib.hid hs
  clear h1 h2 h2' h3 h4 HE1 HE2 HE3 HE4 hs hl
  go_enter Tryz.func10, Tryz.ntmps10
  go_upto_region 7 with ((go_at_call 29; refine HCo.out.mono ?_; rintro e w1 ⟨rfl, hb1⟩))
  refine abs_world (Q := fun W => Code.wp _ _ _ _ W) (F := fun W => Below w.heap.size w W) _ hb1 ?_
  clear hb1 HCo d1 d2 d3 d4
  intro W1 hb1
  have HB1 := Lib.hid hb1
  have HS1 : Hid (∀ W, Below W1.heap.size W1 W → SlX W W1.heap.size A l) := fun W hb => ((HS.out.below hb1).more hb1.size).below hb
  have HX := Lib.hid (ShA.new W1 wd)
  clear hb1 HS
  go_upto_region 10 with fail
  refine abs_world (Q := fun W => Code.wp _ _ _ _ W) (F := fun W => ShA W1 wd W1.heap.size (W1.heap.size + 1) (.slice none 0 0) [] sh0 W) _ HX.out ?_
  clear HX
  try simp only [World.size_alloc]
  obtain ⟨tb, htb⟩ : ∃ tb, tb = W1.heap.size := ⟨_, rfl⟩
  obtain ⟨cb, hcb⟩ : ∃ cb, cb = W1.heap.size + 1 := ⟨_, rfl⟩
  rw [← hcb, ← htb]
  have htc : tb < cb := by omega
  clear hcb
  intro W2 hA2
  have HA2 : Hid (ShA W1 wd tb cb (.slice none 0 0) [] (shRun wd sh0 (l.take 0)) W2) := hA2
  have HTb := Lib.hid htb
  clear hA2 htb
  go_wp2
  go_loopw [24] (fun s24 wr => ∃ i : Nat, i ≤ l.length ∧ s24 = .int .i64 (i : Int) ∧ ∃ v gs, Hid (ShA W1 wd tb cb v gs (shRun wd sh0 (l.take i)) wr)) (fun s24 _ => l.length - (intOf s24).toNat)
  case atStart => exact ⟨0, Nat.zero_le _, rfl, _, _, HA2.out⟩
  case round =>
    obtain ⟨i, hi, rfl, v, gs, HA⟩ := hrel
    clear HA2
    by_cases hlt : i < l.length
    case pos =>
      obtain ⟨b, off, cur, hAe, hbl, hcur, hcc⟩ := (HS1.out wr HA.out.lo).at_ hlt
      subst hAe
      have HNx := Lib.hid (shRun_next wd hcur sh0)
      obtain ⟨op, rt, bd, at_, to_, car, rk⟩ := cur
      obtain ⟨y0, y1, y2, y3, y4, y5, y6⟩ := hcc
      simp only at y0 y1 y2 y3 y4 y5 y6
      have HX : Hid (ShA W1 wd tb cb v gs (shRun wd sh0 (l.take i)) (wr.alloc (.cells #[.int .u8 op, .bool rt, .int .u8 bd, .int .i64 at_, .int .i64 to_, .int .i64 car, .int .i64 rk] 31)) ∧ IBx wr.heap.size ⟨op, rt, bd, at_, to_, car, rk⟩ (wr.alloc (.cells #[.int .u8 op, .bool rt, .int .u8 bd, .int .i64 at_, .int .i64 to_, .int .i64 car, .int .i64 rk] 31)) ∧ cb < wr.heap.size) := ⟨HA.out.to ((Below.refl _ _).alloc (Nat.le_refl _) _), ⟨cell_new rfl rfl rfl, cell_new rfl rfl rfl, cell_new rfl rfl rfl, cell_new rfl rfl rfl, cell_new rfl rfl rfl, cell_new rfl rfl rfl, cell_new rfl rfl rfl⟩, (HA.out.count (k := 0) (by omega)).2.2.2⟩
      have HV0 : Hid (∀ k, v.ownBlock = some k → k < wr.heap.size) := HA.out.vlt
      have HOk := Lib.hid (ShOk.run hw101 (ShOk.new wd) (l := l.take i))
      have hrl := shRun_len wd (l.take i) sh0
      rw [List.length_take] at hrl
      have hr0 : sh0.2.length = 0 := rfl
      obtain ⟨s, hse⟩ : ∃ s, s = shRun wd sh0 (l.take i) := ⟨_, rfl⟩
      rw [← hse] at HX HNx HOk hrl
      have hrl2 : s.2.length ≤ 2000 := by omega
      clear hrl hr0 hse hcur HA hbl
      go_upto_region 12 with fail
      refine abs_world (Q := fun W => Code.wp _ _ _ _ W) (F := fun W => ShA W1 wd tb cb v gs s W ∧ IBx wr.heap.size ⟨op, rt, bd, at_, to_, car, rk⟩ W ∧ cb < wr.heap.size) _ HX.out ?_
      clear HX y0 y1 y2 y3 y4 y5 y6
      obtain ⟨pb, hpb⟩ : ∃ pb, pb = wr.heap.size := ⟨_, rfl⟩
      rw [← hpb]
      have HV : Hid (∀ k, v.ownBlock = some k → k < pb) := by show ∀ k, _; rw [hpb]; exact HV0.out
      clear hpb HV0
      rintro W3 ⟨hA3, hI3, hcp⟩
      have HA3 := Lib.hid hA3
      have HI3 := Lib.hid hI3
      obtain ⟨z0, z1, z2, z3, z4, z5, z6⟩ := hI3
      simp only [Nat.zero_add] at z0 z1 z2 z3 z4 z5 z6
      clear hA3
      by_cases hb : shB wd ⟨op, rt, bd, at_, to_, car, rk⟩ = true
      case neg =>
        have HN : Hid (shRun wd sh0 (l.take (i + 1)) = s) := by show _ = _; rw [HNx.out]; unfold shStep; rw [if_neg hb]
        have hb' : ¬ (op = 3 ∧ bd = 0 ∧ 0 ≤ at_ ∧ at_ < (wd : Int)) := fun h => hb (by unfold shB; simp [h.1, h.2.1, h.2.2.1, h.2.2.2])
        have HA9 : Hid (ShA W1 wd tb cb v gs (shRun wd sh0 (l.take (i + 1))) W3) := by show ShA _ _ _ _ _ _ _ _; rw [HN.out]; exact HA3.out
        have HBn := Lib.hid hb'
        clear hb hb' HN HNx HOk HA3 HI3
        by_cases g1 : op = 3
        case neg =>
          have e1 : (op != 3) = true := by simpa using g1
          clear g1
          go_wp2
          go_roundw
          case rel => exact ⟨i + 1, by omega, by go_num, _, _, HA9.out⟩
          case measure => simp [intOf]; omega
        have e1 : (op != 3) = false := by simpa using g1
        by_cases g2 : bd = 0
        case neg =>
          have e2 : (bd != 0) = true := by simpa using g2
          clear g1 g2
          go_wp2
          go_roundw
          case rel => exact ⟨i + 1, by omega, by go_num, _, _, HA9.out⟩
          case measure => simp [intOf]; omega
        have e2 : (bd != 0) = false := by simpa using g2
        by_cases g3 : at_ < 0
        · have e3 : decide (at_ < 0) = true := decide_eq_true g3
          clear g1 g2 g3
          go_wp2
          go_roundw
          case rel => exact ⟨i + 1, by omega, by go_num, _, _, HA9.out⟩
          case measure => simp [intOf]; omega
        have e3 : decide (at_ < 0) = false := decide_eq_false g3
        have g4 : (wd : Int) ≤ at_ := by
          apply Int.not_lt.1
          intro h
          exact HBn.out ⟨g1, g2, by omega, h⟩
        have e4 : decide ((wd : Int) ≤ at_) = true := decide_eq_true g4
        clear g1 g2 g3 g4
        go_wp2
        go_roundw
        case rel => exact ⟨i + 1, by omega, by go_num, _, _, HA9.out⟩
        case measure => simp [intOf]; omega
      case pos =>
        have HN : Hid (shRun wd sh0 (l.take (i + 1)) = shIn wd s ⟨op, rt, bd, at_, to_, car, rk⟩) := by show _ = _; rw [HNx.out]; unfold shStep; rw [if_pos hb]
        have hb4 : op = 3 ∧ bd = 0 ∧ 0 ≤ at_ ∧ at_ < (wd : Int) := by
          unfold shB at hb
          simpa [Bool.and_eq_true] using hb
        obtain ⟨g1, g2, g3, g4⟩ := hb4
        obtain ⟨ka, hka⟩ : ∃ ka : Nat, at_ = (ka : Int) := ⟨at_.toNat, by omega⟩
        subst hka
        have e1 : (op != 3) = false := by simp [g1]
        have e2 : (bd != 0) = false := by simp [g2]
        have e3 : decide ((ka : Int) < 0) = false := decide_eq_false (by omega)
        have hkw : ka < wd := by omega
        have e4 : decide (wd ≤ ka) = false := decide_eq_false (by omega)
        have e4' : decide ((wd : Int) ≤ (ka : Int)) = false := decide_eq_false (by omega)
        have hk101 : ka < 101 := by omega
        have hlo := HOk.out.lo ka
        have hhi := HOk.out.hi ka
        obtain ⟨C, R⟩ := s
        obtain ⟨row, hrow⟩ : ∃ row : Nat, C.getD ka 0 = (row : Int) := ⟨(C.getD ka 0).toNat, by have : 0 ≤ C.getD ka 0 := hlo; omega⟩
        have hrR : row ≤ R.length := by have : C.getD ka 0 ≤ (R.length : Int) := hhi; omega
        obtain ⟨x0, x1, x2, x3⟩ := HA3.out.count hk101
        have x0' : W3.cell? ⟨cb, ka, none⟩ = some (.int .i64 (row : Int)) := by rw [x0, ← hrow]
        have hcnt := HA3.out.cnt ka ((row : Int) + 1)
        have HCn : Hid (ShA W1 wd tb cb v gs (C.set ka ((row : Int) + 1), R) (W3.setCell ⟨cb, ka, none⟩ (.int .i64 ((row : Int) + 1))) ∧ IBx pb ⟨op, rt, bd, ka, to_, car, rk⟩ (W3.setCell ⟨cb, ka, none⟩ (.int .i64 ((row : Int) + 1)))) := ⟨hcnt, HI3.out.set (by omega) _ _⟩
        have HN2 : Hid (shRun wd sh0 (l.take (i + 1)) = (C.set ka ((row : Int) + 1), (if row = R.length then R ++ [List.replicate wd 0] else R).set row (((if row = R.length then R ++ [List.replicate wd 0] else R).getD row []).set ka car))) := by
          show _ = _
          rw [HN.out]
          unfold shIn
          simp only [Int.toNat_natCast, hrow]
          have e : ((row : Int) = (R.length : Int)) = (row = R.length) := by rw [eq_iff_iff]; omega
          simp only [e]
        have hR2000 : R.length ≤ 2000 := hrl2
        clear hb HN HNx HOk HI3 hlo hhi x0 hcnt hrow hrl2 g1 g2 g3 g4
        go_upto_region 15 with fail
        refine abs_world (Q := fun W => Code.wp _ _ _ _ W) (F := fun W => ShA W1 wd tb cb v gs (C.set ka ((row : Int) + 1), R) W ∧ IBx pb ⟨op, rt, bd, ka, to_, car, rk⟩ W) _ HCn.out ?_
        clear HCn x0' x1 x2 x3 z0 z1 z2 z3 z4 z5 z6 e1 e2 e3 e4 e4' HA3
        rintro W4 ⟨hA4, hI4⟩
        obtain ⟨a, c4, hv⟩ := hA4.outer
        subst hv
        have hA4' : ShA W1 wd tb cb (.slice a R.length c4) gs (C.set ka ((row : Int) + 1), R) W4 := hA4
        obtain ⟨t0, t1, t2, t3⟩ := hA4'.box
        have HA4 := Lib.hid hA4'
        have HI4 := Lib.hid hI4
        clear hA4 hA4' hI4
        have hkcar := hkw
        by_cases hq : row = R.length
        case pos =>
          have q1 : ((row : Int) == (R.length : Int)) = true := by simp [hq]
          have q2 : (row == R.length) = true := by simp [hq]
          obtain ⟨A', c', w3, hrun, hc3, hf3, hA5, hfar⟩ := HA4.out.push hw101 (by omega)
          have HPs : Hid (ShA W1 wd tb cb (.slice A' (R.length + 1) c') (gs ++ [W4.heap.size]) (C.set ka ((row : Int) + 1), R ++ [List.replicate wd 0]) (w3.setCell ⟨tb, 0, none⟩ (.slice A' (R.length + 1) c'))) := hA5
          have hmk := mk_row wd hw101
          have HX : Hid (ShA W1 wd tb cb (.slice A' (R.length + 1) c') (gs ++ [W4.heap.size]) (C.set ka ((row : Int) + 1), R ++ [List.replicate wd 0]) (w3.setCell ⟨tb, 0, none⟩ (.slice A' (R.length + 1) c')) ∧ IBx pb ⟨op, rt, bd, ka, to_, car, rk⟩ (w3.setCell ⟨tb, 0, none⟩ (.slice A' (R.length + 1) c'))) := ⟨hA5, HI4.out.far (hfar pb (lt_of_cell HI4.out.1) (by omega) (fun k e => HV.out k e))⟩
          have HQe := Lib.hid hq
          clear hA5 HPs hfar HA4 HI4 hq
          go_upto_region 16 with fail
          go_cut [10] (fun s10 wx => s10 = .int .i64 (row : Int) ∧ Hid (ShA W1 wd tb cb (.slice A' (R.length + 1) c') (gs ++ [W4.heap.size]) (C.set ka ((row : Int) + 1), R ++ [List.replicate wd 0]) wx ∧ IBx pb ⟨op, rt, bd, ka, to_, car, rk⟩ wx))
          case first =>
            go_region_law (first | (refine step_append_run (by rfl) _ _ _ _ (by rfl) _ _ (by rfl) (by rfl) hrun ?_))
            all_goals
              go_wp2_with fail
              go_meet
              exact ⟨rfl, HX.out⟩
          case rest =>
            obtain ⟨rfl, HH⟩ := hcut
            clear HX hrun hc3 hf3 t0 t1 t2 t3
            have HAr := Lib.hid HH.out.1
            have HIr := Lib.hid HH.out.2
            have HRw : Hid ((R ++ [List.replicate wd 0])[row]? = some (List.replicate wd 0)) := by show _ = _; rw [HQe.out]; simp
            have hrn : row < R.length + 1 := by omega
            clear HH
            obtain ⟨ob, g, ha, -, r0, rg, r1, r2⟩ := HAr.out.row HRw.out
            subst ha
            have r3 := r2 ka hkw
            have r4 := r1 ka
            have hput := HAr.out.put HRw.out rg ka car
            obtain ⟨b0, -, -, -⟩ := HAr.out.box
            obtain ⟨-, -, -, z3, -, z5, -⟩ := HIr.out
            simp only [Nat.zero_add] at z3 z5
            have HEnd : Hid (ShA W1 wd tb cb (.slice (some ⟨ob, 0, none⟩) (R.length + 1) c') (gs ++ [W4.heap.size]) (shRun wd sh0 (l.take (i + 1))) (wc.setCell ⟨g, ka, none⟩ (.int .i64 car)).drew) := by
              show ShA _ _ _ _ _ _ _ _
              rw [HN2.out, if_pos HQe.out, show (R ++ [List.replicate wd (0 : Int)]).getD row [] = List.replicate wd (0 : Int) by rw [List.getD_eq_getElem?_getD, HRw.out]; rfl]
              exact hput.to ((Below.refl _ _).drew)
            clear hput HAr HIr HRw HN2 rg r1 r2 HV
            go_upto_region 17 with fail
            go_region
            all_goals
              go_wp2
              go_roundw
              case rel => exact ⟨i + 1, by omega, by go_num, _, _, HEnd.out⟩
              case measure => simp [intOf]; omega
        case neg =>
          have q1 : ((row : Int) == (R.length : Int)) = false := by simpa using (by omega : ¬ (row : Int) = (R.length : Int))
          have q2 : (row == R.length) = false := by simp [hq]
          have hrn : row < R.length := by omega
          have HQe := Lib.hid hq
          clear hq t1 t2 t3
          go_upto_region 17 with fail
          have HAr := HA4
          have HIr := HI4
          clear HA4 HI4
          obtain ⟨rw0, hrw⟩ : ∃ y, R[row]? = some y := ⟨_, List.getElem?_eq_getElem hrn⟩
          have HRw : Hid (R[row]? = some rw0) := hrw
          clear hrw
          obtain ⟨ob, g, ha, -, r0, rg, r1, r2⟩ := HAr.out.row HRw.out
          subst ha
          have r3 := r2 ka hkw
          have r4 := r1 ka
          have hput := HAr.out.put HRw.out rg ka car
          obtain ⟨b0, -, -, -⟩ := HAr.out.box
          obtain ⟨-, -, -, z3, -, z5, -⟩ := HIr.out
          simp only [Nat.zero_add] at z3 z5
          have HEnd : Hid (ShA W1 wd tb cb (.slice (some ⟨ob, 0, none⟩) R.length c4) (gs) (shRun wd sh0 (l.take (i + 1))) (W4.setCell ⟨g, ka, none⟩ (.int .i64 car)).drew) := by
            show ShA _ _ _ _ _ _ _ _
            rw [HN2.out, if_neg HQe.out, show R.getD row [] = rw0 by rw [List.getD_eq_getElem?_getD, HRw.out]; rfl]
            exact hput.to ((Below.refl _ _).drew)
          clear hput HAr HIr HRw HN2 rg r1 r2 HV
          go_region
          all_goals
            go_wp2
            go_roundw
            case rel => exact ⟨i + 1, by omega, by go_num, _, _, HEnd.out⟩
            case measure => simp [intOf]; omega
    case neg =>
      obtain rfl : i = l.length := by omega
      rw [List.take_length] at HA
      have hrl := shRun_len wd l sh0
      have hr0 : sh0.2.length = 0 := rfl
      obtain ⟨s, hse⟩ : ∃ s, s = shRun wd sh0 l := ⟨_, rfl⟩
      rw [← hse] at HA HF hrl
      have hsl : s.2.length ≤ 2000 := by omega
      clear hrl hr0 hse
      have hcl : s.1.length = 101 := HA.out.clen
      obtain ⟨a, c4, hv⟩ := HA.out.outer
      subst hv
      obtain ⟨t0, t1, t2, t3⟩ := HA.out.box
      have HBe := Lib.hid (HB1.out.trans (HA.out.lo.mono HB1.out.size))
      clear t1 t2 t3 HS1 HB1 hlt
      by_cases m1 : 100 < s.2.length
      · have d1 : decide (100 < s.2.length) = true := decide_eq_true m1
        have d2 : decide ((100 : Int) < (s.2.length : Int)) = true := decide_eq_true (by omega)
        have HQ : Hid (r = ([], 4)) := by show _ = _; rw [HF.out, if_pos m1]
        clear m1 HF HA
        go_wp2
        go_ret2
        exact ShPost.nil HQ.out HBe.out
      have d1 : decide (100 < s.2.length) = false := decide_eq_false m1
      have d2 : decide ((100 : Int) < (s.2.length : Int)) = false := decide_eq_false (by omega)
      have hzl : (s.1.take wd).length = wd := by rw [List.length_take]; omega
      have HCt := Lib.hid (contf_any 32 #[.pointer (some ⟨tb, 0, none⟩)] (enters_of Tryz.func32 (by kernel_rfl) rfl) (fun x => decide (x ≠ (s.2.length : Int))) (some ⟨cb, 0, none⟩) 101 (s.1.take wd) wr (fun _ => ⟨cb, 0, rfl, (HA.out.count (k := 0) (by omega)).2.2.2, fun j z hz => by
        have hj := (List.getElem?_eq_some_iff.1 hz).1
        rw [hzl] at hj
        rw [List.getElem?_take, if_pos hj] at hz
        rw [Nat.zero_add, (HA.out.count (k := j) (by omega)).1, List.getD_eq_getElem?_getD, hz]
        rfl⟩) (by omega) (fun x _ => by
          rw [show (#[Value.int .i64 x] ++ #[.pointer (some ⟨tb, 0, none⟩)] : Array Value) = #[.int .i64 x, .pointer (some ⟨tb, 0, none⟩)] from rfl]
          exact sh2_any tb a s.2.length c4 x wr t0))
      rw [hzl] at HCt
      have hsa := sl_arr cb wd hw101 wr
      by_cases m2 : (s.1.take wd).any (fun x => decide (x ≠ (s.2.length : Int))) = true
      · rw [m2] at HCt
        have HQ : Hid (r = ([], 26)) := by show _ = _; rw [HF.out, if_neg m1, if_pos m2]
        clear m1 m2 HF HA hzl
        go_wp2_with ((go_at_call 25; refine HCt.out.mono ?_; rintro e w1 ⟨rfl, rfl⟩))
        go_ret2
        exact ShPost.nil HQ.out HBe.out
      have m2' : (s.1.take wd).any (fun x => decide (x ≠ (s.2.length : Int))) = false := by simpa using m2
      rw [m2'] at HCt
      have HQ : Hid (r = (s.2, 0)) := by show _ = _; rw [HF.out, if_neg m1, if_neg m2]
      have HRs := Lib.hid HA.out.rows
      clear m1 m2 m2' HF HA hzl
      go_wp2_with ((go_at_call 25; refine HCt.out.mono ?_; rintro e w1 ⟨rfl, rfl⟩))
      go_ret2
      exact ShPost.of HQ.out HRs.out HBe.out
end Go.Proofs.YthedmiilkeclaaaGreat
