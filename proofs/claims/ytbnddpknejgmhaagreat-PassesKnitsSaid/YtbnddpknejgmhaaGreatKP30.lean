/- Layer 27: the reference's cell: cables. -/
import Derived.Test.YtbnddpknejgmhaaGreatKP27
import Derived.Deep.RegionHeld3
import Derived.Deep.DeepCutAuto
namespace Go.Proofs.YtbnddpknejgmhaaGreat
open Go.RowKit Go.Shelf Go.Sort
set_option maxRecDepth 100000

set_option maxHeartbeats 4000000 in
theorem rcell6 (B pb : Nat) (t : Pw) (row k : Int) (s : Stc) (hs : s.ok = true) (hk : s.kind = 6) (uv : Value) (X : List Own) (hat : t.next + (usesS s).toNat ≤ t.lp.length) (hl : t.lp.length ≤ 50000) (hcl : t.cross.length ≤ 50000) (w : World) (h : PcE B pb t (pxJ uv (usedN t.next (usesS s).toNat) :: X) w) (hB : B ≤ w.heap.size) :
    Calls Tryz.prog 37 #[.pointer (some ⟨pb, 0, none⟩), .int .i64 row, .int .i64 k, s.val, uv] w fun e w' => ClPost B pb (stepC row k s t) (pxJ uv (usedN t.next (usesS s).toNat) :: X) w e w' := by
  have hK := stc_k hs
  obtain ⟨kind, purl, sa, sb⟩ := s
  obtain rfl : kind = 6 := hk
  have hal := al_t w (.cells #[.int .u8 6, .bool purl, .int .i64 sa, .int .i64 sb] 51)
  have HX : Hid (PcE B pb t (stB w.heap.size ⟨6, purl, sa, sb⟩ :: pxJ uv (usedN t.next (usesS ⟨6, purl, sa, sb⟩).toNat) :: X) (w.alloc (.cells #[.int .u8 6, .bool purl, .int .i64 sa, .int .i64 sb] 51)) ∧ Below B w (w.alloc (.cells #[.int .u8 6, .bool purl, .int .i64 sa, .int .i64 sb] 51))) := by
    obtain ⟨vL, vB, vC, vR, vs, h⟩ := h
    exact ⟨⟨vL, vB, vC, vR, vs, h.add hal hB (bxT_new w _ _)⟩, hal.mono hB⟩
  obtain ⟨a0, c0, g0⟩ := HX.out.1.cells
  obtain ⟨x0, -⟩ := stB_at (HX.out.1.mem List.mem_cons_self)
  obtain ⟨cb, hcb⟩ : ∃ cb, cb = w.heap.size := ⟨_, rfl⟩
  obtain ⟨n0, hn0⟩ : ∃ n0, n0 = t.lp.length := ⟨_, rfl⟩
  rw [← hn0] at g0
  clear h hal
  show Calls Tryz.prog 37 #[_, _, _, .agg #[.int .u8 6, .bool purl, .int .i64 sa, .int .i64 sb], _] w _
  go_enter Tryz.func37, Tryz.ntmps37
  go_upto_region 3 with fail
  refine abs_world (Q := fun W => Code.wp _ _ _ _ W) (F := fun W => PcE B pb t (stB w.heap.size ⟨6, purl, sa, sb⟩ :: pxJ uv (usedN t.next (usesS ⟨6, purl, sa, sb⟩).toNat) :: X) W ∧ Below B w W) _ HX.out ?_
  clear HX g0 x0
  rw [← hcb]
  rintro W1 ⟨h1, hb1⟩
  have hB1 : B ≤ W1.heap.size := Nat.le_trans hB hb1.size
  have HP1 := Lib.hid h1
  have HB1 := Lib.hid hb1
  clear hb1 hcb
  obtain ⟨a1, a2, b1, b2⟩ := hK.cable (by simp)
  simp only at a1 a2 b1 b2
  obtain ⟨a, rfl⟩ : ∃ n : Nat, sa = (n : Int) := ⟨sa.toNat, by omega⟩
  obtain ⟨b, rfl⟩ : ∃ n : Nat, sb = (n : Int) := ⟨sb.toNat, by omega⟩
  have ha1 : 1 ≤ a ∧ a ≤ 6 := by omega
  have hb1' : 1 ≤ b ∧ b ≤ 6 := by omega
  obtain ⟨N, hN⟩ : ∃ N, N = a + b := ⟨_, rfl⟩
  have hu : (usesS ⟨6, purl, (a : Int), (b : Int)⟩).toNat = N := by rw [hK.uses, hN]; simp; omega
  rw [hu] at h1 HP1 hat
  have HSt : Hid (stepC row k ⟨6, purl, (a : Int), (b : Int)⟩ t = ⟨t.lp ++ cabL row k purl t.next a b N, t.bound, t.cross ++ crossN ⟨6, purl, (a : Int), (b : Int)⟩ t.lp.length a, t.rows, t.next + N⟩) := by
    show _ = _
    unfold stepC
    rw [hu, hN, newsL_cab (by simp) rfl rfl]
    unfold boundL crossL
    simp
  obtain ⟨ug, uc, rfl, -⟩ := pxJ_at (h1.mem (List.mem_cons_of_mem _ List.mem_cons_self)) (usedN_at (a := t.next) (n := N) (i := 0) (by omega)) (usedN_len _ _)
  have HX1 : Hid (PcE B pb ⟨t.lp ++ cabL row k purl t.next a b 0, t.bound, t.cross, t.rows, t.next⟩ (stB cb ⟨6, purl, (a : Int), (b : Int)⟩ :: pxJ (.slice (some ⟨ug, 0, none⟩) N uc) (usedN t.next N) :: X) W1) := by
    show PcE _ _ _ _ _
    rw [show cabL row k purl t.next a b 0 = [] from rfl, List.append_nil]
    exact h1
  have hwab : IntKind.i64.wrap ((a : Int) + (b : Int)) = (N : Int) := by rw [hN, Int.natCast_add]; exact IntWalk.i64_in _ (by omega)
  have HNe := Lib.hid hN
  have HN12 : Hid (1 ≤ N ∧ N ≤ 12) := by show _ ∧ _; omega
  obtain ⟨F, hF⟩ : ∃ F, F = t.lp.length := ⟨_, rfl⟩
  have HFe := Lib.hid hF
  have HFl : Hid (F ≤ 50000) := by show _ ≤ _; omega
  rw [← hF]
  clear h1 HP1 a1 a2 b1 b2 hN hF
  go_wp2
  go_loopw [15] (fun s15 wr => ∃ i : Nat, s15 = .int .i64 (i : Int) ∧ i ≤ N ∧ Hid (PcE B pb ⟨t.lp ++ cabL row k purl t.next a b i, t.bound, t.cross, t.rows, t.next⟩ (stB cb ⟨6, purl, (a : Int), (b : Int)⟩ :: pxJ (.slice (some ⟨ug, 0, none⟩) N uc) (usedN t.next N) :: X) wr) ∧ Hid (Below B w wr)) (fun s15 _ => N - (intOf s15).toNat)
  case atStart => exact ⟨0, rfl, Nat.zero_le _, HX1.out, HB1.out⟩
  case round =>
    obtain ⟨i, rfl, hi, HX2, HB2⟩ := hrel
    clear HX1 HB1
    obtain ⟨W2, hW2⟩ : ∃ x : World, x = wr := ⟨_, rfl⟩
    rw [← hW2] at HX2 HB2 ⊢
    clear hW2
    have hB2 : B ≤ W2.heap.size := Nat.le_trans hB HB2.out.size
    obtain ⟨x0, x1, x2, x3⟩ := stB_at (HX2.out.mem List.mem_cons_self)
    by_cases hlt : i < N
    case pos =>
      have d1 : decide ((i : Int) < (N : Int)) = true := decide_eq_true (by omega)
      have d1' : decide (i < N) = true := decide_eq_true hlt
      obtain ⟨rm, hrm⟩ : ∃ rm : Nat, rm = (a + i) % (a + b) := ⟨_, rfl⟩
      have hrm2 : rm < N := by rw [hrm, HNe.out]; exact Nat.mod_lt _ (by omega)
      have u0 := pxJ_cell (HX2.out.mem (List.mem_cons_of_mem _ List.mem_cons_self)) (usedN_at (a := t.next) hrm2) (usedN_len _ _)
      have hcn := cabL_next row k purl t.next a b i
      rw [← hrm] at hcn
      obtain ⟨y, hy⟩ : ∃ y : Int, y = ((t.next + rm : Nat) : Int) := ⟨_, rfl⟩
      rw [← hy] at u0 hcn
      have hlit := HX2.out.lit hB2 y
      have hdr : Below (W2.alloc (.cells #[.int .i64 y] 3)).heap.size (W2.alloc (.cells #[.int .i64 y] 3)) (W2.alloc (.cells #[.int .i64 y] 3)).drew := Below.drew (Below.refl _ _)
      have hBd : Below B W2 (W2.alloc (.cells #[.int .i64 y] 3)).drew := hlit.2.trans (hdr.mono (Nat.le_trans hB2 hlit.2.size))
      have hc := rput_any B pb _ row k (some ⟨W2.heap.size, 0, none⟩) 1 1 [y] rfl purl _ _ (hlit.1.to hdr) (Nat.le_trans hB2 hBd.size) (by simp only [List.length_append, cabL_len]; have := HFe.out; have := HFl.out; have := HN12.out; omega)
      simp only [List.append_assoc, ← hcn] at hc
      have HC := Lib.hid hc
      have HBd := Lib.hid hBd
      have lu := lt_of_cell u0
      have lx := lt_of_cell x1
      have hal1 := al_t W2 (.cells #[.int .i64 y] 3)
      have HKp : Hid (∀ W', Below W2.heap.size W2 W' → W'.cell? ⟨ug, rm, none⟩ = some (.int .i64 y) ∧ W'.cell? ⟨cb, 1, none⟩ = some (.bool purl) ∧ W'.cell? ⟨cb, 2, none⟩ = some (.int .i64 (a : Int)) ∧ W'.cell? ⟨cb, 3, none⟩ = some (.int .i64 (b : Int))) := fun W' hb => ⟨(bcell hb lu _).trans u0, (bcell hb lx _).trans x1, (bcell hb lx _).trans x2, (bcell hb lx _).trans x3⟩
      have HKq : Hid (∀ t' W', PcE B pb t' (stB cb ⟨6, purl, (a : Int), (b : Int)⟩ :: pxJ (.slice (some ⟨ug, 0, none⟩) N uc) (usedN t.next N) :: X) W' → W'.cell? ⟨ug, rm, none⟩ = some (.int .i64 y) ∧ W'.cell? ⟨cb, 1, none⟩ = some (.bool purl) ∧ W'.cell? ⟨cb, 2, none⟩ = some (.int .i64 (a : Int)) ∧ W'.cell? ⟨cb, 3, none⟩ = some (.int .i64 (b : Int))) := fun t' W' h => by
        obtain ⟨-, y1, y2, y3⟩ := stB_at (h.mem List.mem_cons_self)
        refine ⟨?_, y1, y2, y3⟩
        rw [hy]
        exact pxJ_cell (h.mem (List.mem_cons_of_mem _ List.mem_cons_self)) (usedN_at (a := t.next) hrm2) (usedN_len _ _)
      have HK1 := Lib.hid (HKp.out _ (Below.drew (Below.refl _ _)))
      have HK2 := Lib.hid (HKp.out _ (Below.drew hal1))
      have hwai : IntKind.i64.wrap ((a : Int) + (i : Int)) = ((a + i : Nat) : Int) := by rw [Int.natCast_add]; exact IntWalk.i64_in _ (by have := HN12.out; omega)
      obtain ⟨ai, hai⟩ : ∃ ai, ai = a + i := ⟨_, rfl⟩
      have hrem : Int.tmod (ai : Int) (N : Int) = (rm : Int) := by
        rw [Int.tmod_eq_emod_of_nonneg (by omega), hrm, HNe.out, hai, Int.natCast_emod]
      rw [← hai] at hwai
      have hn0 : ((N : Int) == 0) = false := beq_eq_false_iff_ne.2 (by have := HN12.out; omega)
      have hn00 : ¬ (N : Int) = 0 := by have := HN12.out; omega
      have hn01 : ¬ N = 0 := by have := HN12.out; omega
      have hn02 : (N == 0) = false := beq_eq_false_iff_ne.2 hn01
      have hr1 : (rm : Int) < (N : Int) := by omega
      have hr0 : (0 : Int) ≤ (rm : Int) := by omega
      clear hlit hdr hBd hc hcn HX2 hal1 lu lx u0 hrm hai hy
      go_upto_region 32 with fail
      go_region_held3 (fun W' => W'.cell? ⟨ug, rm, none⟩ = some (.int .i64 y) ∧ W'.cell? ⟨cb, 1, none⟩ = some (.bool purl) ∧ W'.cell? ⟨cb, 2, none⟩ = some (.int .i64 (a : Int)) ∧ W'.cell? ⟨cb, 3, none⟩ = some (.int .i64 (b : Int)))
        (first | (with_reducible exact HK1.out) | (with_reducible exact HK2.out) | exact HKq.out _ _ (by assumption) | fail)
        (first | (go_at_call 35; refine HC.out.mono ?_; rintro e w2 ⟨rfl, hp2, hb2⟩))
      have HQ := Lib.hid (And.intro hp2 (HB2.out.trans (HBd.out.trans hb2)))
      clear hp2 hb2 HC HKp HKq HK1 HK2 x0 x1 x2 x3 hwai hrem hr1 hr0 hrm2
      go_wp2
      go_roundw
      case rel => exact ⟨i + 1, by go_num, by omega, HQ.out.1, HQ.out.2⟩
      case measure => simp [intOf]; omega
    case neg =>
      have d1 : decide ((i : Int) < (N : Int)) = false := decide_eq_false (by omega)
      have d1' : decide (i < N) = false := decide_eq_false hlt
      have hie : i = N := by omega
      have HX3 : Hid (∃ LP, LP = t.lp ++ cabL row k purl t.next a b N ∧ PcE B pb ⟨LP, t.bound, t.cross ++ crossN ⟨6, purl, (a : Int), (b : Int)⟩ F 0, t.rows, t.next⟩ (stB cb ⟨6, purl, (a : Int), (b : Int)⟩ :: pxJ (.slice (some ⟨ug, 0, none⟩) N uc) (usedN t.next N) :: X) W2) := ⟨_, rfl, by
        rw [show crossN ⟨6, purl, (a : Int), (b : Int)⟩ F 0 = [] from rfl, List.append_nil]; have e := HX2.out; rw [hie] at e; exact e⟩
      obtain ⟨LP, hLP, hX3⟩ := HX3.out
      have HLP := Lib.hid hLP
      have HX4 := Lib.hid hX3
      clear HX2 HX3 hie hLP hX3
      go_upto_region 33 with fail
      refine abs_world (Q := fun W => Code.wp _ _ _ _ W) (F := fun W => PcE B pb ⟨LP, t.bound, t.cross ++ crossN ⟨6, purl, (a : Int), (b : Int)⟩ F 0, t.rows, t.next⟩ (stB cb ⟨6, purl, (a : Int), (b : Int)⟩ :: pxJ (.slice (some ⟨ug, 0, none⟩) N uc) (usedN t.next N) :: X) W ∧ Below B w W) _ ⟨HX4.out, HB2.out⟩ ?_
      clear HX4 HB2 x0 x1 x2 x3 hwab d1 d1' hlt hi
      rintro W3 ⟨h3, hb3⟩
      have HX5 := Lib.hid h3
      have HB5 := Lib.hid hb3
      clear h3 hb3
      go_wp2
      go_loopw [16] (fun s16 wr => ∃ i : Nat, s16 = .int .i64 (i : Int) ∧ i ≤ a ∧ Hid (PcE B pb ⟨LP, t.bound, t.cross ++ crossN ⟨6, purl, (a : Int), (b : Int)⟩ F i, t.rows, t.next⟩ (stB cb ⟨6, purl, (a : Int), (b : Int)⟩ :: pxJ (.slice (some ⟨ug, 0, none⟩) N uc) (usedN t.next N) :: X) wr) ∧ Hid (Below B w wr)) (fun s16 _ => a - (intOf s16).toNat)
      case atStart => exact ⟨0, rfl, Nat.zero_le _, HX5.out, HB5.out⟩
      case round =>
        obtain ⟨i, rfl, hi, HX6, HB6⟩ := hrel
        clear HX5 HB5
        obtain ⟨W4, hW4⟩ : ∃ x : World, x = wr := ⟨_, rfl⟩
        rw [← hW4] at HX6 HB6 ⊢
        clear hW4
        obtain ⟨x0, x1, x2, x3⟩ := stB_at (HX6.out.mem List.mem_cons_self)
        by_cases hlt : i < a
        case neg =>
          have d1 : decide ((i : Int) < (a : Int)) = false := decide_eq_false (by omega)
          have d1' : decide (i < a) = false := decide_eq_false hlt
          have hie : i = a := by omega
          have HX7 : Hid (PcE B pb ⟨t.lp ++ cabL row k purl t.next a b N, t.bound, t.cross ++ crossN ⟨6, purl, (a : Int), (b : Int)⟩ t.lp.length a, t.rows, t.next⟩ (stB cb ⟨6, purl, (a : Int), (b : Int)⟩ :: pxJ (.slice (some ⟨ug, 0, none⟩) N uc) (usedN t.next N) :: X) W4) := by
            show PcE _ _ _ _ _
            have e := HX6.out; rw [hie, HLP.out, HFe.out] at e; exact e
          clear HX6 hie
          go_wp2
          refine bodyPost_end (results_none rfl _ _ _) rfl ?_
          (try rw [hu])
          exact ClPost.mk' HSt.out HX7.out HB6.out
        case pos =>
          have d1 : decide ((i : Int) < (a : Int)) = true := decide_eq_true (by omega)
          have d1' : decide (i < a) = true := decide_eq_true hlt
          have HX7 : Hid (PcE B pb ⟨LP, t.bound, t.cross ++ crossN ⟨6, purl, (a : Int), (b : Int)⟩ F i ++ crossI ⟨6, purl, (a : Int), (b : Int)⟩ F i 0, t.rows, t.next⟩ (stB cb ⟨6, purl, (a : Int), (b : Int)⟩ :: pxJ (.slice (some ⟨ug, 0, none⟩) N uc) (usedN t.next N) :: X) W4) := by
            show PcE _ _ _ _ _
            rw [show crossI ⟨6, purl, (a : Int), (b : Int)⟩ F i 0 = [] from rfl, List.append_nil]; exact HX6.out
          clear HX6
          go_wp2
          go_loopw [17] (fun s17 wr => ∃ m : Nat, s17 = .int .i64 (m : Int) ∧ m ≤ b ∧ Hid (PcE B pb ⟨LP, t.bound, t.cross ++ crossN ⟨6, purl, (a : Int), (b : Int)⟩ F i ++ crossI ⟨6, purl, (a : Int), (b : Int)⟩ F i m, t.rows, t.next⟩ (stB cb ⟨6, purl, (a : Int), (b : Int)⟩ :: pxJ (.slice (some ⟨ug, 0, none⟩) N uc) (usedN t.next N) :: X) wr) ∧ Hid (Below B w wr)) (fun s17 _ => b - (intOf s17).toNat)
          case atStart => exact ⟨0, rfl, Nat.zero_le _, HX7.out, HB6.out⟩
          case round =>
            obtain ⟨m, rfl, hm, HX8, HB8⟩ := hrel
            clear HX7 HB6 x0 x1 x2 x3 d1 d1'
            obtain ⟨W5, hW5⟩ : ∃ x : World, x = wr := ⟨_, rfl⟩
            rw [← hW5] at HX8 HB8 ⊢
            clear hW5
            obtain ⟨x0, x1, x2, x3⟩ := stB_at (HX8.out.mem List.mem_cons_self)
            by_cases hlm : m < b
            case neg =>
              have d1 : decide ((m : Int) < (b : Int)) = false := decide_eq_false (by omega)
              have d1' : decide (m < b) = false := decide_eq_false hlm
              have hme : m = b := by omega
              have HX9 : Hid (PcE B pb ⟨LP, t.bound, t.cross ++ crossN ⟨6, purl, (a : Int), (b : Int)⟩ F (i + 1), t.rows, t.next⟩ (stB cb ⟨6, purl, (a : Int), (b : Int)⟩ :: pxJ (.slice (some ⟨ug, 0, none⟩) N uc) (usedN t.next N) :: X) W5) := by
                show PcE _ _ _ _ _
                rw [crossN_next, show (⟨6, purl, (a : Int), (b : Int)⟩ : Stc).b.toNat = b from rfl, ← List.append_assoc]; have e := HX8.out; rw [hme] at e; exact e
              clear HX8 hme
              go_wp2
              go_roundw
              case rel => exact ⟨i + 1, by go_num, by omega, HX9.out, HB8.out⟩
              case measure => simp [intOf]; omega
            case pos =>
              have d1 : decide ((m : Int) < (b : Int)) = true := decide_eq_true (by omega)
              have d1' : decide (m < b) = true := decide_eq_true hlm
              have hF5 := HFl.out
              have hB8 : B ≤ W5.heap.size := Nat.le_trans hB HB8.out.size
              obtain ⟨x, hx⟩ : ∃ x : Int, x = ((F + b + i : Nat) : Int) := ⟨_, rfl⟩
              obtain ⟨z, hz⟩ : ∃ z : Int, z = ((F + m : Nat) : Int) := ⟨_, rfl⟩
              obtain ⟨fb, hfb⟩ : ∃ z : Int, z = (F : Int) + (b : Int) := ⟨_, rfl⟩
              have hF6 : F ≤ 50000 := hF5
              have hw1 : IntKind.i64.wrap ((F : Int) + (b : Int)) = fb := by rw [hfb]; exact IntWalk.i64_in _ (by omega)
              have hw2 : IntKind.i64.wrap (fb + (i : Int)) = x := by rw [hfb, hx, Int.natCast_add, Int.natCast_add]; exact IntWalk.i64_in _ (by omega)
              have hw3 : IntKind.i64.wrap ((F : Int) + (m : Int)) = z := by rw [hz, Int.natCast_add]; exact IntWalk.i64_in _ (by omega)
              have hcp : crossP ⟨6, purl, (a : Int), (b : Int)⟩ F i m = (x, z) := by
                rw [hx, hz]
                unfold crossP
                simp
              have hcl8 : (t.cross ++ crossN ⟨6, purl, (a : Int), (b : Int)⟩ F i ++ crossI ⟨6, purl, (a : Int), (b : Int)⟩ F i m).length ≤ 100000 := by
                rw [List.length_append, List.length_append, crossN_len, crossI_len]
                have h1 : (⟨6, purl, (a : Int), (b : Int)⟩ : Stc).b.toNat = b := rfl
                rw [h1]
                have : i * b ≤ 6 * 6 := Nat.mul_le_mul (by omega) (by omega)
                omega
              have hcx := crossI_next ⟨6, purl, (a : Int), (b : Int)⟩ F i m
              rw [hcp] at hcx
              clear hF5 hF6 hfb hx hz hcp
              go_upto_region 42 with fail
              obtain ⟨vL, vB, vC, vR, vs, hP⟩ := HX8.out
              obtain ⟨a8, c8, rfl⟩ := hP.forms.2.2.1
              obtain ⟨-, -, y2, -⟩ := hP.cells
              obtain ⟨A', c', w', hr, hf, c2', hQ, hb⟩ := hP.pushX hB8 hcl8 (x, z)
              simp only [List.append_assoc] at hQ
              rw [← hcx] at hQ
              simp only [← List.append_assoc] at hQ
              have HQ := Lib.hid (And.intro hQ (HB8.out.trans hb))
              obtain ⟨cl, hcl'⟩ : ∃ cl, cl = (t.cross ++ crossN ⟨6, purl, (a : Int), (b : Int)⟩ F i ++ crossI ⟨6, purl, (a : Int), (b : Int)⟩ F i m).length := ⟨_, rfl⟩
              simp only [← hcl'] at hr y2 c2' HQ
              clear hQ hb hP hcl8 HX8 hcl' hcx hw1 hw2 hw3 x0 x1 x2 x3
              go_wp2_with (at_builtin; refine wpList_append_run _ rfl _ _ _ _ rfl _ _ (by rfl) (by rfl) hr ?_)
              go_roundw
              case rel => exact ⟨m + 1, by go_num, by omega, ⟨_, _, _, _, _, HQ.out.1⟩, HQ.out.2⟩
              case measure => simp [intOf]; omega
set_option maxHeartbeats 4000000 in
theorem rcell7 (B pb : Nat) (t : Pw) (row k : Int) (s : Stc) (hs : s.ok = true) (hk : s.kind = 7) (uv : Value) (X : List Own) (hat : t.next + (usesS s).toNat ≤ t.lp.length) (hl : t.lp.length ≤ 50000) (hcl : t.cross.length ≤ 50000) (w : World) (h : PcE B pb t (pxJ uv (usedN t.next (usesS s).toNat) :: X) w) (hB : B ≤ w.heap.size) :
    Calls Tryz.prog 37 #[.pointer (some ⟨pb, 0, none⟩), .int .i64 row, .int .i64 k, s.val, uv] w fun e w' => ClPost B pb (stepC row k s t) (pxJ uv (usedN t.next (usesS s).toNat) :: X) w e w' := by
  have hK := stc_k hs
  obtain ⟨kind, purl, sa, sb⟩ := s
  obtain rfl : kind = 7 := hk
  have hal := al_t w (.cells #[.int .u8 7, .bool purl, .int .i64 sa, .int .i64 sb] 51)
  have HX : Hid (PcE B pb t (stB w.heap.size ⟨7, purl, sa, sb⟩ :: pxJ uv (usedN t.next (usesS ⟨7, purl, sa, sb⟩).toNat) :: X) (w.alloc (.cells #[.int .u8 7, .bool purl, .int .i64 sa, .int .i64 sb] 51)) ∧ Below B w (w.alloc (.cells #[.int .u8 7, .bool purl, .int .i64 sa, .int .i64 sb] 51))) := by
    obtain ⟨vL, vB, vC, vR, vs, h⟩ := h
    exact ⟨⟨vL, vB, vC, vR, vs, h.add hal hB (bxT_new w _ _)⟩, hal.mono hB⟩
  obtain ⟨a0, c0, g0⟩ := HX.out.1.cells
  obtain ⟨x0, -⟩ := stB_at (HX.out.1.mem List.mem_cons_self)
  obtain ⟨cb, hcb⟩ : ∃ cb, cb = w.heap.size := ⟨_, rfl⟩
  obtain ⟨n0, hn0⟩ : ∃ n0, n0 = t.lp.length := ⟨_, rfl⟩
  rw [← hn0] at g0
  clear h hal
  show Calls Tryz.prog 37 #[_, _, _, .agg #[.int .u8 7, .bool purl, .int .i64 sa, .int .i64 sb], _] w _
  go_enter Tryz.func37, Tryz.ntmps37
  go_upto_region 3 with fail
  refine abs_world (Q := fun W => Code.wp _ _ _ _ W) (F := fun W => PcE B pb t (stB w.heap.size ⟨7, purl, sa, sb⟩ :: pxJ uv (usedN t.next (usesS ⟨7, purl, sa, sb⟩).toNat) :: X) W ∧ Below B w W) _ HX.out ?_
  clear HX g0 x0
  rw [← hcb]
  rintro W1 ⟨h1, hb1⟩
  have hB1 : B ≤ W1.heap.size := Nat.le_trans hB hb1.size
  have HP1 := Lib.hid h1
  have HB1 := Lib.hid hb1
  clear hb1 hcb
  obtain ⟨a1, a2, b1, b2⟩ := hK.cable (by simp)
  simp only at a1 a2 b1 b2
  obtain ⟨a, rfl⟩ : ∃ n : Nat, sa = (n : Int) := ⟨sa.toNat, by omega⟩
  obtain ⟨b, rfl⟩ : ∃ n : Nat, sb = (n : Int) := ⟨sb.toNat, by omega⟩
  have ha1 : 1 ≤ a ∧ a ≤ 6 := by omega
  have hb1' : 1 ≤ b ∧ b ≤ 6 := by omega
  obtain ⟨N, hN⟩ : ∃ N, N = a + b := ⟨_, rfl⟩
  have hu : (usesS ⟨7, purl, (a : Int), (b : Int)⟩).toNat = N := by rw [hK.uses, hN]; simp; omega
  rw [hu] at h1 HP1 hat
  have HSt : Hid (stepC row k ⟨7, purl, (a : Int), (b : Int)⟩ t = ⟨t.lp ++ cabL row k purl t.next a b N, t.bound, t.cross ++ crossN ⟨7, purl, (a : Int), (b : Int)⟩ t.lp.length a, t.rows, t.next + N⟩) := by
    show _ = _
    unfold stepC
    rw [hu, hN, newsL_cab (by simp) rfl rfl]
    unfold boundL crossL
    simp
  obtain ⟨ug, uc, rfl, -⟩ := pxJ_at (h1.mem (List.mem_cons_of_mem _ List.mem_cons_self)) (usedN_at (a := t.next) (n := N) (i := 0) (by omega)) (usedN_len _ _)
  have HX1 : Hid (PcE B pb ⟨t.lp ++ cabL row k purl t.next a b 0, t.bound, t.cross, t.rows, t.next⟩ (stB cb ⟨7, purl, (a : Int), (b : Int)⟩ :: pxJ (.slice (some ⟨ug, 0, none⟩) N uc) (usedN t.next N) :: X) W1) := by
    show PcE _ _ _ _ _
    rw [show cabL row k purl t.next a b 0 = [] from rfl, List.append_nil]
    exact h1
  have hwab : IntKind.i64.wrap ((a : Int) + (b : Int)) = (N : Int) := by rw [hN, Int.natCast_add]; exact IntWalk.i64_in _ (by omega)
  have HNe := Lib.hid hN
  have HN12 : Hid (1 ≤ N ∧ N ≤ 12) := by show _ ∧ _; omega
  obtain ⟨F, hF⟩ : ∃ F, F = t.lp.length := ⟨_, rfl⟩
  have HFe := Lib.hid hF
  have HFl : Hid (F ≤ 50000) := by show _ ≤ _; omega
  rw [← hF]
  clear h1 HP1 a1 a2 b1 b2 hN hF
  go_wp2
  go_loopw [15] (fun s15 wr => ∃ i : Nat, s15 = .int .i64 (i : Int) ∧ i ≤ N ∧ Hid (PcE B pb ⟨t.lp ++ cabL row k purl t.next a b i, t.bound, t.cross, t.rows, t.next⟩ (stB cb ⟨7, purl, (a : Int), (b : Int)⟩ :: pxJ (.slice (some ⟨ug, 0, none⟩) N uc) (usedN t.next N) :: X) wr) ∧ Hid (Below B w wr)) (fun s15 _ => N - (intOf s15).toNat)
  case atStart => exact ⟨0, rfl, Nat.zero_le _, HX1.out, HB1.out⟩
  case round =>
    obtain ⟨i, rfl, hi, HX2, HB2⟩ := hrel
    clear HX1 HB1
    obtain ⟨W2, hW2⟩ : ∃ x : World, x = wr := ⟨_, rfl⟩
    rw [← hW2] at HX2 HB2 ⊢
    clear hW2
    have hB2 : B ≤ W2.heap.size := Nat.le_trans hB HB2.out.size
    obtain ⟨x0, x1, x2, x3⟩ := stB_at (HX2.out.mem List.mem_cons_self)
    by_cases hlt : i < N
    case pos =>
      have d1 : decide ((i : Int) < (N : Int)) = true := decide_eq_true (by omega)
      have d1' : decide (i < N) = true := decide_eq_true hlt
      obtain ⟨rm, hrm⟩ : ∃ rm : Nat, rm = (a + i) % (a + b) := ⟨_, rfl⟩
      have hrm2 : rm < N := by rw [hrm, HNe.out]; exact Nat.mod_lt _ (by omega)
      have u0 := pxJ_cell (HX2.out.mem (List.mem_cons_of_mem _ List.mem_cons_self)) (usedN_at (a := t.next) hrm2) (usedN_len _ _)
      have hcn := cabL_next row k purl t.next a b i
      rw [← hrm] at hcn
      obtain ⟨y, hy⟩ : ∃ y : Int, y = ((t.next + rm : Nat) : Int) := ⟨_, rfl⟩
      rw [← hy] at u0 hcn
      have hlit := HX2.out.lit hB2 y
      have hdr : Below (W2.alloc (.cells #[.int .i64 y] 3)).heap.size (W2.alloc (.cells #[.int .i64 y] 3)) (W2.alloc (.cells #[.int .i64 y] 3)).drew := Below.drew (Below.refl _ _)
      have hBd : Below B W2 (W2.alloc (.cells #[.int .i64 y] 3)).drew := hlit.2.trans (hdr.mono (Nat.le_trans hB2 hlit.2.size))
      have hc := rput_any B pb _ row k (some ⟨W2.heap.size, 0, none⟩) 1 1 [y] rfl purl _ _ (hlit.1.to hdr) (Nat.le_trans hB2 hBd.size) (by simp only [List.length_append, cabL_len]; have := HFe.out; have := HFl.out; have := HN12.out; omega)
      simp only [List.append_assoc, ← hcn] at hc
      have HC := Lib.hid hc
      have HBd := Lib.hid hBd
      have lu := lt_of_cell u0
      have lx := lt_of_cell x1
      have hal1 := al_t W2 (.cells #[.int .i64 y] 3)
      have HKp : Hid (∀ W', Below W2.heap.size W2 W' → W'.cell? ⟨ug, rm, none⟩ = some (.int .i64 y) ∧ W'.cell? ⟨cb, 1, none⟩ = some (.bool purl) ∧ W'.cell? ⟨cb, 2, none⟩ = some (.int .i64 (a : Int)) ∧ W'.cell? ⟨cb, 3, none⟩ = some (.int .i64 (b : Int))) := fun W' hb => ⟨(bcell hb lu _).trans u0, (bcell hb lx _).trans x1, (bcell hb lx _).trans x2, (bcell hb lx _).trans x3⟩
      have HKq : Hid (∀ t' W', PcE B pb t' (stB cb ⟨7, purl, (a : Int), (b : Int)⟩ :: pxJ (.slice (some ⟨ug, 0, none⟩) N uc) (usedN t.next N) :: X) W' → W'.cell? ⟨ug, rm, none⟩ = some (.int .i64 y) ∧ W'.cell? ⟨cb, 1, none⟩ = some (.bool purl) ∧ W'.cell? ⟨cb, 2, none⟩ = some (.int .i64 (a : Int)) ∧ W'.cell? ⟨cb, 3, none⟩ = some (.int .i64 (b : Int))) := fun t' W' h => by
        obtain ⟨-, y1, y2, y3⟩ := stB_at (h.mem List.mem_cons_self)
        refine ⟨?_, y1, y2, y3⟩
        rw [hy]
        exact pxJ_cell (h.mem (List.mem_cons_of_mem _ List.mem_cons_self)) (usedN_at (a := t.next) hrm2) (usedN_len _ _)
      have HK1 := Lib.hid (HKp.out _ (Below.drew (Below.refl _ _)))
      have HK2 := Lib.hid (HKp.out _ (Below.drew hal1))
      have hwai : IntKind.i64.wrap ((a : Int) + (i : Int)) = ((a + i : Nat) : Int) := by rw [Int.natCast_add]; exact IntWalk.i64_in _ (by have := HN12.out; omega)
      obtain ⟨ai, hai⟩ : ∃ ai, ai = a + i := ⟨_, rfl⟩
      have hrem : Int.tmod (ai : Int) (N : Int) = (rm : Int) := by
        rw [Int.tmod_eq_emod_of_nonneg (by omega), hrm, HNe.out, hai, Int.natCast_emod]
      rw [← hai] at hwai
      have hn0 : ((N : Int) == 0) = false := beq_eq_false_iff_ne.2 (by have := HN12.out; omega)
      have hn00 : ¬ (N : Int) = 0 := by have := HN12.out; omega
      have hn01 : ¬ N = 0 := by have := HN12.out; omega
      have hn02 : (N == 0) = false := beq_eq_false_iff_ne.2 hn01
      have hr1 : (rm : Int) < (N : Int) := by omega
      have hr0 : (0 : Int) ≤ (rm : Int) := by omega
      clear hlit hdr hBd hc hcn HX2 hal1 lu lx u0 hrm hai hy
      go_upto_region 32 with fail
      go_region_held3 (fun W' => W'.cell? ⟨ug, rm, none⟩ = some (.int .i64 y) ∧ W'.cell? ⟨cb, 1, none⟩ = some (.bool purl) ∧ W'.cell? ⟨cb, 2, none⟩ = some (.int .i64 (a : Int)) ∧ W'.cell? ⟨cb, 3, none⟩ = some (.int .i64 (b : Int)))
        (first | (with_reducible exact HK1.out) | (with_reducible exact HK2.out) | exact HKq.out _ _ (by assumption) | fail)
        (first | (go_at_call 35; refine HC.out.mono ?_; rintro e w2 ⟨rfl, hp2, hb2⟩))
      have HQ := Lib.hid (And.intro hp2 (HB2.out.trans (HBd.out.trans hb2)))
      clear hp2 hb2 HC HKp HKq HK1 HK2 x0 x1 x2 x3 hwai hrem hr1 hr0 hrm2
      go_wp2
      go_roundw
      case rel => exact ⟨i + 1, by go_num, by omega, HQ.out.1, HQ.out.2⟩
      case measure => simp [intOf]; omega
    case neg =>
      have d1 : decide ((i : Int) < (N : Int)) = false := decide_eq_false (by omega)
      have d1' : decide (i < N) = false := decide_eq_false hlt
      have hie : i = N := by omega
      have HX3 : Hid (∃ LP, LP = t.lp ++ cabL row k purl t.next a b N ∧ PcE B pb ⟨LP, t.bound, t.cross ++ crossN ⟨7, purl, (a : Int), (b : Int)⟩ F 0, t.rows, t.next⟩ (stB cb ⟨7, purl, (a : Int), (b : Int)⟩ :: pxJ (.slice (some ⟨ug, 0, none⟩) N uc) (usedN t.next N) :: X) W2) := ⟨_, rfl, by
        rw [show crossN ⟨7, purl, (a : Int), (b : Int)⟩ F 0 = [] from rfl, List.append_nil]; have e := HX2.out; rw [hie] at e; exact e⟩
      obtain ⟨LP, hLP, hX3⟩ := HX3.out
      have HLP := Lib.hid hLP
      have HX4 := Lib.hid hX3
      clear HX2 HX3 hie hLP hX3
      go_upto_region 33 with fail
      refine abs_world (Q := fun W => Code.wp _ _ _ _ W) (F := fun W => PcE B pb ⟨LP, t.bound, t.cross ++ crossN ⟨7, purl, (a : Int), (b : Int)⟩ F 0, t.rows, t.next⟩ (stB cb ⟨7, purl, (a : Int), (b : Int)⟩ :: pxJ (.slice (some ⟨ug, 0, none⟩) N uc) (usedN t.next N) :: X) W ∧ Below B w W) _ ⟨HX4.out, HB2.out⟩ ?_
      clear HX4 HB2 x0 x1 x2 x3 hwab d1 d1' hlt hi
      rintro W3 ⟨h3, hb3⟩
      have HX5 := Lib.hid h3
      have HB5 := Lib.hid hb3
      clear h3 hb3
      go_wp2
      go_loopw [16] (fun s16 wr => ∃ i : Nat, s16 = .int .i64 (i : Int) ∧ i ≤ a ∧ Hid (PcE B pb ⟨LP, t.bound, t.cross ++ crossN ⟨7, purl, (a : Int), (b : Int)⟩ F i, t.rows, t.next⟩ (stB cb ⟨7, purl, (a : Int), (b : Int)⟩ :: pxJ (.slice (some ⟨ug, 0, none⟩) N uc) (usedN t.next N) :: X) wr) ∧ Hid (Below B w wr)) (fun s16 _ => a - (intOf s16).toNat)
      case atStart => exact ⟨0, rfl, Nat.zero_le _, HX5.out, HB5.out⟩
      case round =>
        obtain ⟨i, rfl, hi, HX6, HB6⟩ := hrel
        clear HX5 HB5
        obtain ⟨W4, hW4⟩ : ∃ x : World, x = wr := ⟨_, rfl⟩
        rw [← hW4] at HX6 HB6 ⊢
        clear hW4
        obtain ⟨x0, x1, x2, x3⟩ := stB_at (HX6.out.mem List.mem_cons_self)
        by_cases hlt : i < a
        case neg =>
          have d1 : decide ((i : Int) < (a : Int)) = false := decide_eq_false (by omega)
          have d1' : decide (i < a) = false := decide_eq_false hlt
          have hie : i = a := by omega
          have HX7 : Hid (PcE B pb ⟨t.lp ++ cabL row k purl t.next a b N, t.bound, t.cross ++ crossN ⟨7, purl, (a : Int), (b : Int)⟩ t.lp.length a, t.rows, t.next⟩ (stB cb ⟨7, purl, (a : Int), (b : Int)⟩ :: pxJ (.slice (some ⟨ug, 0, none⟩) N uc) (usedN t.next N) :: X) W4) := by
            show PcE _ _ _ _ _
            have e := HX6.out; rw [hie, HLP.out, HFe.out] at e; exact e
          clear HX6 hie
          go_wp2
          refine bodyPost_end (results_none rfl _ _ _) rfl ?_
          (try rw [hu])
          exact ClPost.mk' HSt.out HX7.out HB6.out
        case pos =>
          have d1 : decide ((i : Int) < (a : Int)) = true := decide_eq_true (by omega)
          have d1' : decide (i < a) = true := decide_eq_true hlt
          have HX7 : Hid (PcE B pb ⟨LP, t.bound, t.cross ++ crossN ⟨7, purl, (a : Int), (b : Int)⟩ F i ++ crossI ⟨7, purl, (a : Int), (b : Int)⟩ F i 0, t.rows, t.next⟩ (stB cb ⟨7, purl, (a : Int), (b : Int)⟩ :: pxJ (.slice (some ⟨ug, 0, none⟩) N uc) (usedN t.next N) :: X) W4) := by
            show PcE _ _ _ _ _
            rw [show crossI ⟨7, purl, (a : Int), (b : Int)⟩ F i 0 = [] from rfl, List.append_nil]; exact HX6.out
          clear HX6
          go_wp2
          go_loopw [17] (fun s17 wr => ∃ m : Nat, s17 = .int .i64 (m : Int) ∧ m ≤ b ∧ Hid (PcE B pb ⟨LP, t.bound, t.cross ++ crossN ⟨7, purl, (a : Int), (b : Int)⟩ F i ++ crossI ⟨7, purl, (a : Int), (b : Int)⟩ F i m, t.rows, t.next⟩ (stB cb ⟨7, purl, (a : Int), (b : Int)⟩ :: pxJ (.slice (some ⟨ug, 0, none⟩) N uc) (usedN t.next N) :: X) wr) ∧ Hid (Below B w wr)) (fun s17 _ => b - (intOf s17).toNat)
          case atStart => exact ⟨0, rfl, Nat.zero_le _, HX7.out, HB6.out⟩
          case round =>
            obtain ⟨m, rfl, hm, HX8, HB8⟩ := hrel
            clear HX7 HB6 x0 x1 x2 x3 d1 d1'
            obtain ⟨W5, hW5⟩ : ∃ x : World, x = wr := ⟨_, rfl⟩
            rw [← hW5] at HX8 HB8 ⊢
            clear hW5
            obtain ⟨x0, x1, x2, x3⟩ := stB_at (HX8.out.mem List.mem_cons_self)
            by_cases hlm : m < b
            case neg =>
              have d1 : decide ((m : Int) < (b : Int)) = false := decide_eq_false (by omega)
              have d1' : decide (m < b) = false := decide_eq_false hlm
              have hme : m = b := by omega
              have HX9 : Hid (PcE B pb ⟨LP, t.bound, t.cross ++ crossN ⟨7, purl, (a : Int), (b : Int)⟩ F (i + 1), t.rows, t.next⟩ (stB cb ⟨7, purl, (a : Int), (b : Int)⟩ :: pxJ (.slice (some ⟨ug, 0, none⟩) N uc) (usedN t.next N) :: X) W5) := by
                show PcE _ _ _ _ _
                rw [crossN_next, show (⟨7, purl, (a : Int), (b : Int)⟩ : Stc).b.toNat = b from rfl, ← List.append_assoc]; have e := HX8.out; rw [hme] at e; exact e
              clear HX8 hme
              go_wp2
              go_roundw
              case rel => exact ⟨i + 1, by go_num, by omega, HX9.out, HB8.out⟩
              case measure => simp [intOf]; omega
            case pos =>
              have d1 : decide ((m : Int) < (b : Int)) = true := decide_eq_true (by omega)
              have d1' : decide (m < b) = true := decide_eq_true hlm
              have hF5 := HFl.out
              have hB8 : B ≤ W5.heap.size := Nat.le_trans hB HB8.out.size
              obtain ⟨x, hx⟩ : ∃ x : Int, x = ((F + b + i : Nat) : Int) := ⟨_, rfl⟩
              obtain ⟨z, hz⟩ : ∃ z : Int, z = ((F + m : Nat) : Int) := ⟨_, rfl⟩
              obtain ⟨fb, hfb⟩ : ∃ z : Int, z = (F : Int) + (b : Int) := ⟨_, rfl⟩
              have hF6 : F ≤ 50000 := hF5
              have hw1 : IntKind.i64.wrap ((F : Int) + (b : Int)) = fb := by rw [hfb]; exact IntWalk.i64_in _ (by omega)
              have hw2 : IntKind.i64.wrap (fb + (i : Int)) = x := by rw [hfb, hx, Int.natCast_add, Int.natCast_add]; exact IntWalk.i64_in _ (by omega)
              have hw3 : IntKind.i64.wrap ((F : Int) + (m : Int)) = z := by rw [hz, Int.natCast_add]; exact IntWalk.i64_in _ (by omega)
              have hcp : crossP ⟨7, purl, (a : Int), (b : Int)⟩ F i m = (z, x) := by
                rw [hx, hz]
                unfold crossP
                simp
              have hcl8 : (t.cross ++ crossN ⟨7, purl, (a : Int), (b : Int)⟩ F i ++ crossI ⟨7, purl, (a : Int), (b : Int)⟩ F i m).length ≤ 100000 := by
                rw [List.length_append, List.length_append, crossN_len, crossI_len]
                have h1 : (⟨7, purl, (a : Int), (b : Int)⟩ : Stc).b.toNat = b := rfl
                rw [h1]
                have : i * b ≤ 6 * 6 := Nat.mul_le_mul (by omega) (by omega)
                omega
              have hcx := crossI_next ⟨7, purl, (a : Int), (b : Int)⟩ F i m
              rw [hcp] at hcx
              clear hF5 hF6 hfb hx hz hcp
              go_upto_region 42 with fail
              obtain ⟨vL, vB, vC, vR, vs, hP⟩ := HX8.out
              obtain ⟨a8, c8, rfl⟩ := hP.forms.2.2.1
              obtain ⟨-, -, y2, -⟩ := hP.cells
              obtain ⟨A', c', w', hr, hf, c2', hQ, hb⟩ := hP.pushX hB8 hcl8 (z, x)
              simp only [List.append_assoc] at hQ
              rw [← hcx] at hQ
              simp only [← List.append_assoc] at hQ
              have HQ := Lib.hid (And.intro hQ (HB8.out.trans hb))
              obtain ⟨cl, hcl'⟩ : ∃ cl, cl = (t.cross ++ crossN ⟨7, purl, (a : Int), (b : Int)⟩ F i ++ crossI ⟨7, purl, (a : Int), (b : Int)⟩ F i m).length := ⟨_, rfl⟩
              simp only [← hcl'] at hr y2 c2' HQ
              clear hQ hb hP hcl8 HX8 hcl' hcx hw1 hw2 hw3 x0 x1 x2 x3
              go_wp2_with (at_builtin; refine wpList_append_run _ rfl _ _ _ _ rfl _ _ (by rfl) (by rfl) hr ?_)
              go_roundw
              case rel => exact ⟨m + 1, by go_num, by omega, ⟨_, _, _, _, _, HQ.out.1⟩, HQ.out.2⟩
              case measure => simp [intOf]; omega
/-- The reference's cell, any valid cell. -/
theorem rcell_any (B pb : Nat) (t : Pw) (row k : Int) (s : Stc) (hs : s.ok = true) (uv : Value) (X : List Own) (hat : t.next + (usesS s).toNat ≤ t.lp.length) (hl : t.lp.length ≤ 50000) (hbl : t.bound.length ≤ 50000) (hcl : t.cross.length ≤ 50000) (w : World) (h : PcE B pb t (pxJ uv (usedN t.next (usesS s).toNat) :: X) w) (hB : B ≤ w.heap.size) :
    Calls Tryz.prog 37 #[.pointer (some ⟨pb, 0, none⟩), .int .i64 row, .int .i64 k, s.val, uv] w fun e w' => ClPost B pb (stepC row k s t) (pxJ uv (usedN t.next (usesS s).toNat) :: X) w e w' := by
  have hK := stc_k hs
  have h1 := hK.lo
  have h2 := hK.hi
  rcases (by omega : s.kind = 1 ∨ s.kind = 2 ∨ s.kind = 3 ∨ s.kind = 4 ∨ s.kind = 5 ∨ s.kind = 6 ∨ s.kind = 7 ∨ s.kind = 8 ∨ s.kind = 9 ∨ s.kind = 10) with e | e | e | e | e | e | e | e | e | e
  · exact rcell1 B pb t row k s hs e uv X hat hl w h hB
  · exact rcell2 B pb t row k s hs e uv X hat hl w h hB
  · exact rcell3 B pb t row k s hs e uv X hat hl w h hB
  · exact rcell4 B pb t row k s hs e uv X hat hl w h hB
  · exact rcell5 B pb t row k s hs e uv X hat hl w h hB
  · exact rcell6 B pb t row k s hs e uv X hat hl hcl w h hB
  · exact rcell7 B pb t row k s hs e uv X hat hl hcl w h hB
  · exact rcell8 B pb t row k s hs e uv X hat hl w h hB
  · exact rcell9 B pb t row k s hs e uv X hat hl w h hB
  · exact rcell10 B pb t row k s hs e uv X hat hbl w h hB
end Go.Proofs.YtbnddpknejgmhaaGreat
