/- TransferFew, walked. -/
import Derived.Test.YtflpikickbellaaKG11
import Derived.Test.YtflpikickbellaaKAl
import Derived.Test.YtflpikickbellaaKG9
import Derived.Test.YtflpikickbellaaKG13
import Derived.Test.YtflpikickbellaaKPlans32
import Derived.Deep.RegionHeld3
import Derived.BigQuiet
namespace Go.Proofs.Ytflpikickbellaa
open Go.RowKit Go.Shelf Go.Sort
set_option maxRecDepth 100000

theorem few_pl {s : Sft} (h : (plE s).2 = 0) : (ordE s).2 = 0 ∧ (plE s).1 = plnI s (ordE s).1 := by
  have h0 : (plndE s).2 = 0 := by
    apply Classical.byContradiction
    intro hc
    unfold plE at h
    rw [if_pos hc] at h
    exact hc h
  obtain ⟨h1, -⟩ := plndE_l h0
  constructor
  · unfold plndE at h0
    split at h0
    · rename_i h2; exact absurd h0 h2
    · rename_i h2; simpa using h2
  · unfold plE
    rw [if_neg (by rw [h0]; simp), h1]
theorem opC_take {o : Int} {l : List Ins} {k : Nat} {i : Ins} (h : l[k]? = some i) : opC o (l.take (k + 1)) = opC o (l.take k) + if i.op = o then 1 else 0 := by
  rw [List.take_add_one, h, opC_app]
  show _ + opC o [i] = _
  unfold opC
  rw [List.countP_singleton]
  simp only [decide_eq_true_eq]
theorem stC_go {s : Sft} {l : List Int} {k : Nat} {i : Nat} (h : l[k]? = some (i : Int)) (hk : k = 0 ∨ ∃ j : Nat, l[k - 1]? = some (j : Int) ∧ offN s i ≠ offN s j) : stC s l (k + 1) = stC s l k + 1 := by
  rw [stC_next, if_pos]
  rcases hk with h0 | ⟨j, hj, hn⟩
  · exact Or.inl h0
  · refine Or.inr ?_
    rw [List.getD_eq_getElem?_getD, h, List.getD_eq_getElem?_getD, hj]
    exact hn
theorem stC_eq {s : Sft} {l : List Int} {k : Nat} {i j : Nat} (h : l[k]? = some (i : Int)) (hk : k ≠ 0) (hj : l[k - 1]? = some (j : Int)) (hn : offN s i = offN s j) : stC s l (k + 1) = stC s l k := by
  rw [stC_next, if_neg, Nat.add_zero]
  rintro (h0 | h1)
  · exact hk h0
  · rw [List.getD_eq_getElem?_getD, h, List.getD_eq_getElem?_getD, hj] at h1
    exact h1 hn
set_option maxHeartbeats 16000000 in
theorem few_walk (A F : Option Addr) (c fc : Nat) (s : Sft) (w : World) (hs : SlI w w.heap.size A s.to_) (hp : SlPr w w.heap.size F s.first) :
    Calls Try.prog 5 #[sftV A F c fc s] w fun e w' => e = .returned (.bool true) ∧ Below w.heap.size w w' := by
  have hb1 := al_t w (sftB A F c fc s)
  have HX : Hid (Ag w A F c fc s (w.alloc (sftB A F c fc s))) := ⟨hb1, SfBx.new c fc ⟨hs, hp⟩⟩
  have HAl := Lib.hid (alive32_any (w.alloc (sftB A F c fc s)))
  clear hb1 hs hp
  go_enter Try.func5, Try.ntmps5
  go_upto_region 2 with ((go_at_call 26; refine HAl.out.mono ?_; rintro e w1 ⟨rfl, hb1⟩))
  refine abs_world (Q := fun W => Code.wp _ _ _ _ W) (F := fun W => Ag w A F c fc s W) _ (HX.out.to hb1) ?_
  clear HX HAl hb1
  rintro W1 hA1
  obtain ⟨g0, g1⟩ := And.intro hA1.bx.c0 hA1.bx.c1
  have HA1 := Lib.hid hA1
  have HGr := Lib.hid (rgreat_any A F c fc s W1 hA1.bx.at_)
  clear hA1
  cases hgr : grtB s with
  | true =>
    rw [hgr] at HGr
    clear hgr
    go_wp2_with ((go_at_call 8; refine HGr.out.mono ?_; rintro e w2 ⟨rfl, hb2⟩))
    go_ret
    exact ⟨rfl, HA1.out.lo.trans (hb2.mono HA1.out.lo.size)⟩
  | false =>
  rw [hgr] at HGr
  obtain ⟨h50, h100⟩ := great_no hgr
  clear hgr
  have HC2 : Hid (∀ W, Below W1.heap.size W1 W → (W.cell? ⟨w.heap.size, 0, none⟩ = some (.slice A s.to_.length c) ∧ W.cell? ⟨w.heap.size, 1, none⟩ = some (.slice F s.first.length fc)) ∧ Calls Try.prog 16 #[sftV A F c fc s] W fun e w' => e = .returned (.int .i64 (sftE s)) ∧ Below W.heap.size W w') := fun W h => ⟨⟨(HA1.out.to h).bx.c0, (HA1.out.to h).bx.c1⟩, rchk_any A F c fc s (by omega) (by omega) W (HA1.out.to h).bx.at_⟩
  by_cases hE : sftE s = 0
  case neg =>
    have d0 : (sftE s != 0) = true := by simpa using hE
    obtain ⟨x, hx⟩ : ∃ x, x = sftE s := ⟨_, rfl⟩
    rw [← hx] at HC2 d0
    clear hE hx
    go_wp2_with (first
      | (go_at_call 8; refine HGr.out.mono ?_; rintro e w2 ⟨rfl, hb2⟩; obtain ⟨q0, q1⟩ := (HC2.out w2 hb2).1)
      | (go_at_call 16; refine (HC2.out w2 hb2).2.mono ?_; rintro e w3 ⟨rfl, hb3⟩))
    go_ret
    exact ⟨rfl, HA1.out.lo.trans ((hb2.trans (hb3.mono hb2.size)).mono HA1.out.lo.size)⟩
  case pos =>
  have HS := Lib.hid (sftE_ok hE)
  rw [hE] at HC2
  clear hE
  go_upto_region 4 with (first
    | (go_at_call 8; refine HGr.out.mono ?_; rintro e w2 ⟨rfl, hb2⟩; obtain ⟨q0, q1⟩ := (HC2.out w2 hb2).1)
    | (go_at_call 16; refine (HC2.out w2 hb2).2.mono ?_; rintro e w3 ⟨rfl, hb3⟩))
  refine abs_world (Q := fun W => Code.wp _ _ _ _ W) (F := fun W => Ag w A F c fc s W) _ (HA1.out.to (hb2.trans (hb3.mono hb2.size))) ?_
  clear HGr hb2 hb3 HA1 HC2 g0 g1 q0 q1
  rintro W2 hA2
  obtain ⟨g0, g1⟩ := And.intro hA2.bx.c0 hA2.bx.c1
  have HA := Lib.hid hA2
  have HP1 : Hid (∃ y, y = plE s) := ⟨_, rfl⟩
  have hpl := pln_len s h50
  have hol := ord_len s h50
  have HPl : Hid (Calls Try.prog 11 #[sftV A F c fc s] W2 fun e w' => ∃ a k, e = .returned (.tuple #[.slice a (plE s).1.length k, .int .i64 (plE s).2]) ∧ SlX w' w'.heap.size a (plE s).1 ∧ Below W2.heap.size W2 w') := pplan_any A F c fc s (by omega) (by omega) W2 hA2.bx.at_
  have HOr : Hid (∀ W, Ag w A F c fc s W → Calls Try.prog 9 #[sftV A F c fc s] W fun e w' => ∃ a k, e = .returned (.tuple #[.slice a (ordE s).1.length k, .int .i64 (ordE s).2]) ∧ SlI w' w'.heap.size a (ordE s).1 ∧ Below W.heap.size W w') := fun W h => porder_any A F c fc s (by omega) (by omega) W h.bx.at_
  have HFc : Hid ((plE s).2 = 0 → (ordE s).2 = 0 ∧ OrdF s (ordE s).1 ∧ opC 7 (plE s).1 = 2 * (ordE s).1.length ∧ opC 7 (plE s).1 + opC 8 (plE s).1 = (plE s).1.length ∧ opC 8 (plE s).1 ≤ stC s (ordE s).1 (ordE s).1.length + 1) := fun h => by
    obtain ⟨h1, h2⟩ := few_pl h
    have h3 := ordE_F h1
    have h4 := few_plan h3
    rw [← h2] at h4
    exact ⟨h1, h3, h4⟩
  have HM : Hid (∀ (i : Nat) (W : World), i < s.n → Ag w A F c fc s W → Calls Try.prog 27 #[sftV A F c fc s, .int .i64 (i : Int)] W fun e w' => e = .returned (.bool (movedN s i)) ∧ Below W.heap.size W w') := fun i W hi h => rmoved_any A F c fc s HS.out (by omega) i hi W h.bx.at_
  obtain ⟨⟨ol, ox⟩, hoe⟩ : ∃ y, y = ordE s := ⟨_, rfl⟩
  obtain ⟨⟨pl, px⟩, hpe⟩ : ∃ y, y = plE s := ⟨_, rfl⟩
  rw [← hoe] at HOr hol HFc
  rw [← hpe] at HPl hpl HFc
  replace hol : ol.length ≤ 50 := hol
  replace hpl : pl.length ≤ 1000 := hpl
  clear hA2 HP1 hoe hpe h50 h100
  go_upto_region 5 with ((go_at_call 11; refine HPl.out.mono ?_; rintro e w3 ⟨a1, k1, rfl, hsl, hb⟩))
  refine abs_world (Q := fun W => Code.wp _ _ _ _ W) (F := fun W => Ag w A F c fc s W ∧ SlX W W.heap.size a1 pl) _ ⟨HA.out.to hb, hsl⟩ ?_
  clear hsl hb HA HPl g0 g1
  rintro W3 ⟨hA, h1⟩
  obtain ⟨g0, g1⟩ := And.intro hA.bx.c0 hA.bx.c1
  have HA := Lib.hid hA
  have HS1 := Lib.hid h1
  clear hA h1
  go_upto_region 6 with ((go_at_call 9; refine (HOr.out _ HA.out).mono ?_; rintro e w3 ⟨a2, k2, rfl, hsl, hb⟩))
  refine abs_world (Q := fun W => Code.wp _ _ _ _ W) (F := fun W => Ag w A F c fc s W ∧ SlX W W.heap.size a1 pl ∧ SlI W W.heap.size a2 ol) _ ⟨HA.out.to hb, (HS1.out.below hb).more hb.size, hsl⟩ ?_
  clear hsl hb HA HOr HS1 g0 g1
  rintro W ⟨hA, h1, h2⟩
  have HA := Lib.hid hA
  have HS1 := Lib.hid h1
  have HS2 := Lib.hid h2
  clear hA h1 h2
  by_cases hx : px = 0
  case neg =>
    have d0 : (px != 0) = true := by simpa using hx
    clear hx HFc
    go_wp2
    go_ret
    exact ⟨rfl, HA.out.lo⟩
  case pos =>
  obtain ⟨ho, hF, f1, f2, f3⟩ := HFc.out hx
  replace ho : ox = 0 := ho
  replace hF : OrdF s ol := hF
  replace f1 : opC 7 pl = 2 * ol.length := f1
  replace f2 : opC 7 pl + opC 8 pl = pl.length := f2
  replace f3 : opC 8 pl ≤ stC s ol ol.length + 1 := f3
  have HF := Lib.hid hF
  have HFc2 : Hid (opC 7 pl = 2 * ol.length ∧ opC 7 pl + opC 8 pl = pl.length ∧ opC 8 pl ≤ stC s ol ol.length + 1) := ⟨f1, f2, f3⟩
  subst hx ho
  clear HFc hF f1 f2 f3
  go_wp2
  go_loopw [8, 9, 11] (fun s8 s9 s11 wr => ∃ k : Nat, s11 = .int .i64 (k : Int) ∧ k ≤ pl.length ∧ s8 = .int .i64 (opC 7 (pl.take k) : Nat) ∧ s9 = .int .i64 (opC 8 (pl.take k) : Nat) ∧ Hid (W = wr)) (fun _ _ s11 _ => pl.length - (intOf s11).toNat)
  case atStart => exact ⟨0, rfl, Nat.zero_le _, rfl, rfl, rfl⟩
  case round =>
    obtain ⟨k, rfl, hk, rfl, rfl, HW⟩ := hrel
    obtain rfl := HW.out
    clear HW
    by_cases hlt : k < pl.length
    case pos =>
      obtain ⟨b, off, x, hA, -, hx, hc⟩ := HS1.out.at_ hlt
      have x0 := hc.1
      have HO7 := Lib.hid (opC_take (o := 7) hx)
      have HO8 := Lib.hid (opC_take (o := 8) hx)
      have l7 : opC 7 (pl.take k) ≤ k := Nat.le_trans List.countP_le_length (by rw [List.length_take]; omega)
      have l8 : opC 8 (pl.take k) ≤ k := Nat.le_trans List.countP_le_length (by rw [List.length_take]; omega)
      obtain ⟨m7, hm7⟩ : ∃ m, m = opC 7 (pl.take k) := ⟨_, rfl⟩
      obtain ⟨m8, hm8⟩ : ∃ m, m = opC 8 (pl.take k) := ⟨_, rfl⟩
      rw [← hm7] at HO7 l7 ⊢
      rw [← hm8] at HO8 l8 ⊢
      obtain ⟨o, ho⟩ : ∃ o, o = x.op := ⟨_, rfl⟩
      rw [← ho] at x0 HO7 HO8
      subst hA
      clear hx hc hm7 hm8 ho
      by_cases e7 : o = 7
      case pos =>
        have d7 : (o == 7) = true := by simpa using e7
        have d8 : (o == 8) = false := by rw [e7]; rfl
        have HR : Hid (opC 7 (pl.take (k + 1)) = m7 + 1 ∧ opC 8 (pl.take (k + 1)) = m8) := ⟨by rw [HO7.out, if_pos e7], by rw [HO8.out, if_neg (by omega)]; rfl⟩
        clear e7 HO7 HO8
        go_wp2
        go_roundw
        case rel => exact ⟨k + 1, by go_num, by omega, by rw [HR.out.1]; go_num, by rw [HR.out.2], by first | rfl | trivial⟩
        case measure => simp [intOf]; omega
      case neg =>
        have d7 : (o == 7) = false := by simpa using e7
        by_cases e8 : o = 8
        case pos =>
          have d8 : (o == 8) = true := by simpa using e8
          have HR : Hid (opC 7 (pl.take (k + 1)) = m7 ∧ opC 8 (pl.take (k + 1)) = m8 + 1) := ⟨by rw [HO7.out, if_neg e7]; rfl, by rw [HO8.out, if_pos e8]⟩
          clear e7 e8 HO7 HO8
          go_wp2
          go_roundw
          case rel => exact ⟨k + 1, by go_num, by omega, by rw [HR.out.1], by rw [HR.out.2]; go_num, by first | rfl | trivial⟩
          case measure => simp [intOf]; omega
        case neg =>
          have d8 : (o == 8) = false := by simpa using e8
          have HR : Hid (opC 7 (pl.take (k + 1)) = m7 ∧ opC 8 (pl.take (k + 1)) = m8) := ⟨by rw [HO7.out, if_neg e7]; rfl, by rw [HO8.out, if_neg e8]; rfl⟩
          clear e7 e8 HO7 HO8
          go_wp2
          go_roundw
          case rel => exact ⟨k + 1, by go_num, by omega, by rw [HR.out.1], by rw [HR.out.2], by first | rfl | trivial⟩
          case measure => simp [intOf]; omega
    case neg =>
    obtain rfl : k = pl.length := by omega
    rw [List.take_length]
    clear hlt hk
    obtain ⟨m7, hm7⟩ : ∃ m, m = opC 7 pl := ⟨_, rfl⟩
    obtain ⟨m8, hm8⟩ : ∃ m, m = opC 8 pl := ⟨_, rfl⟩
    rw [← hm7, ← hm8] at HFc2 ⊢
    clear hm7 hm8
    go_wp2
    go_loopw [10, 12] (fun s10 s12 wr => ∃ k : Nat, s12 = .int .i64 (k : Int) ∧ k ≤ ol.length ∧ s10 = .int .i64 (stC s ol k : Nat) ∧ Hid (Below W.heap.size W wr)) (fun _ s12 _ => ol.length - (intOf s12).toNat)
    case atStart => exact ⟨0, rfl, Nat.zero_le _, rfl, Below.refl _ _⟩
    case round =>
      obtain ⟨k, rfl, hk, rfl, HB⟩ := hrel
      by_cases hlt : k < ol.length
      case pos =>
        obtain ⟨b, off, x, hA, hbB, hx, hc⟩ := HS2.out.at_ hlt
        obtain ⟨i, hi, hin⟩ := HF.out.ok x (List.mem_of_getElem? hx)
        subst hi
        have HMv : Hid (movedN s i = true) := (HF.out.mem i hin).1 (List.mem_of_getElem? hx)
        have HKk := Lib.hid hx
        have hsl := stC_le s ol k
        have sx := HA.out.to HB.out
        have HG : Hid (∀ W', Below W.heap.size W W' → W'.cell? ⟨w.heap.size, 0, none⟩ = some (.slice A s.to_.length c) ∧ W'.cell? ⟨w.heap.size, 1, none⟩ = some (.slice F s.first.length fc) ∧ W'.cell? ⟨b, off + k, none⟩ = some (.int .i64 (i : Int)) ∧ Below W.heap.size W W') := fun W' hb => ⟨(HA.out.to hb).bx.c0, (HA.out.to hb).bx.c1, (bcell hb hbB _).trans hc, hb⟩
        have HM2 : Hid (∀ W', Below W.heap.size W W' → Calls Try.prog 27 #[sftV A F c fc s, .int .i64 (i : Int)] W' fun e w' => e = .returned (.bool true) ∧ Below W.heap.size W w') := fun W' hb => (HM.out i W' hin (HA.out.to hb)).mono fun e w' h => ⟨by rw [h.1, HMv.out], hb.trans (h.2.mono hb.size)⟩
        have HSt : Hid (∀ V, Below W.heap.size W V → ∃ bt ot, A = some ⟨bt, ot, none⟩ ∧ V.cell? ⟨bt, ot + i, none⟩ = some (.int .i64 (s.to_.getD i 0))) := fun V hb => (HA.out.to hb).bx.to_at hin
        have HSt2 : Hid (∀ (j : Nat), j < s.n → ∀ V, Below W.heap.size W V → ∃ bt ot, A = some ⟨bt, ot, none⟩ ∧ V.cell? ⟨bt, ot + j, none⟩ = some (.int .i64 (s.to_.getD j 0))) := fun j hj V hb => (HA.out.to hb).bx.to_at hj
        obtain ⟨q0, q1, q2, -⟩ := HG.out wr HB.out
        have hnn : s.n = s.to_.length := rfl
        have d1 : decide ((i : Int) < 0) = false := decide_eq_false (by omega)
        have d2 : decide ((s.to_.length : Int) ≤ (i : Int)) = false := decide_eq_false (by omega)
        have d3 : decide (s.to_.length ≤ i) = false := decide_eq_false (by omega)
        have hkk : decide ((k : Int) < (ol.length : Int)) = true := decide_eq_true (by omega)
        have hkk2 : decide (k < ol.length) = true := decide_eq_true (by omega)
        subst hA
        clear sx hx hc hbB
        go_upto_region 21 with fail
        go_region_held3 (fun W' => W'.cell? ⟨w.heap.size, 0, none⟩ = some (.slice A s.to_.length c) ∧ W'.cell? ⟨w.heap.size, 1, none⟩ = some (.slice F s.first.length fc) ∧ W'.cell? ⟨b, off + k, none⟩ = some (.int .i64 (i : Int)) ∧ Below W.heap.size W W')
          (first | exact HG.out _ (Below.drew HB.out) | exact HG.out _ (by assumption) | exact HG.out _ HB.out | fail)
          (first
            | (go_at_call 27; refine (HM2.out _ (by first | assumption | exact And.right (And.right (And.right (by assumption))))).mono ?_; rintro e w' ⟨rfl, hb3⟩)
            | fail)
        rename_i hS1
        obtain ⟨q0, q1, q2, hB2⟩ := hS1
        have HB2 := Lib.hid hB2
        clear hB2 HM2
        obtain ⟨bt, ot, rfl, qt⟩ := HSt.out _ HB2.out
        have hor := HS.out.to_ i hin
        have hi40 : i ≤ 40 := Nat.le_of_lt (Nat.lt_of_lt_of_le hin HS.out.len)
        obtain ⟨ti, hti⟩ : ∃ t, t = s.to_.getD i 0 := ⟨_, rfl⟩
        have HTi : Hid (offN s i = ti - i) := by rw [hti]; rfl
        rw [← hti] at qt hor
        obtain ⟨bi1, bi2, -⟩ := hor
        by_cases hk0 : k = 0
        case pos =>
          have HR : Hid (stC s ol (k + 1) = stC s ol k + 1) := stC_go HKk.out (Or.inl hk0)
          subst hk0
          obtain ⟨t, ht⟩ : ∃ t, t = stC s ol 0 := ⟨_, rfl⟩
          rw [← ht] at HR hsl ⊢
          clear hti ht HSt
          go_wp2
          go_quiet (fail)
          go_wp2
          go_roundw
          case rel => exact ⟨1, by go_num, by omega, by rw [HR.out]; go_num, by first | exact below_drewT HB2.out _ | exact HB2.out⟩
          case measure => simp [intOf]; omega
        case neg =>
        have e0 : ((k : Int) == 0) = false := by simpa using hk0
        obtain ⟨k', hk'⟩ : ∃ k', k = k' + 1 := ⟨k - 1, by omega⟩
        obtain ⟨b', off', y, hA', hbB', hy, hcy⟩ := HS2.out.at_ (show k' < ol.length by omega)
        obtain ⟨rfl, rfl⟩ : b = b' ∧ off = off' := by simpa using hA'
        obtain ⟨j, hj, hjn⟩ := HF.out.ok y (List.mem_of_getElem? hy)
        subst hj
        have q3 := (bcell HB2.out hbB' _).trans hcy
        obtain ⟨bt', ot', ht', qj⟩ := HSt2.out j hjn _ HB2.out
        obtain ⟨rfl, rfl⟩ : bt = bt' ∧ ot = ot' := by simpa using ht'
        obtain ⟨tj, htj⟩ : ∃ t, t = s.to_.getD j 0 := ⟨_, rfl⟩
        have HTj : Hid (offN s j = tj - j) := by rw [htj]; rfl
        have hj40 : j ≤ 40 := Nat.le_of_lt (Nat.lt_of_lt_of_le hjn HS.out.len)
        have hor := HS.out.to_ j hjn
        rw [← htj] at qj hor
        obtain ⟨bj1, bj2, -⟩ := hor
        have d4 : decide ((j : Int) < 0) = false := decide_eq_false (by omega)
        have ek : (k : Int) - 1 = (k' : Int) := by omega
        have ek2 : decide ((k' : Int) < (ol.length : Int)) = true := decide_eq_true (by omega)
        have ek3 : decide (k' < ol.length) = true := decide_eq_true (by omega)
        have HKj : Hid (ol[k - 1]? = some (j : Int)) := by show _ = _; rw [← hy, hk']; rfl
        have HKn := Lib.hid hk0
        clear hy hcy hbB' hA' ht' hti htj hk0 HSt HSt2 hk'
        by_cases ht : ti - (i : Int) = tj - (j : Int)
        case pos =>
          have HR : Hid (stC s ol (k + 1) = stC s ol k) := stC_eq HKk.out HKn.out HKj.out (by rw [HTi.out, HTj.out]; exact ht)
          have d5 : (wrap64 (ti - (i : Int)) != wrap64 (tj - (j : Int))) = false := by rw [IntWalk.wrap64_in (ti - (i : Int)) (by omega), IntWalk.wrap64_in (tj - (j : Int)) (by omega)]; simpa using ht
          have d6 : (ti - (i : Int) != tj - (j : Int)) = false := by simpa using ht
          obtain ⟨t, htt⟩ : ∃ t, t = stC s ol k := ⟨_, rfl⟩
          rw [← htt] at HR hsl ⊢
          clear ht htt
          go_wp2
          go_quiet (fail)
          go_wp2
          go_roundw
          case rel => exact ⟨k + 1, by go_num, by omega, by rw [HR.out], by first | exact below_drewT HB2.out _ | exact HB2.out⟩
          case measure => simp [intOf]; omega
        case neg =>
          have HR : Hid (stC s ol (k + 1) = stC s ol k + 1) := stC_go HKk.out (Or.inr ⟨j, HKj.out, by rw [HTi.out, HTj.out]; exact ht⟩)
          have d5 : (wrap64 (ti - (i : Int)) != wrap64 (tj - (j : Int))) = true := by rw [IntWalk.wrap64_in (ti - (i : Int)) (by omega), IntWalk.wrap64_in (tj - (j : Int)) (by omega)]; simpa using ht
          have d6 : (ti - (i : Int) != tj - (j : Int)) = true := by simpa using ht
          obtain ⟨t, htt⟩ : ∃ t, t = stC s ol k := ⟨_, rfl⟩
          rw [← htt] at HR hsl ⊢
          clear ht htt
          go_wp2
          go_quiet (fail)
          go_wp2
          go_roundw
          case rel => exact ⟨k + 1, by go_num, by omega, by rw [HR.out]; go_num, by first | exact below_drewT HB2.out _ | exact HB2.out⟩
          case measure => simp [intOf]; omega
      case neg =>
        obtain rfl : k = ol.length := by omega
        obtain ⟨t, ht⟩ : ∃ t, t = stC s ol ol.length := ⟨_, rfl⟩
        have HT := Lib.hid ht
        obtain ⟨h1, h2, h3⟩ := HFc2.out
        rw [← ht] at h3
        have hsl := stC_le s ol ol.length
        rw [← ht] at hsl ⊢
        have d1 : ((m7 : Int) == 2 * (ol.length : Int)) = true := by rw [h1]; simp
        have d2 : ((m7 : Int) + (m8 : Int) == (pl.length : Int)) = true := by rw [← h2]; simp
        have d3 : decide ((m8 : Int) ≤ (t : Int) + 1) = true := decide_eq_true (by omega)
        have HLo := Lib.hid (HA.out.lo.trans (HB.out.mono HA.out.lo.size))
        clear hlt ht h3 HFc2
        go_wp2
        go_ret
        exact ⟨by first | rfl | simp, HLo.out⟩
end Go.Proofs.Ytflpikickbellaa
