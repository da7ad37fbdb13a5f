/- TransferExact, walked. -/
import Derived.Test.YtflpikickbellaaKExP
import Derived.Test.YtflpikickbellaaKG11
import Derived.Test.YtflpikickbellaaKMy
import Derived.Test.YtflpikickbellaaKAl
import Derived.Test.YtflpikickbellaaKG9
import Derived.Test.YtflpikickbellaaKPlans32
import Derived.Deep.RegionHeld3
import Derived.BigQuiet
namespace Go.Proofs.Ytflpikickbellaa
open Go.RowKit Go.Shelf Go.Sort
set_option maxRecDepth 100000

theorem may_ok {s : Sft} : ∀ (l : List Int) (come : Nat → Bool) (last : Int), mayS s come last l = true → okL s l
  | [], _, _, _ => fun x hx => by cases hx
  | x :: l, come, last, h => by
    obtain ⟨i, rfl, hi, -, -, -, hr⟩ := may_cons.1 h
    intro y hy
    rcases List.mem_cons.1 hy with rfl | h1
    · exact ⟨i, rfl, hi⟩
    · exact may_ok l _ _ hr y h1
set_option maxHeartbeats 16000000 in
theorem exact_walk (A F : Option Addr) (c fc : Nat) (s : Sft) (w : World) (hs : SlI w w.heap.size A s.to_) (hp : SlPr w w.heap.size F s.first) (O : Option Addr) (k0 : Nat) (order : List Int) (hO : SlI w w.heap.size O order) :
    Calls Try.prog 7 #[sftV A F c fc s, .slice O order.length k0] w fun e w' => e = .returned (.bool true) ∧ Below w.heap.size w w' := by
  have hb1 := al_t w (sftB A F c fc s)
  have HX : Hid (Ag w A F c fc s (w.alloc (sftB A F c fc s))) := ⟨hb1, SfBx.new c fc ⟨hs, hp⟩⟩
  have HO0 : Hid (∀ W, Below w.heap.size w W → SlI W W.heap.size O order) := fun W hb => (hO.below hb).more hb.size
  have HAl := Lib.hid (alive32_any (w.alloc (sftB A F c fc s)))
  clear hb1 hs hp hO
  go_enter Try.func7, Try.ntmps7
  go_upto_region 2 with ((go_at_call 26; refine HAl.out.mono ?_; rintro e w1 ⟨rfl, hb1⟩))
  refine abs_world (Q := fun W => Code.wp _ _ _ _ W) (F := fun W => Ag w A F c fc s W) _ (HX.out.to hb1) ?_
  clear HX HAl hb1
  rintro W1 hA1
  obtain ⟨g0, g1⟩ := And.intro hA1.bx.c0 hA1.bx.c1
  have HA1 := Lib.hid hA1
  have HGr := Lib.hid (rgreat_any A F c fc s W1 hA1.bx.at_)
  clear hA1
  cases hgr : grtB s with
  | true =>
    rw [hgr] at HGr
    clear hgr
    go_wp2_with ((go_at_call 8; refine HGr.out.mono ?_; rintro e w2 ⟨rfl, hb2⟩))
    go_ret
    exact ⟨rfl, HA1.out.lo.trans (hb2.mono HA1.out.lo.size)⟩
  | false =>
  rw [hgr] at HGr
  obtain ⟨h50, h100⟩ := great_no hgr
  clear hgr
  have HC2 : Hid (∀ W, Below W1.heap.size W1 W → (W.cell? ⟨w.heap.size, 0, none⟩ = some (.slice A s.to_.length c) ∧ W.cell? ⟨w.heap.size, 1, none⟩ = some (.slice F s.first.length fc)) ∧ Calls Try.prog 16 #[sftV A F c fc s] W fun e w' => e = .returned (.int .i64 (sftE s)) ∧ Below W.heap.size W w') := fun W h => ⟨⟨(HA1.out.to h).bx.c0, (HA1.out.to h).bx.c1⟩, rchk_any A F c fc s (by omega) (by omega) W (HA1.out.to h).bx.at_⟩
  by_cases hE : sftE s = 0
  case neg =>
    have d0 : (sftE s != 0) = true := by simpa using hE
    obtain ⟨x, hx⟩ : ∃ x, x = sftE s := ⟨_, rfl⟩
    rw [← hx] at HC2 d0
    clear hE hx
    go_wp2_with (first
      | (go_at_call 8; refine HGr.out.mono ?_; rintro e w2 ⟨rfl, hb2⟩; obtain ⟨q0, q1⟩ := (HC2.out w2 hb2).1)
      | (go_at_call 16; refine (HC2.out w2 hb2).2.mono ?_; rintro e w3 ⟨rfl, hb3⟩))
    go_ret
    exact ⟨rfl, HA1.out.lo.trans ((hb2.trans (hb3.mono hb2.size)).mono HA1.out.lo.size)⟩
  case pos =>
  have HS := Lib.hid (sftE_ok hE)
  by_cases hn : order.length ≤ 100
  case neg =>
    have d1 : decide ((100 : Int) < (order.length : Int)) = true := decide_eq_true (by omega)
    have d2 : decide (100 < order.length) = true := decide_eq_true (by omega)
    rw [hE] at HC2
    clear hE hn
    go_wp2_with (first
      | (go_at_call 8; refine HGr.out.mono ?_; rintro e w2 ⟨rfl, hb2⟩; obtain ⟨q0, q1⟩ := (HC2.out w2 hb2).1)
      | (go_at_call 16; refine (HC2.out w2 hb2).2.mono ?_; rintro e w3 ⟨rfl, hb3⟩))
    go_ret
    exact ⟨rfl, HA1.out.lo.trans ((hb2.trans (hb3.mono hb2.size)).mono HA1.out.lo.size)⟩
  case pos =>
  have d1 : decide ((100 : Int) < (order.length : Int)) = false := decide_eq_false (by omega)
  have d2 : decide (100 < order.length) = false := decide_eq_false (by omega)
  have HE := Lib.hid hE
  rw [hE] at HC2
  clear hE
  go_upto_region 4 with (first
    | (go_at_call 8; refine HGr.out.mono ?_; rintro e w2 ⟨rfl, hb2⟩; obtain ⟨q0, q1⟩ := (HC2.out w2 hb2).1)
    | (go_at_call 16; refine (HC2.out w2 hb2).2.mono ?_; rintro e w3 ⟨rfl, hb3⟩))
  refine abs_world (Q := fun W => Code.wp _ _ _ _ W) (F := fun W => Ag w A F c fc s W) _ (HA1.out.to (hb2.trans (hb3.mono hb2.size))) ?_
  clear HGr hb2 hb3 HA1 HC2 g0 g1 q0 q1
  rintro W2 hA2
  obtain ⟨g0, g1⟩ := And.intro hA2.bx.c0 hA2.bx.c1
  have HA := Lib.hid hA2
  have hol := ord_len s h50
  have HOr : Hid (Calls Try.prog 9 #[sftV A F c fc s] W2 fun e w' => ∃ a k, e = .returned (.tuple #[.slice a (ordE s).1.length k, .int .i64 (ordE s).2]) ∧ SlI w' w'.heap.size a (ordE s).1 ∧ Below W2.heap.size W2 w') := porder_any A F c fc s (by omega) (by omega) W2 hA2.bx.at_
  have HMy : Hid (∀ (B : Option Addr) (k : Nat) (l : List Int) (W : World), l.length ≤ 100 → Ag w A F c fc s W → SlI W W.heap.size B l → Calls Try.prog 23 #[sftV A F c fc s, .slice B l.length k] W fun e w' => e = .returned (.tuple #[.bool (mayS s (fun _ => false) 9 l), .int .i64 0]) ∧ Below W.heap.size W w') := fun B k l W hl h hsl => by
    have := pmay_any A F c fc s (by omega) (by omega) B k l (by omega) W h.bx.at_ hsl
    have e : mayE s l = (mayS s (fun _ => false) 9 l, 0) := by unfold mayE; rw [if_neg (by rw [HE.out]; simp)]
    rw [e] at this
    exact this
  have HX1 : Hid ((ordE s).2 = 0 → mayS s (fun _ => false) 9 (ordE s).1 = true) := ex_may
  have HX2 : Hid ((ordE s).2 ≠ 0 → (ordE s).2 = 6 ∧ mayS s (fun _ => false) 9 order = false) := fun h => ⟨(ex_none HE.out h).1, (ex_none HE.out h).2 order⟩
  have HX3 : Hid (mayS s (fun _ => false) 9 order = true → okL s order ∧ lexL s (ordE s).1 order ∧ (ordE s).1.length = order.length) := fun h => ⟨may_ok _ _ _ h, (ex_least HE.out h).2⟩
  have HOk : Hid (okL s (ordE s).1) := (ordE_ok s).1
  obtain ⟨⟨ol, ox⟩, hoe⟩ : ∃ y, y = ordE s := ⟨_, rfl⟩
  rw [← hoe] at HOr hol HX1 HX2 HX3 HOk
  replace hol : ol.length ≤ 50 := hol
  obtain ⟨M, hM⟩ : ∃ y, y = mayS s (fun _ => false) 9 order := ⟨_, rfl⟩
  have HMy2 : Hid (∀ (W : World), Ag w A F c fc s W → Calls Try.prog 23 #[sftV A F c fc s, .slice O order.length k0] W fun e w' => e = .returned (.tuple #[.bool M, .int .i64 0]) ∧ Below W.heap.size W w') := fun W h => by
    rw [hM]
    exact HMy.out O k0 order W hn h (HO0.out W h.lo)
  rw [← hM] at HX2 HX3
  clear hA2 hoe hM h50 h100 hn d1 d2 HE
  go_upto_region 5 with ((go_at_call 9; refine HOr.out.mono ?_; rintro e w3 ⟨a1, k1, rfl, hsl, hb⟩))
  refine abs_world (Q := fun W => Code.wp _ _ _ _ W) (F := fun W => Ag w A F c fc s W ∧ SlI W W.heap.size a1 ol) _ ⟨HA.out.to hb, hsl⟩ ?_
  clear hsl hb HA HOr g0 g1
  rintro W3 ⟨hA, h1⟩
  obtain ⟨g0, g1⟩ := And.intro hA.bx.c0 hA.bx.c1
  have HA := Lib.hid hA
  have HS1 := Lib.hid h1
  have HMy1 := Lib.hid (HMy.out a1 k1 ol W3 (by omega) hA h1)
  obtain ⟨M1, hM1⟩ : ∃ y, y = mayS s (fun _ => false) 9 ol := ⟨_, rfl⟩
  have HX1' : Hid (ox = 0 → M1 = true) := fun h => by rw [hM1]; exact HX1.out h
  rw [← hM1] at HMy1
  clear hA h1 HMy hM1 HX1
  go_upto_region 6 with ((go_at_call 23; refine HMy1.out.mono ?_; rintro e w3 ⟨rfl, hb⟩))
  refine abs_world (Q := fun W => Code.wp _ _ _ _ W) (F := fun W => Ag w A F c fc s W ∧ SlI W W.heap.size a1 ol) _ ⟨HA.out.to hb, (HS1.out.below hb).more hb.size⟩ ?_
  clear hb HA HS1 HMy1 g0 g1
  rintro W4 ⟨hA, h1⟩
  obtain ⟨g0, g1⟩ := And.intro hA.bx.c0 hA.bx.c1
  have HA := Lib.hid hA
  have HS1 := Lib.hid h1
  clear hA h1
  go_upto_region 7 with ((go_at_call 23; refine (HMy2.out _ HA.out).mono ?_; rintro e w3 ⟨rfl, hb⟩))
  refine abs_world (Q := fun W => Code.wp _ _ _ _ W) (F := fun W => Ag w A F c fc s W ∧ SlI W W.heap.size a1 ol) _ ⟨HA.out.to hb, (HS1.out.below hb).more hb.size⟩ ?_
  clear hb HA HS1 HMy2 g0 g1
  rintro W ⟨hA, h1⟩
  have HA := Lib.hid hA
  have HS1 := Lib.hid h1
  have HSO := Lib.hid (HO0.out W hA.lo)
  clear hA h1 HO0
  by_cases hx : ox = 0
  case neg =>
    have d0 : (ox != 0) = true := by simpa using hx
    obtain ⟨h6, hMf⟩ := HX2.out hx
    replace h6 : ox = 6 := h6
    subst h6 hMf
    clear hx HX1' HX2 HX3
    go_wp2
    go_ret
    exact ⟨rfl, HA.out.lo⟩
  case pos =>
  have h1 := HX1'.out hx
  subst hx h1
  clear HX1' HX2
  cases hMv : M with
  | false =>
    subst hMv
    clear HX3
    go_wp2
    go_loopw [12] (fun s12 wr => s12 = .int .i64 0 ∧ Hid (W = wr)) (fun _ _ => 0)
    case atStart => exact ⟨rfl, rfl⟩
    case round =>
      obtain ⟨rfl, HW⟩ := hrel
      obtain rfl := HW.out
      clear HW
      go_wp2
      go_ret
      exact ⟨rfl, HA.out.lo⟩
  | true =>
    obtain ⟨hok, hlx, hln⟩ := HX3.out hMv
    replace hlx : lexL s ol order := hlx
    replace hln : ol.length = order.length := hln
    have HLx : Hid (lexL s (ol.drop 0) (order.drop 0)) := hlx
    have HOk2 := Lib.hid hok
    have d0 : ((ol.length : Int) != (order.length : Int)) = false := by rw [hln]; simp
    have d00 : (ol.length != order.length) = false := by rw [hln]; simp
    subst hMv
    have HLn := Lib.hid hln
    clear HX3 hok hlx hln
    go_wp2
    go_loopw [12] (fun s12 wr => ∃ k : Nat, s12 = .int .i64 (k : Int) ∧ k ≤ ol.length ∧ Hid (lexL s (ol.drop k) (order.drop k)) ∧ Hid (Below W.heap.size W wr)) (fun s12 _ => ol.length - (intOf s12).toNat)
    case atStart => exact ⟨0, rfl, Nat.zero_le _, HLx.out, Below.refl _ _⟩
    case round =>
      obtain ⟨k, rfl, hk, HL, HB⟩ := hrel
      by_cases hlt : k < ol.length
      case neg =>
        obtain rfl : k = ol.length := by omega
        have HLo := Lib.hid (HA.out.lo.trans (HB.out.mono HA.out.lo.size))
        clear hlt HL HLx
        go_wp2
        go_ret
        exact ⟨rfl, HLo.out⟩
      case pos =>
        have hlt2 : k < order.length := by rw [← HLn.out]; exact hlt
        obtain ⟨b, off, x, hA1, hbB, hx, hc⟩ := HS1.out.at_ hlt
        obtain ⟨b', off', y, hA2, hbB', hy, hc'⟩ := HSO.out.at_ hlt2
        obtain ⟨i, hi, hin⟩ := HOk.out x (List.mem_of_getElem? hx)
        obtain ⟨j, hj, hjn⟩ := HOk2.out y (List.mem_of_getElem? hy)
        subst hi hj
        have HL2 : Hid (offN s i < offN s j ∨ (offN s i = offN s j ∧ lexL s (ol.drop (k + 1)) (order.drop (k + 1)))) := by
          have h := HL.out
          rw [List.drop_eq_getElem_cons hlt, List.drop_eq_getElem_cons hlt2, (List.getElem?_eq_some_iff.1 hx).2, (List.getElem?_eq_some_iff.1 hy).2] at h
          have e1 : ((i : Int)).toNat = i := by omega
          have e2 : ((j : Int)).toNat = j := by omega
          unfold lexL at h
          rw [e1, e2] at h
          exact h
        have sx := HA.out.to HB.out
        have q0 := sx.bx.c0
        have q2 := (bcell HB.out hbB _).trans hc
        have q3 := (bcell HB.out hbB' _).trans hc'
        obtain ⟨bt, ot, hAt, qt⟩ := sx.bx.to_at hin
        obtain ⟨bt', ot', hAt', qj⟩ := sx.bx.to_at hjn
        rw [hAt] at hAt'
        obtain ⟨rfl, rfl⟩ : bt = bt' ∧ ot = ot' := by simpa using hAt'
        have hi40 : i ≤ 40 := Nat.le_of_lt (Nat.lt_of_lt_of_le hin HS.out.len)
        have hj40 : j ≤ 40 := Nat.le_of_lt (Nat.lt_of_lt_of_le hjn HS.out.len)
        have hoi := HS.out.to_ i hin
        have hoj := HS.out.to_ j hjn
        have hnn : s.n = s.to_.length := rfl
        obtain ⟨ti, hti⟩ : ∃ t, t = s.to_.getD i 0 := ⟨_, rfl⟩
        obtain ⟨tj, htj⟩ : ∃ t, t = s.to_.getD j 0 := ⟨_, rfl⟩
        have hTi : offN s i = ti - i := by rw [hti]; rfl
        have hTj : offN s j = tj - j := by rw [htj]; rfl
        rw [hTi, hTj] at HL2
        rw [← hti] at qt hoi
        rw [← htj] at qj hoj
        obtain ⟨bi1, bi2, -⟩ := hoi
        obtain ⟨bj1, bj2, -⟩ := hoj
        have d1 : decide ((i : Int) < 0) = false := decide_eq_false (by omega)
        have d2 : decide ((s.to_.length : Int) ≤ (i : Int)) = false := decide_eq_false (by omega)
        have d3 : decide (s.to_.length ≤ i) = false := decide_eq_false (by omega)
        have d4 : decide ((j : Int) < 0) = false := decide_eq_false (by omega)
        have d5 : decide ((s.to_.length : Int) ≤ (j : Int)) = false := decide_eq_false (by omega)
        have d6 : decide (s.to_.length ≤ j) = false := decide_eq_false (by omega)
        have hkk : decide ((k : Int) < (ol.length : Int)) = true := decide_eq_true (by omega)
        have hkk2 : decide (k < ol.length) = true := decide_eq_true (by omega)
        have hko : decide ((k : Int) < (order.length : Int)) = true := decide_eq_true (by omega)
        have hko2 : decide (k < order.length) = true := decide_eq_true (by omega)
        subst hA1 hA2 hAt
        clear sx hx hc hy hc' hbB hbB' hAt' hti htj hTi hTj HL HLx
        by_cases he : ti - (i : Int) = tj - (j : Int)
        case pos =>
          have HL3 : Hid (lexL s (ol.drop (k + 1)) (order.drop (k + 1))) := by
            rcases HL2.out with h | h
            · omega
            · exact h.2
          have d7 : (ti - (i : Int) != tj - (j : Int)) = false := by simpa using he
          clear he HL2
          go_wp2
          go_quiet (fail)
          go_wp2
          go_quiet (fail)
          go_wp2
          go_roundw
          case rel => exact ⟨k + 1, by go_num, by omega, HL3.out, by first | exact below_drewT (below_drewT HB.out _) _ | exact below_drewT HB.out _ | exact HB.out⟩
          case measure => simp [intOf]; omega
        case neg =>
          have d7 : (ti - (i : Int) != tj - (j : Int)) = true := by simpa using he
          have d8 : decide (ti - (i : Int) < tj - (j : Int)) = true := decide_eq_true (by
            rcases HL2.out with h | h
            · exact h
            · exact absurd h.1 he)
          have HLo := Lib.hid (HA.out.lo.trans (HB.out.mono HA.out.lo.size))
          clear he HL2
          go_wp2
          go_quiet (fail)
          go_wp2
          go_quiet (fail)
          go_wp2
          go_ret
          exact ⟨rfl, by first | exact below_drewT (below_drewT HLo.out _) _ | exact below_drewT HLo.out _ | exact HLo.out⟩
end Go.Proofs.Ytflpikickbellaa
