/- Layer 32: the program's May, walked. -/
import Derived.Test.YtflpikickbellaaKMy0
import Derived.Deep.RegionHeld3
import Derived.Deep.DeepCutAuto
import Derived.Maps.RangeWalk
namespace Go.Proofs.Ytflpikickbellaa
open Go.RowKit Go.Shelf Go.Sort Go.Maps
set_option maxRecDepth 100000

/-- What May hands back. -/
def MyPost (w : World) (r : Bool × Int) (e : Ending) (w' : World) : Prop := e = .returned (.tuple #[.bool r.1, .int .i64 r.2]) ∧ Below w.heap.size w w'
theorem MyPost.mk' {w w' : World} {r : Bool × Int} {b : Bool} {x : Int} (h : r = (b, x)) (hb : Below w.heap.size w w') : MyPost w r (.returned (.tuple #[.bool b, .int .i64 x])) w' := by
  subst h
  exact ⟨rfl, hb⟩
theorem wait_key {s : Sft} {come : Nat → Bool} {W0 W : World} {mb n : Nat} {G : Int → Option Value} (h : MpR W W0.heap.size mb n G (waitsN s come)) {t : Int} (ht : waitsN s come t ≠ []) : (G t).isSome = true := by
  have h1 := h.row t
  unfold vRow at h1
  cases hG : G t with
  | some v => rfl
  | none =>
    rw [hG] at h1
    rcases h1.2 with ⟨-, e⟩ | ⟨g, cap, cur, hv, -⟩
    · exact absurd (List.length_eq_zero_iff.1 e) ht
    · cases hv
theorem stops_none {s : Sft} (hs : SftOk s) {come : Nat → Bool} : stopsN s come = [] ↔ ∀ t, waitsN s come t = [] := by
  constructor
  · intro h t
    apply Classical.byContradiction
    intro hc
    have h1 := waits_has.1 hc
    have h2 := has_range hs h1
    have : t ∈ stopsN s come := by unfold stopsN; rw [List.mem_filter, mem_stops]; exact ⟨h2, h1⟩
    rw [h] at this; cases this
  · intro h
    apply List.eq_nil_iff_forall_not_mem.2
    intro t ht
    unfold stopsN at ht
    exact waits_has.2 (List.mem_filter.1 ht).2 (h t)
set_option maxHeartbeats 32000000 in
theorem pmay_any (A F : Option Addr) (c fc : Nat) (s : Sft) (hl : s.to_.length ≤ 4611686018427387904) (hf : s.first.length ≤ 4611686018427387904) (B : Option Addr) (k0 : Nat) (order : List Int) (ho : order.length ≤ 100000) (w : World) (h : SfAt A F s w) (hb : SlI w w.heap.size B order) :
    Calls Try.prog 23 #[sftV A F c fc s, .slice B order.length k0] w fun e w' => MyPost w (mayE s order) e w' := by
  have hb0 := al_t w (sftB A F c fc s)
  have HX0 : Hid (SfBx w.heap.size A F c fc s (w.alloc (sftB A F c fc s)) ∧ Below w.heap.size w (w.alloc (sftB A F c fc s)) ∧ SlI (w.alloc (sftB A F c fc s)) (w.alloc (sftB A F c fc s)).heap.size B order) := ⟨SfBx.new c fc h, hb0, (hb.below hb0).more hb0.size⟩
  have HC1 := Lib.hid (pchk_any A F c fc s hl hf _ HX0.out.1.at_)
  have c0 := HX0.out.1.c0
  have c1 := HX0.out.1.c1
  have hmf : ∀ (fn : Fn) (first cap : Array Value) (w : World), (Instr.makeFunc fn first cap).run Try.prog w = .ok (.func fn first cap) w := fun _ _ _ _ => rfl
  obtain ⟨r, hr⟩ : ∃ r, r = mayE s order := ⟨_, rfl⟩
  rw [← hr]
  obtain ⟨pb, hpb⟩ : ∃ pb, pb = w.heap.size := ⟨_, rfl⟩
  clear h hb0 hb
  by_cases hE : sftE s = 0
  case neg =>
    have HR : Hid (r = (false, sftE s)) := by show _ = _; rw [hr]; unfold mayE; rw [if_pos hE]
    have d0 : (sftE s != 0) = true := by simpa using hE
    obtain ⟨x, hx⟩ : ∃ x, x = sftE s := ⟨_, rfl⟩
    rw [← hx] at HR d0 HC1
    clear hr hE hx hpb hmf
    go_enter Try.func23, Try.ntmps23
    go_wp2_with fail
    refine HC1.out.mono ?_
    rintro e w1 ⟨rfl, hb1⟩
    have HB := Lib.hid (HX0.out.2.1.trans (hb1.mono HX0.out.2.1.size))
    clear hb1
    go_wp2
    go_ret2
    exact MyPost.mk' HR.out HB.out
  case pos =>
  have hs := sftE_ok hE
  have HS := Lib.hid hs
  have hn40 : s.to_.length ≤ 40 := hs.len
  obtain ⟨M, hM⟩ : ∃ M, M = mayS s (fun _ => false) 9 order := ⟨_, rfl⟩
  have HR : Hid (r = (M, 0)) := by show _ = _; rw [hr, hM]; unfold mayE; rw [if_neg (by simpa using hE)]
  have HM0 : Hid (M = mayS s (fun _ => false) 9 (order.drop 0)) := hM
  rw [hE] at HC1
  clear hr hE hs hM
  go_enter Try.func23, Try.ntmps23
  go_upto_region 4 with ((go_at_call 15; refine HC1.out.mono ?_; rintro e w1 ⟨rfl, hb1⟩))
  refine abs_world (Q := fun W => Code.wp _ _ _ _ W) (F := fun W => SfBx w.heap.size A F c fc s W ∧ Below w.heap.size w W ∧ SlI W W.heap.size B order) _ ⟨HX0.out.1.to hb1, HX0.out.2.1.trans (hb1.mono HX0.out.2.1.size), (HX0.out.2.2.below hb1).more hb1.size⟩ ?_
  clear HX0 c0 c1 hb1 HC1
  rintro W1 ⟨hx, hb1, hsl1⟩
  rw [← hpb] at hx ⊢
  have HX1 : Hid (SfBx pb A F c fc s W1 ∧ ∀ W, Below W1.heap.size W1 W → SfBx pb A F c fc s W ∧ Below w.heap.size w W ∧ SlI W W.heap.size B order) := ⟨hx, fun W hb => ⟨hx.to hb, hb1.trans (hb.mono hb1.size), (hsl1.below hb).more hb.size⟩⟩
  have c0 := hx.c0
  have c1 := hx.c1
  have HBg := Lib.hid (pbegin_any A F c fc s HS.out hf W1 hx.at_)
  clear hx hb1 hpb hsl1
  go_wp2_with fail
  refine HBg.out.mono ?_
  rintro e w2 ⟨mb, n0, G0, rfl, hn0, hm0, hd0, hb2⟩
  have HP0 := Lib.hid (PoA.new (A := A) (F := F) (c := c) (fc := fc) hm0 hb2)
  have HN0 := Lib.hid hn0
  clear hm0 hd0 hb2 hn0 HBg c0 c1
  go_upto_region 5 with fail
  refine abs_world (Q := fun W => Code.wp _ _ _ _ W) (F := fun W => PoA W1 w2.heap.size mb A F c fc s (fun _ => false) [] (.slice none 0 0) [] n0 G0 W) _ HP0.out ?_
  obtain ⟨wb, hwb⟩ : ∃ wb, wb = w2.heap.size := ⟨_, rfl⟩
  rw [← hwb]
  clear HP0 hwb
  intro W2 hP2
  have HP2 := Lib.hid hP2
  clear hP2
  go_wp2
  go_loopw [8, 23] (fun s8 s23 wr => ∃ (k n : Nat) (last : Int) (come : Nat → Bool) (G : Int → Option Value), k ≤ order.length ∧ s23 = .int .i64 (k : Int) ∧ s8 = .int .i64 last ∧ -8 ≤ last ∧ last ≤ 9 ∧ n ≤ s.n + k ∧ Hid (M = mayS s come last (order.drop k)) ∧ Hid (PoA W1 wb mb A F c fc s come [] (.slice none 0 0) [] n G wr)) (fun _ s23 _ => order.length - (intOf s23).toNat)
  case atStart => exact ⟨0, n0, 9, _, G0, Nat.zero_le _, rfl, rfl, by omega, by omega, by have := HN0.out; omega, HM0.out, HP2.out⟩
  case round =>
    obtain ⟨k, n, last, come, G, hk, rfl, rfl, hl1, hl2, hnk, HM, HP⟩ := hrel
    clear HP2 HM0 HN0
    obtain ⟨W, hW⟩ : ∃ x : World, x = wr := ⟨_, rfl⟩
    rw [← hW] at HP ⊢
    clear hW
    have hsn : s.n = s.to_.length := rfl
    by_cases hlt : k < order.length
    case pos =>
      obtain ⟨b, off, x, hA, -, hx, hcx⟩ := (HX1.out.2 W HP.out.lo).2.2.at_ hlt
      have HMx : Hid (M = mayS s come last (x :: order.drop (k + 1))) := by
        show _ = _
        rw [HM.out, List.drop_eq_getElem_cons hlt, (List.getElem?_eq_some_iff.1 hx).2]
      have HP3 := Lib.hid (HP.out.boxed (.int .i64 x) 3)
      obtain ⟨ib, hib⟩ : ∃ ib, ib = W.heap.size := ⟨_, rfl⟩
      rw [← hib] at HP3
      subst hA
      clear hx HM HP
      go_upto_region 9 with fail
      rw [← hib]
      refine abs_world (Q := fun W' => Code.wp _ _ _ _ W') (F := fun W' => PoA W1 wb mb A F c fc s come [] (.slice none 0 0) [(ib, .int .i64 x)] n G W') _ HP3.out ?_
      clear HP3 hib hcx
      intro W4 h4
      have HP4 := Lib.hid h4
      have ci := (h4.box (ib, .int .i64 x) List.mem_cons_self).1
      have ci : W4.cell? ⟨ib, 0, none⟩ = some (.int .i64 x) := ci
      obtain ⟨x4, b4, -⟩ := HX1.out.2 W4 h4.lo
      have p0 := x4.c0
      have c0 := h4.c0
      have c1 := h4.c1
      have c2 := h4.c2
      have HB4 := Lib.hid b4
      clear h4 x4 b4
      by_cases hx0 : 0 ≤ x
      case neg =>
        have HR2 : Hid (r = (false, 0)) := by show _ = _; rw [HR.out, HMx.out, mayS_in (by unfold inM; rw [decide_eq_false hx0]; rfl)]
        have d1 : decide (x < 0) = true := decide_eq_true (by omega)
        clear HMx hx0
        go_wp2
        go_ret2
        exact MyPost.mk' HR2.out HB4.out
      case pos =>
      have d1 : decide (x < 0) = false := decide_eq_false (by omega)
      by_cases hxn : x < (s.to_.length : Int)
      case neg =>
        have HR2 : Hid (r = (false, 0)) := by show _ = _; rw [HR.out, HMx.out, mayS_in (by unfold inM; rw [decide_eq_false (show ¬ x < (s.n : Int) from hxn)]; simp)]
        have d2 : decide ((s.to_.length : Int) ≤ x) = true := decide_eq_true (by omega)
        clear HMx hxn
        go_wp2
        go_ret2
        exact MyPost.mk' HR2.out HB4.out
      case pos =>
      have d2 : decide ((s.to_.length : Int) ≤ x) = false := decide_eq_false (by omega)
      obtain ⟨i, rfl⟩ : ∃ i : Nat, x = (i : Int) := ⟨x.toNat, by omega⟩
      have hil : i < s.n := by omega
      have d2' : decide (s.to_.length ≤ i) = false := decide_eq_false (by omega)
      have hti : ((i : Int)).toNat = i := by omega
      have HWt := Lib.hid (pwaiting_any A F c fc s mb HS.out come i hil W4 (HX1.out.2 W4 HP4.out.lo).1.at_ HP4.out.wt)
      cases hwt : waitN s come i with
      | false =>
        rw [hwt] at HWt
        have HR2 : Hid (r = (false, 0)) := by show _ = _; rw [HR.out, HMx.out, mayS_in (by unfold inM; rw [hti, hwt]; simp)]
        clear HMx hwt
        go_wp2_with ((go_at_call 36; refine HWt.out.mono ?_; rintro e w5 ⟨rfl, hb5⟩))
        go_ret2
        exact MyPost.mk' HR2.out (HB4.out.trans (hb5.mono HB4.out.size))
      | true =>
        rw [hwt] at HWt
        have HIn : Hid (inM s come (i : Int) = true) := by
          show _ = _
          unfold inM
          rw [hti, hwt, decide_eq_true hx0, decide_eq_true (show (i : Int) < (s.n : Int) from hxn)]; rfl
        have hor := (HS.out.to_ i hil).2.2
        have hb4s := HB4.out.size
        clear hwt d1 hx0 hxn
        have d1 : decide ((i : Int) < 0) = false := decide_eq_false (by omega)
        go_upto_region 11 with ((go_at_call 36; refine HWt.out.mono ?_; rintro e w5 ⟨rfl, hb5⟩))
        refine abs_world (Q := fun W' => Code.wp _ _ _ _ W') (F := fun W' => PoA W1 wb mb A F c fc s come [] (.slice none 0 0) [(ib, .int .i64 (i : Int))] n G W') _ (HP4.out.to hb5) ?_
        clear hb5 HWt HP4 c0 c1 c2 p0 ci HB4 hb4s d1 d2 d2'
        intro W6 h6
        have HP6 := Lib.hid h6
        have ci := (h6.box (ib, .int .i64 (i : Int)) List.mem_cons_self).1
        have ci : W6.cell? ⟨ib, 0, none⟩ = some (.int .i64 (i : Int)) := ci
        have c0 := h6.c0
        have c1 := h6.c1
        have c2 := h6.c2
        have HOf := Lib.hid (poff_any A F c fc s mb HS.out i hil W6 (HX1.out.2 W6 h6.lo).1.at_)
        obtain ⟨o, ho2⟩ : ∃ o, o = offN s i := ⟨_, rfl⟩
        have HOe := Lib.hid ho2
        rw [← ho2] at HOf hor
        clear h6 ho2
        go_upto_region 12 with ((go_at_call 35; refine HOf.out.mono ?_; rintro e w7 ⟨rfl, hb7⟩))
        refine abs_world (Q := fun W' => Code.wp _ _ _ _ W') (F := fun W' => PoA W1 wb mb A F c fc s come [] (.slice none 0 0) [(ib, .int .i64 (i : Int))] n G W') _ (HP6.out.to hb7) ?_
        clear hb7 HOf HP6 c0 c1 c2 ci
        intro W8 h8
        have HP8 := Lib.hid h8
        have c2 := h8.c2
        have hwl : wfK last := WalkArith.wf_i64 (by omega)
        obtain ⟨al, kl, hvl, -⟩ := h8.mp.read last
        have hlk : (Instr.lookup 70 (.map (some mb)) (.int .i64 last) false).run Try.prog W8 = .ok (.slice al (waitsN s come last).length kl) W8 := by rw [← hvl]; exact h8.mp.look hwl
        have HLb : Hid (leftM s come last (i : Int) = (decide (o ≠ last) && decide (0 < (waitsN s come last).length))) := by
          show _ = _
          unfold leftM
          rw [hti, ← HOe.out]
          congr 1
          rw [Bool.eq_iff_iff, decide_eq_true_eq, List.length_pos_iff]
          exact waits_has.symm
        obtain ⟨L, hL⟩ : ∃ L, L = (waitsN s come last).length := ⟨_, rfl⟩
        rw [← hL] at hlk HLb
        clear h8 hvl hL hwl
        go_cut [55] (fun s55 wx => s55 = .bool (leftM s come last (i : Int)) ∧ Hid (W8 = wx))
        case first =>
          by_cases e : o = last
          case pos =>
            have d3 : (o != last) = false := by simpa using e
            have HQ : Hid (leftM s come last (i : Int) = false) := by show _ = _; rw [HLb.out, decide_eq_false (fun h => h e)]; rfl
            clear e HLb
            go_wp2_with fail
            go_meet
            exact ⟨by rw [HQ.out], by first | rfl | trivial⟩
          case neg =>
            have d3 : (o != last) = true := by simpa using e
            by_cases e2 : 0 < L
            case pos =>
              have d4 : decide ((0 : Int) < (L : Int)) = true := decide_eq_true (by omega)
              have d5 : decide (0 < L) = true := decide_eq_true e2
              have HQ : Hid (leftM s come last (i : Int) = true) := by show _ = _; rw [HLb.out, decide_eq_true e, d5]; rfl
              clear e HLb
              go_wp2_with fail
              go_meet
              exact ⟨by rw [HQ.out], by first | rfl | trivial⟩
            case neg =>
              have hL0 : L = 0 := by omega
              have HQ : Hid (leftM s come last (i : Int) = false) := by show _ = _; rw [HLb.out, hL0]; simp
              subst hL0
              clear e HLb e2
              go_wp2_with fail
              go_meet
              exact ⟨by rw [HQ.out], by first | rfl | trivial⟩
        case rest =>
          obtain ⟨rfl, HWe⟩ := hcut
          obtain rfl := HWe.out
          clear HWe HLb hlk
          cases hlm : leftM s come last (i : Int) with
          | true =>
            have HR2 : Hid (r = (false, 0)) := by show _ = _; rw [HR.out, HMx.out, mayS_left hlm]
            have HBe := Lib.hid (HX1.out.2 W8 HP8.out.lo).2.1
            clear hlm HMx
            go_wp2
            go_ret2
            exact MyPost.mk' HR2.out HBe.out
          | false =>
            have HLm := Lib.hid hlm
            have p1 := (HX1.out.2 W8 HP8.out.lo).1.c1
            have HPr := Lib.hid (premay_any HS.out hf HX1.out.1 HP8.out (ib := ib) (x := (i : Int)) List.mem_cons_self)
            clear hlm
            cases hpm : preM s come (i : Int) with
            | true =>
              rw [hpm] at HPr
              have HR2 : Hid (r = (false, 0)) := by show _ = _; rw [HR.out, HMx.out, mayS_pre hpm]
              have HBe := Lib.hid (HX1.out.2 W8 HP8.out.lo).2.1
              clear hpm HMx
              go_wp2_with ((go_at_call 33; refine HPr.out.mono ?_; rintro e w9 ⟨rfl, hb9⟩))
              go_ret2
              exact MyPost.mk' HR2.out (HBe.out.trans (hb9.mono HBe.out.size))
            | false =>
              rw [hpm] at HPr
              have HM2 : Hid (M = mayS s (putN come i) o (order.drop (k + 1))) := by
                show _ = _
                rw [HMx.out, mayS_go HIn.out HLm.out hpm, hti, ← HOe.out]
              clear hpm HMx HIn HLm
              go_upto_region 16 with ((go_at_call 33; refine HPr.out.mono ?_; rintro e w9 ⟨rfl, hb9⟩))
              refine abs_world (Q := fun W' => Code.wp _ _ _ _ W') (F := fun W' => PoA W1 wb mb A F c fc s come [] (.slice none 0 0) [(ib, .int .i64 (i : Int))] n G W') _ (HP8.out.to hb9) ?_
              clear hb9 HPr HP8 c2 p1
              intro W12 hP12
              have HWf : Hid (wfK o) := wfK_small hor.1 hor.2
              obtain ⟨aq, kq, hvq, -⟩ := hP12.mp.read o
              have hsn2 : s.n ≤ 1000 := by have e : s.n = s.to_.length := rfl; omega
              have HOf2 : Hid (offN s i = o) := HOe.out.symm
              have hnb : n ≤ 200000 := by have e : s.n = s.to_.length := rfl; omega
              have HSx : Hid (∀ W', Below W12.heap.size W12 W' → W'.cell? ⟨wb, 2, none⟩ = some (.map (some mb))) := fun W' hb => (hP12.to hb).c2
              have HLk : Hid (∀ W', Below W12.heap.size W12 W' → (Instr.lookup 70 (.map (some mb)) (.int .i64 o) false).run Try.prog W' = .ok (.slice aq (waitsN s come o).length kq) W') := fun W' hb => by rw [← hvq]; exact (hP12.to hb).mp.look HWf.out
              have HDl : Hid (∀ W', Below W12.heap.size W12 W' → Calls Try.prog 39 #[.slice aq (waitsN s come o).length kq, .func (.func 58) #[] #[.pointer (some ⟨ib, 0, none⟩)]] W' fun e w2 =>
                  ∃ A' n' k', e = .returned (.slice A' n' k') ∧ w2.cell? ⟨wb, 2, none⟩ = some (.map (some mb)) ∧ ∃ w4, (Instr.mapUpdate 70 (.map (some mb)) (.int .i64 o) (.slice A' n' k')).run Try.prog w2 = .ok () w4 ∧ Hid (PoA W1 wb mb A F c fc s (putN come i) [] (.slice none 0 0) [] (n + 1) (upd G o (some (.slice A' n' k'))) w4)) := fun W' hb => by
                refine ((hP12.to hb).del2 HOf2.out HWf.out (by simp) hsn2 hnb hvq).mono ?_
                rintro e w2 ⟨A', n', k', rfl, hbx, hc2, hP⟩
                obtain ⟨w4, h4, hP4⟩ := hP w2 (Below.refl _ _)
                exact ⟨A', n', k', rfl, hc2, w4, h4, hP4.sub (by simp)⟩
              obtain ⟨L2, hL2⟩ : ∃ L2, L2 = (waitsN s come o).length := ⟨_, rfl⟩
              simp only [← hL2] at HLk HDl
              have g2 := HSx.out W12 (Below.refl _ _)
              clear hP12 hvq hL2
              go_region_held3 (fun W' => W'.cell? ⟨wb, 2, none⟩ = some (.map (some mb)))
                (first | exact (by assumption) | exact HSx.out _ (by (repeat (first | with_reducible exact Below.refl _ _ | (with_reducible refine Below.drew ?_)))) | fail)
                (first
                  | (rw [HLk.out]; rotate_left; (repeat (first | with_reducible exact Below.refl _ _ | (with_reducible refine Below.drew ?_))); go_simp)
                  | (go_at_call 39; refine (HDl.out _ (by (repeat (first | with_reducible exact Below.refl _ _ | (with_reducible refine Below.drew ?_))))).mono ?_; rintro e w2 ⟨A2, n2', k2, rfl, e0, w4, he4, hq4⟩; have q0 := hq4.out.c2)
                  | fail)
              all_goals
                go_wp2
                go_roundw
                case rel => exact ⟨k + 1, n + 1, o, putN come i, _, by omega, by go_num, rfl, by omega, by omega, by omega, HM2.out, by assumption⟩
                case measure => simp [intOf]; omega
    case neg =>
      obtain rfl : k = order.length := by omega
      have HMe : Hid (M = decide (stopsN s come = [])) := by show _ = _; rw [HM.out, List.drop_length]; rfl
      have c2 := HP.out.c2
      obtain ⟨D, hown, hMD⟩ := HP.out.mp.mv
      have HMD := Lib.hid hMD
      have HLo := Lib.hid (HX1.out.2 W HP.out.lo).2.1
      have HOw := Lib.hid hown
      clear hMD HM hlt hk
      go_wp2_with (first
        | (at_range; refine wpList_range_own _ rfl _ 70 rfl 3 22 (int_keyed Try.underlying3) Try.underlying70 _ mb n D rfl hown ?_; intro w0 hrg0 hg0 hs0)
        | fail)
      have HRg0 := Lib.hid hrg0
      have HB0 : Hid (Below W.heap.size W w0) := (Below.refl _ W).grown hg0 (Nat.le_refl _) (fun k e => by cases e)
      clear hrg0 hg0 hs0 hown c2
      go_loopw [13] (fun _ wr => ∃ (left : Lit → Bool) (cnt : Nat) (ss : List Int), Hid (wr.ranges Try.prog 3 rawR mb W.heap.size n D left cnt) ∧ Hid (CollectedI D left ss) ∧ Hid (∀ t ∈ ss, waitsN s come t = []) ∧ Hid (Below W.heap.size W wr))
        (fun _ wr => wr.rangeLeft mb W.heap.size)
      case atStart => exact ⟨_, _, [], HRg0.out, CollectedI.start D, (fun t h => by cases h), HB0.out⟩
      case round =>
        obtain ⟨left, cnt, ss, HRg, HC, HE2, HBw⟩ := hrel
        clear HRg0 HB0
        go_wp2_with (first
          | (at_next; refine wpList_next_ranges _ rfl _ rfl 3 (int_keyed Try.underlying3) rawR encZ id (fun key kl hk => by obtain ⟨x, hx, _⟩ := Maps.keyOf_i64 Try.underlying3 hk; exact ⟨x, hx⟩) (fun v _ _ => ⟨v, rfl⟩) mb W.heap.size n _ _ _ rfl HRg.out ?_ ?_)
          | fail)
        · intro hc0 hl0
          have HR2 : Hid (r = (true, 0)) := by
            show _ = _
            rw [HR.out, HMe.out]
            have : stopsN s come = [] := (stops_none HS.out).2 fun t => by
              apply Classical.byContradiction
              intro hc
              have h1 := wait_key HP.out.mp hc
              rw [← HMD.out.has t] at h1
              exact hc (HE2.out t ((HC.out.2 t).2 ⟨h1, hl0 _⟩))
            rw [decide_eq_true this]
          clear hc0 hl0 HC HRg HE2
          go_wp2
          go_ret2
          exact MyPost.mk' HR2.out (HLo.out.trans (HBw.out.mono HLo.out.size))
        · intro x v kl yd yp w2 cnt2 hkey hlk hv hat hrg2 hlt hg2 hs2 hen
          obtain ⟨x', ex, rfl, _⟩ := Maps.keyOf_i64 Try.underlying3 hkey
          obtain rfl : x = x' := encZ_inj ex
          have hyd : yd = .held v := by
            unfold rawR at hv
            simp only [Option.some.injEq, Prod.mk.injEq] at hv
            exact hv.1.symm
          have hG : G x = some v := by
            cases hGx : G x with
            | none =>
              have h1 := HMD.out.has x
              rw [hGx] at h1
              have h2 : D.atKey (litK x) (.held (.bool true)) = yd := hat (.held (.bool true))
              have h3 : D.atKey (litK x) (.held (.bool false)) = yd := hat (.held (.bool false))
              rw [atKey_of_not_has h1] at h2 h3
              rw [← h2] at h3
              cases h3
            | some u =>
              have h2 : D.atKey (litK x) (.held (.bool true)) = yd := hat (.held (.bool true))
              rw [HMD.out.at_ x u _ hGx, hyd] at h2
              injection h2 with h2
              rw [h2]
          obtain ⟨a, kx, hvr, -⟩ := HP.out.mp.read x
          have hvv : v = .slice a (waitsN s come x).length kx := by
            unfold vRow at hvr
            rw [hG] at hvr
            exact hvr
          have HBw2 : Hid (Below W.heap.size W w2) := HBw.out.grown hg2 HBw.out.size (fun k e => by cases e; exact Nat.le_refl _)
          have HRg2 := Lib.hid hrg2
          have HC2 := Lib.hid (HC.out.step hlk hat)
          have HLe : Hid (wr.rangeLeft mb W.heap.size = cnt ∧ cnt2 < cnt) := ⟨HRg.out.left_eq, hlt⟩
          have hen2 : (Instr.entry (.pointer (some ⟨W.heap.size, 0, none⟩))).run Try.prog w2 = .ok (.tuple #[.int .i64 x, .slice a (waitsN s come x).length kx]) w2 := by rw [← hvv]; exact hen
          have HWx : Hid (0 < (waitsN s come x).length ↔ waitsN s come x ≠ []) := List.length_pos_iff
          obtain ⟨L, hL⟩ : ∃ L, L = (waitsN s come x).length := ⟨_, rfl⟩
          rw [← hL] at hen2 HWx
          clear hs2 hrg2 hlk hat hg2 hlt HRg HC hkey hv ex hen hyd hG hvr hvv hL
          by_cases hLp : 0 < L
          case pos =>
            have d1 : decide ((0 : Int) < (L : Int)) = true := decide_eq_true (by omega)
            have HR2 : Hid (r = (false, 0)) := by
              show _ = _
              rw [HR.out, HMe.out, decide_eq_false]
              intro hc
              exact HWx.out.1 hLp ((stops_none HS.out).1 hc x)
            clear HE2
            go_wp2
            go_ret2
            exact MyPost.mk' HR2.out (HLo.out.trans (HBw2.out.mono HLo.out.size))
          case neg =>
            have hL0 : L = 0 := by omega
            have HE3 : Hid (∀ t ∈ ss ++ [x], waitsN s come t = []) := fun t ht => by
              rcases List.mem_append.1 ht with h1 | h1
              · exact HE2.out t h1
              · rw [List.mem_singleton.1 h1]
                apply Classical.byContradiction
                intro hc
                exact hLp (HWx.out.2 hc)
            subst hL0
            clear HE2 hLp
            go_wp2
            go_roundw
            case rel => exact ⟨_, cnt2, ss ++ [x], HRg2.out, HC2.out, HE3.out, HBw2.out⟩
            case measure => rw [HRg2.out.left_eq, HLe.out.1]; exact HLe.out.2
end Go.Proofs.Ytflpikickbellaa
