/- Layer 32: the reference's Plan. -/
import Derived.Test.YtflpikickbellaaKRt6
import Derived.Test.YtflpikickbellaaKG2
import Derived.Test.YtflpikickbellaaKG10
namespace Go.Proofs.Ytflpikickbellaa
open Go.RowKit Go.Shelf Go.Sort
set_option maxRecDepth 100000

/-- What Plan hands back. -/
def IPost (w : World) (r : List Ins × Int) (e : Ending) (w' : World) : Prop := ∃ a c, e = .returned (.tuple #[.slice a r.1.length c, .int .i64 r.2]) ∧ SlX w' w'.heap.size a r.1 ∧ Below w.heap.size w w'
theorem IPost.none {w w' : World} {r : List Ins × Int} {x : Int} (h : r = ([], x)) (hb : Below w.heap.size w w') : IPost w r (.returned (.tuple #[.slice none 0 0, .int .i64 x])) w' := by
  subst h
  exact ⟨Option.none, 0, rfl, fun h => absurd rfl h, hb⟩
theorem IPost.some_ {w w' : World} {r : List Ins × Int} {l : List Ins} {n : Nat} {a : Option Addr} {c : Nat} (h : r = (l, 0)) (hn : n = l.length) (hs : SlX w' w'.heap.size a l) (hb : Below w.heap.size w w') : IPost w r (.returned (.tuple #[.slice a n c, .int .i64 0])) w' := by
  subst h hn
  exact ⟨a, c, rfl, hs, hb⟩
theorem plE_e {s : Sft} (h : (plndE s).2 ≠ 0) : plE s = ([], (plndE s).2) := by unfold plE; rw [if_pos h]
theorem plE_ok {s : Sft} (h : (plndE s).2 = 0) : plE s = (plnI s (plndE s).1, 0) := by unfold plE; rw [if_neg (by simpa using h)]
structure PlA (W1 : World) (v : Value) (O : List Ins) (W : World) : Prop where
  own : Owns W W1.heap.size [pxO v O]
  lo : Below W1.heap.size W1 W
theorem PlA.to {W1 W W' : World} {v : Value} {O : List Ins} (h : PlA W1 v O W) (hb : Below W.heap.size W W') : PlA W1 v O W' := ⟨h.own.to hb, h.lo.trans (hb.mono h.lo.size)⟩
set_option maxHeartbeats 16000000 in
theorem rplan_any (A F : Option Addr) (c fc : Nat) (s : Sft) (hl : s.to_.length ≤ 4611686018427387904) (hf : s.first.length ≤ 4611686018427387904) (w : World) (h : SfAt A F s w) :
    Calls Try.prog 12 #[sftV A F c fc s] w fun e w' => IPost w (plE s) e w' := by
  have hb0 := al_t w (sftB A F c fc s)
  have HX0 : Hid (SfBx w.heap.size A F c fc s (w.alloc (sftB A F c fc s)) ∧ Below w.heap.size w (w.alloc (sftB A F c fc s))) := ⟨SfBx.new c fc h, hb0⟩
  have c0 := HX0.out.1.c0
  have c1 := HX0.out.1.c1
  have HO := Lib.hid (rplnd_any A F c fc s hl hf _ HX0.out.1.at_)
  obtain ⟨r, hr⟩ : ∃ r, r = plE s := ⟨_, rfl⟩
  rw [← hr]
  clear h hb0
  by_cases hE : (plndE s).2 = 0
  case neg =>
    have HR : Hid (r = ([], (plndE s).2)) := by show _ = _; rw [hr, plE_e hE]
    have d0 : ((plndE s).2 != 0) = true := by simpa using hE
    have HO2 := Lib.hid (show Calls _ _ _ _ fun e w' => ∃ a n k, e = .returned (.tuple #[.slice a n k, .int .i64 (plndE s).2]) ∧ Below (w.alloc (sftB A F c fc s)).heap.size (w.alloc (sftB A F c fc s)) w' from Calls.mono HO.out fun e w' ⟨a, k, he, _, hb⟩ => ⟨a, _, k, he, hb⟩)
    obtain ⟨x, hx⟩ : ∃ x, x = (plndE s).2 := ⟨_, rfl⟩
    rw [← hx] at HR d0 HO2
    clear hr hE hx HO
    go_enter Try.func12, Try.ntmps12
    go_wp2_with fail
    refine HO2.out.mono ?_
    rintro e w1 ⟨a, n, k, rfl, hb1⟩
    have HB := Lib.hid (HX0.out.2.trans (hb1.mono HX0.out.2.size))
    clear hb1
    go_wp2
    go_ret2
    exact IPost.none HR.out HB.out
  case pos =>
  obtain ⟨hle, hsz⟩ := plndE_l hE
  have hs := sftE_ok hsz
  have HS := Lib.hid hs
  have hn40 : s.to_.length ≤ 40 := hs.len
  have HOk : Hid (r = (plnI s (plndE s).1, 0)) := hr.trans (plE_ok hE)
  have HO2 := Lib.hid (show Calls _ _ _ _ fun e w' => ∃ a k, e = .returned (.tuple #[.slice a (plndE s).1.length k, .int .i64 0]) ∧ SlI w' w'.heap.size a (plndE s).1 ∧ Below (w.alloc (sftB A F c fc s)).heap.size (w.alloc (sftB A F c fc s)) w' from Calls.mono HO.out fun e w' ⟨a, k, he, hsl, hb⟩ => ⟨a, k, by rw [he, hE], hsl, hb⟩)
  have hok := ordE_ok s
  rw [← hle] at hok
  obtain ⟨l, hlE⟩ : ∃ l, l = (plndE s).1 := ⟨_, rfl⟩
  rw [← hlE] at HO2 HOk hok
  have HLk := Lib.hid hok.1
  have hll : l.length ≤ 40 := Nat.le_trans hok.2 hn40
  have HPl := Lib.hid (fun k (hk : k ≤ l.length) => runP_len hok.1 k hk)
  obtain ⟨pb, hpb⟩ : ∃ pb, pb = w.heap.size := ⟨_, rfl⟩
  clear hr hE hs HO hlE hle hsz hok
  go_enter Try.func12, Try.ntmps12
  go_upto_region 4 with ((go_at_call 48; refine HO2.out.mono ?_; rintro e w1 ⟨a, kc, rfl, hsl, hb1⟩))
  refine abs_world (Q := fun W => Code.wp _ _ _ _ W) (F := fun W => SfBx w.heap.size A F c fc s W ∧ SlI W W.heap.size a l ∧ Below w.heap.size w W) _ ⟨HX0.out.1.to hb1, hsl, HX0.out.2.trans (hb1.mono HX0.out.2.size)⟩ ?_
  clear HX0 c0 c1 hb1 hsl HO2
  rintro W1 ⟨hx, hsl, hb1⟩
  rw [← hpb] at hx ⊢
  have HX := Lib.hid (And.intro hx (And.intro hsl hb1))
  have HXs : Hid (∀ W, Below W1.heap.size W1 W → SfBx pb A F c fc s W ∧ SlI W W.heap.size a l ∧ Below w.heap.size w W) := fun W hb => ⟨hx.to hb, (hsl.below hb).more hb.size, hb1.trans (hb.mono hb1.size)⟩
  have HP0 : Hid (PlA W1 (.slice none 0 0) (frontP s 0) W1) := ⟨Owns.nil.none 61 7, Below.refl _ _⟩
  clear hx hsl hb1 hpb
  go_wp2
  go_loopw [6, 7] (fun s6 s7 wr => ∃ i : Nat, i ≤ s.to_.length ∧ s7 = .int .i64 (i : Int) ∧ Hid (PlA W1 s6 (frontP s i) wr)) (fun _ s7 _ => s.to_.length - (intOf s7).toNat)
  case atStart => exact ⟨0, Nat.zero_le _, rfl, HP0.out⟩
  case round =>
    obtain ⟨i, hi, rfl, HP⟩ := hrel
    clear HP0
    obtain ⟨W3, hW3⟩ : ∃ W3 : World, W3 = wr := ⟨_, rfl⟩
    rw [← hW3] at HP ⊢
    clear hW3
    obtain ⟨a6, c6, rfl⟩ := pxO_form HP.out.own
    have c0 := (HXs.out W3 HP.out.lo).1.c0
    have c1 := (HXs.out W3 HP.out.lo).1.c1
    by_cases hlt : i < s.to_.length
    case pos =>
      have HM := Lib.hid (rmoved_any A F c fc s HS.out hf i hlt W3 (HXs.out W3 HP.out.lo).1.at_)
      have HNx := Lib.hid (frontP_next s i)
      have hfl := frontP_len s i
      cases hm : movedN s i with
      | false =>
        rw [hm] at HM HNx
        have HN2 : Hid (frontP s (i + 1) = frontP s i) := by show _ = _; rw [HNx.out]; simp
        clear hm HNx
        go_wp2_with fail
        refine HM.out.mono ?_
        rintro e w4 ⟨rfl, hb4⟩
        have HP4 : Hid (PlA W1 (.slice a6 (frontP s i).length c6) (frontP s (i + 1)) w4) := by
          show PlA _ _ _ _
          rw [HN2.out]; exact HP.out.to hb4
        clear hb4
        go_wp2
        go_roundw
        case rel => exact ⟨i + 1, by omega, by go_num, HP4.out⟩
        case measure => simp [intOf]; omega
      | true =>
        rw [hm] at HM HNx
        have HN2 : Hid (frontP s (i + 1) = frontP s i ++ [xferF i]) := by show _ = _; rw [HNx.out]; simp
        obtain ⟨O, hO⟩ : ∃ O, O = frontP s i := ⟨_, rfl⟩
        rw [← hO] at HN2 HP hfl ⊢
        clear hm HNx hO
        go_wp2_with fail
        refine HM.out.mono ?_
        rintro e w4 ⟨rfl, hb4⟩
        have hP4 := HP.out.to hb4
        obtain ⟨A9, k9, v9, hrun9, hO9, hb9⟩ := pxO_app hP4.own hP4.lo.size (by omega) (xferF i)
        have hr9 : (Builtin.append_ #[32, 32] 32 #[.slice a6 O.length c6, .slice (some ⟨w4.heap.size, 0, none⟩) 1 1]).run Try.prog (w4.alloc (.cells #[.int .u8 7, .bool false, .int .u8 0, .int .i64 (i : Int), .int .i64 (i : Int), .int .i64 0, .int .i64 0] 61)) = .ok (.slice A9 (O.length + 1) k9) v9 := hrun9
        have HP9 : Hid (PlA W1 (.slice A9 (O.length + 1) k9) (frontP s (i + 1)) v9) := by
          show PlA _ _ _ _
          rw [HN2.out]; exact ⟨hO9, hP4.lo.trans hb9⟩
        clear hb4 hP4 hrun9 hO9 hb9
        go_wp2_with (at_builtin; refine wpList_append_run _ rfl _ _ _ _ rfl _ _ (by rfl) (by rfl) hr9 ?_)
        go_roundw
        case rel => exact ⟨i + 1, by omega, by go_num, HP9.out⟩
        case measure => simp [intOf]; omega
    case neg =>
      obtain rfl : i = s.to_.length := by omega
      have HP2 : Hid (PlA W1 (.slice a6 (frontP s s.to_.length).length c6) (runP s l 0).2 W3) := HP.out
      obtain ⟨n6, hn6⟩ : ∃ n, n = (frontP s s.to_.length).length := ⟨_, rfl⟩
      rw [← hn6] at HP2 ⊢
      clear hi hlt HP hn6
      go_wp2
      clear c0 c1
      go_loopw [6, 8, 9] (fun s6 s8 s9 wr => ∃ k : Nat, k ≤ l.length ∧ s9 = .int .i64 (k : Int) ∧ s8 = .int .i64 (runP s l k).1 ∧ Hid (PlA W1 s6 (runP s l k).2 wr)) (fun _ _ s9 _ => l.length - (intOf s9).toNat)
      case atStart => exact ⟨0, Nat.zero_le _, rfl, rfl, HP2.out⟩
      case round =>
        obtain ⟨k, hk, rfl, rfl, HP⟩ := hrel
        clear HP2
        obtain ⟨W5, hW5⟩ : ∃ W5 : World, W5 = wr := ⟨_, rfl⟩
        rw [← hW5] at HP ⊢
        clear hW5
        obtain ⟨a7, c7, rfl⟩ := pxO_form HP.out.own
        have c0 := (HXs.out W5 HP.out.lo).1.c0
        have c1 := (HXs.out W5 HP.out.lo).1.c1
        have hpl := HPl.out k hk
        have hpl2 : (runP s l k).2.length ≤ 200 := by have e : s.n = s.to_.length := rfl; omega
        clear hpl
        by_cases hkl : k < l.length
        case pos =>
          obtain ⟨b, off, x, hA, -, hx, hcx⟩ := (HXs.out W5 HP.out.lo).2.1.at_ hkl
          obtain ⟨i, hxi, hil⟩ := HLk.out x (List.mem_of_getElem? hx)
          subst hxi
          have hil' : i < s.to_.length := hil
          have HNx := Lib.hid (runP_next (s := s) hx)
          have HOi : Hid (∀ W, Below W5.heap.size W5 W → Calls Try.prog 42 #[sftV A F c fc s, .int .i64 (i : Int)] W fun e w' => e = .returned (.int .i64 (offN s i)) ∧ Below W.heap.size W w') := fun W hb => roff_later c fc HS.out (HXs.out W5 HP.out.lo).1.at_ i W hil hb
          have HSx : Hid (∀ W, Below W5.heap.size W5 W → ∃ b2 off2, A = some ⟨b2, off2, none⟩ ∧ W.cell? ⟨pb, 0, none⟩ = some (.slice A s.to_.length c) ∧ W.cell? ⟨pb, 1, none⟩ = some (.slice F s.first.length fc) ∧ W.cell? ⟨b2, off2 + i, none⟩ = some (.int .i64 (s.to_.getD i 0))) := fun W hb => by
            have h1 := (HXs.out W5 HP.out.lo).1.to hb
            obtain ⟨b2, off2, e, hc⟩ := h1.to_at hil
            exact ⟨b2, off2, e, h1.c0, h1.c1, hc⟩
          subst hA
          obtain ⟨b2, off2, hA2, -⟩ := HSx.out W5 (Below.refl _ _)
          subst hA2
          have HSx2 : Hid (∀ W, Below W5.heap.size W5 W → W.cell? ⟨pb, 0, none⟩ = some (.slice (some ⟨b2, off2, none⟩) s.to_.length c) ∧ W.cell? ⟨pb, 1, none⟩ = some (.slice F s.first.length fc) ∧ W.cell? ⟨b2, off2 + i, none⟩ = some (.int .i64 (s.to_.getD i 0))) := fun W hb => by
            obtain ⟨b3, off3, e, h1, h2, h3⟩ := HSx.out W hb
            cases e
            exact ⟨h1, h2, h3⟩
          obtain ⟨z, hz⟩ : ∃ z, z = s.to_.getD i 0 := ⟨_, rfl⟩
          have HZ : Hid (z = s.to_.getD i 0) := hz
          obtain ⟨o, ho⟩ : ∃ o, o = offN s i := ⟨_, rfl⟩
          obtain ⟨now, hnow⟩ : ∃ now, now = (runP s l k).1 := ⟨_, rfl⟩
          obtain ⟨O, hO⟩ : ∃ O, O = (runP s l k).2 := ⟨_, rfl⟩
          have HN2 : Hid (runP s l (k + 1) = (o, O ++ (turnI now o ++ [xferB i z]))) := by
            show _ = _
            rw [HNx.out, hz, ho, hnow, hO]
          rw [← hO] at HP hpl2 ⊢
          rw [← hnow]
          simp only [← ho] at HOi
          simp only [← hz] at HSx2
          clear HNx HSx hz ho hnow hO hx
          by_cases eo : o = now
          case pos =>
            have d1 : (o != now) = false := by simpa using eo
            have HN3 : Hid (runP s l (k + 1) = (o, O ++ [xferB i z])) := by show _ = _; rw [HN2.out]; unfold turnI; rw [if_pos eo]; rfl
            clear HN2
            subst eo
            go_wp2_with fail
            refine (HOi.out W5 (Below.refl _ _)).mono ?_
            rintro e w6 ⟨rfl, hb6⟩
            obtain ⟨e0, e1, e2⟩ := HSx2.out w6 hb6
            have hP6 := HP.out.to hb6
            obtain ⟨A9, k9, v9, hrun9, hO9, hb9⟩ := pxO_app hP6.own hP6.lo.size (by omega) (xferB i z)
            have hr9 : (Builtin.append_ #[32, 32] 32 #[.slice a7 O.length c7, .slice (some ⟨w6.heap.size, 0, none⟩) 1 1]).run Try.prog (w6.alloc (.cells #[.int .u8 7, .bool false, .int .u8 1, .int .i64 (i : Int), .int .i64 z, .int .i64 0, .int .i64 0] 61)) = .ok (.slice A9 (O.length + 1) k9) v9 := hrun9
            have HP9 : Hid (PlA W1 (.slice A9 (O.length + 1) k9) (runP s l (k + 1)).2 v9) := by
              show PlA _ _ _ _
              rw [HN3.out]; exact ⟨hO9, hP6.lo.trans hb9⟩
            have HO1 : Hid (o = (runP s l (k + 1)).1) := by show _ = _; rw [HN3.out]
            clear hb6 hP6 hrun9 hO9 hb9 c0 c1 HN3
            go_wp2_with (at_builtin; refine wpList_append_run _ rfl _ _ _ _ rfl _ _ (by rfl) (by rfl) hr9 ?_)
            go_roundw
            case rel => exact ⟨k + 1, by omega, by go_num, by rw [← HO1.out], HP9.out⟩
            case measure => simp [intOf]; omega
          case neg =>
            have d1 : (o != now) = true := by simpa using eo
            have HN3 : Hid (runP s l (k + 1) = (o, (O ++ [rackI o]) ++ [xferB i z])) := by show _ = _; rw [HN2.out]; unfold turnI; rw [if_neg eo, List.append_assoc]
            clear HN2 eo
            go_wp2_with fail
            refine (HOi.out W5 (Below.refl _ _)).mono ?_
            rintro e w6 ⟨rfl, hb6⟩
            obtain ⟨e0, e1, e2⟩ := HSx2.out w6 hb6
            have HB6 := Lib.hid hb6
            clear hb6 c0 c1
            go_wp2_with fail
            refine (HOi.out w6 HB6.out).mono ?_
            rintro e w7 ⟨rfl, hb7⟩
            have hb57 := HB6.out.trans (hb7.mono HB6.out.size)
            have hP7 := HP.out.to hb57
            obtain ⟨A8, k8, v8, hrun8, hO8, hb8⟩ := pxO_app hP7.own hP7.lo.size (by omega) (rackI o)
            have hr8 : (Builtin.append_ #[32, 32] 32 #[.slice a7 O.length c7, .slice (some ⟨w7.heap.size, 0, none⟩) 1 1]).run Try.prog (w7.alloc (.cells #[.int .u8 8, .bool false, .int .u8 0, .int .i64 0, .int .i64 0, .int .i64 0, .int .i64 o] 61)) = .ok (.slice A8 (O.length + 1) k8) v8 := hrun8
            have hP8 : PlA W1 (.slice A8 (O.length + 1) k8) (O ++ [rackI o]) v8 := ⟨hO8, hP7.lo.trans hb8⟩
            have hl8 : (O ++ [rackI o]).length = O.length + 1 := by rw [List.length_append]; rfl
            have hs8 := (HXs.out v8 hP8.lo).1
            obtain ⟨b3, off3, eA, hz3⟩ := hs8.to_at hil
            cases eA
            have hzv : v8.cell? ⟨b2, off2 + i, none⟩ = some (.int .i64 z) := by rw [HZ.out]; exact hz3
            have g0 := hs8.c0
            have g1 := hs8.c1
            have hown8 := hP8.own
            rw [← hl8] at hown8
            obtain ⟨A9, k9, v9, hrun9, hO9, hb9⟩ := pxO_app hown8 hP8.lo.size (by rw [hl8]; omega) (xferB i z)
            have hr9 : (Builtin.append_ #[32, 32] 32 #[.slice A8 (O ++ [rackI o]).length k8, .slice (some ⟨v8.heap.size, 0, none⟩) 1 1]).run Try.prog (v8.alloc (.cells #[.int .u8 7, .bool false, .int .u8 1, .int .i64 (i : Int), .int .i64 z, .int .i64 0, .int .i64 0] 61)) = .ok (.slice A9 ((O ++ [rackI o]).length + 1) k9) v9 := hrun9
            rw [hl8] at hr9 hO9
            have HP9 : Hid (PlA W1 (.slice A9 (O.length + 1 + 1) k9) (runP s l (k + 1)).2 v9) := by
              show PlA _ _ _ _
              rw [HN3.out]; exact ⟨hO9, hP8.lo.trans hb9⟩
            have HO1 : Hid (o = (runP s l (k + 1)).1) := by show _ = _; rw [HN3.out]
            clear hb7 hb57 hP7 hrun8 hO8 hb8 hP8 hs8 hz3 hown8 hrun9 hO9 hb9 HN3 e0 e1 e2 hl8
            go_wp2_with (first
              | (at_builtin; refine wpList_append_run _ rfl _ _ _ _ rfl _ _ (by rfl) (by rfl) hr8 ?_)
              | (at_builtin; refine wpList_append_run _ rfl _ _ _ _ rfl _ _ (by rfl) (by rfl) hr9 ?_))
            go_roundw
            case rel => exact ⟨k + 1, by omega, by go_num, by rw [← HO1.out], HP9.out⟩
            case measure => simp [intOf]; omega
        case neg =>
          obtain rfl : k = l.length := by omega
          obtain ⟨now, hnow⟩ : ∃ now, now = (runP s l l.length).1 := ⟨_, rfl⟩
          obtain ⟨O, hO⟩ : ∃ O, O = (runP s l l.length).2 := ⟨_, rfl⟩
          have HEnd : Hid (r = (O ++ turnI now 0, 0)) := by show _ = _; rw [HOk.out, hO, hnow]; rfl
          rw [← hO] at HP hpl2 ⊢
          rw [← hnow]
          clear hO hnow HOk
          by_cases en : now = 0
          case pos =>
            have d1 : (now != 0) = false := by simpa using en
            have HE2 : Hid (r = (O, 0)) := by show _ = _; rw [HEnd.out]; unfold turnI; rw [if_pos en.symm, List.append_nil]
            have HSl := Lib.hid (pxO_sl HP.out.own)
            clear HEnd en
            go_wp2
            go_ret2
            exact IPost.some_ HE2.out rfl HSl.out (HXs.out W5 HP.out.lo).2.2
          case neg =>
            have d1 : (now != 0) = true := by simpa using en
            have HE2 : Hid (r = (O ++ [rackI 0], 0)) := by show _ = _; rw [HEnd.out]; unfold turnI; rw [if_neg (fun e => en e.symm)]
            obtain ⟨A9, k9, v9, hrun9, hO9, hb9⟩ := pxO_app HP.out.own HP.out.lo.size (by omega) (rackI 0)
            have hr9 : (Builtin.append_ #[32, 32] 32 #[.slice a7 O.length c7, .slice (some ⟨W5.heap.size, 0, none⟩) 1 1]).run Try.prog (W5.alloc (.cells #[.int .u8 8, .bool false, .int .u8 0, .int .i64 0, .int .i64 0, .int .i64 0, .int .i64 0] 61)) = .ok (.slice A9 (O.length + 1) k9) v9 := hrun9
            have hl9 : O.length + 1 = (O ++ [rackI 0]).length := by rw [List.length_append]; rfl
            have HSl : Hid (SlX v9 v9.heap.size A9 (O ++ [rackI 0])) := by
              rw [hl9] at hO9
              exact pxO_sl hO9
            have HLo := Lib.hid ((HXs.out v9 (HP.out.lo.trans hb9)).2.2)
            have HL9 := Lib.hid hl9
            clear hrun9 hO9 hb9 HEnd en hl9
            go_wp2_with (at_builtin; refine wpList_append_run _ rfl _ _ _ _ rfl _ _ (by rfl) (by rfl) hr9 ?_)
            go_ret2
            exact IPost.some_ HE2.out HL9.out HSl.out HLo.out
end Go.Proofs.Ytflpikickbellaa
