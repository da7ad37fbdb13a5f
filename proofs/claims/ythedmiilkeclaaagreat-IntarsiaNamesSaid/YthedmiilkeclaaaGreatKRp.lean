/- Layer 34: the reference's Plan, walked. -/
import Derived.Test.YthedmiilkeclaaaGreatKRu
namespace Go.Proofs.YthedmiilkeclaaaGreat
open Go.RowKit Go.Shelf Go.Sort
open Go.Proofs.YthedmiilkeclaaaGreat.I34
set_option maxRecDepth 100000

set_option maxHeartbeats 32000000 in
theorem rplan_walk (A : Option Addr) (c : Nat) (p : List (List Int)) (lim : Nat) (w : World) (h : SlRows w w.heap.size A p) (hrl : ∀ row ∈ p, row.length ≤ 4611686018427387904) (he : chkL p (lim : Int) = 0)
    (hlen : ∀ t k, t ≤ p.length → k ≤ 6 → (outR p lim t k).length ≤ 2000) (hwf : ∀ i ∈ outR p lim p.length 0, i.wf) (hrun : (runS bed0 (outR p lim p.length 0)).2.2 = 0) :
    Calls Tryz.prog 50 #[.slice A p.length c, .int .i64 (lim : Int)] w fun e w' => ∃ a n c', e = .returned (.tuple #[.slice a n c', .int .i64 0]) ∧ Below w.heap.size w w' := by
  have hlk := looked_any A c p (lim : Int) w h hrl
  rw [he] at hlk
  obtain ⟨hc0, hl1, hl40⟩ := chkL_zero he
  obtain ⟨hp100, hrows⟩ := chk_zero hc0
  have hr101 : ∀ row ∈ p, row.length ≤ 101 := fun row hr => (hrows row hr).2
  have HLk := Lib.hid hlk
  have HS0 := Lib.hid h
  have HLen := Lib.hid hlen
  have HWf := Lib.hid hwf
  have HRun := Lib.hid hrun
  have hmk := mk_left
  clear hlk h hrl he hlen hwf hrun hc0 hrows
  go_enter Tryz.func50, Tryz.ntmps50
  go_upto_region 3 with ((go_at_call 69; refine HLk.out.mono ?_; rintro e w1 ⟨rfl, hb1⟩))
  refine abs_world (Q := fun W => Code.wp _ _ _ _ W) (F := fun W => Below w.heap.size w W) _ hb1 ?_
  clear hb1 HLk
  rintro W1 hb1
  have HR1 : Hid (SlRows W1 W1.heap.size A p) := (HS0.out.below hb1).more hb1.size
  have HO1 : Hid (Owns W1 W1.heap.size [pxO (.slice none 0 0) (insK p 0)]) := Owns.nil.none 31 7
  have HE1 : Hid (∀ W, Below W1.heap.size W1 W → Below w.heap.size w W) := fun W hb => hb1.trans (hb.mono hb1.size)
  clear hb1 HS0
  go_wp2
  go_loopw [6, 7] (fun s6 s7 wr => ∃ k : Nat, k ≤ 6 ∧ s7 = .int .i64 ((k : Int) + 1) ∧ Hid (Owns wr W1.heap.size [pxO s6 (insK p k)]) ∧ Hid (Below W1.heap.size W1 wr)) (fun _ s7 _ => 7 - (intOf s7).toNat)
  case atStart => exact ⟨0, by omega, rfl, HO1.out, Below.refl _ _⟩
  case round =>
    obtain ⟨k, hk, rfl, HO, HB⟩ := hrel
    clear HO1
    obtain ⟨wo, hwo⟩ : ∃ wo : World, wo = wr := ⟨_, rfl⟩
    rw [← hwo] at HO HB ⊢
    clear hwo
    obtain ⟨a6, c6, rfl⟩ := pxO_form HO.out
    by_cases hlt : k < 6
    case pos =>
      have d0 : decide ((k : Int) + 1 ≤ 6) = true := decide_eq_true (by omega)
      have hil := insK_len p k
      go_wp2
      go_loopw [8, 9] (fun s8 s9 wq => ∃ i : Nat, i ≤ p.length ∧ s9 = .int .i64 (i : Int) ∧ s8 = .bool ((p.take i).any (·.contains ((k : Int) + 1))) ∧ wo = wq) (fun _ s9 _ => p.length - (intOf s9).toNat)
      case atStart => exact ⟨0, Nat.zero_le _, rfl, rfl, rfl⟩
      case round =>
        obtain ⟨i, hi, rfl, rfl, rfl⟩ := hrel
        by_cases hil2 : i < p.length
        case pos =>
          obtain ⟨rb, roff, row, A', C', hA, hrb, hrow, hrc, hrs⟩ := HR1.out.at_ hil2
          subst hA
          have hrc2 := (bcell HB.out hrb _).trans hrc
          have HH := Lib.hid (has34_any A' C' row ((k : Int) + 1) wo ((hrs.below HB.out).more HB.out.size) (by have := hr101 row (List.mem_of_getElem? hrow); omega))
          have HN := Lib.hid (any_next hrow ((k : Int) + 1))
          obtain ⟨b, hb⟩ : ∃ b, b = row.contains ((k : Int) + 1) := ⟨_, rfl⟩
          rw [← hb] at HH HN
          clear hrc hrs hrow hb
          cases ha : (p.take i).any (·.contains ((k : Int) + 1)) with
          | true =>
            rw [ha] at HN
            clear ha HH
            go_wp2
            go_roundw
            case rel => exact ⟨i + 1, by omega, by go_num, by rw [HN.out]; rfl, trivial⟩
            case measure => simp [intOf]; omega
          | false =>
            rw [ha] at HN
            clear ha
            go_wp2_with ((go_at_call 70; refine HH.out.mono ?_; rintro e w2 ⟨rfl, rfl⟩))
            go_roundw
            case rel => exact ⟨i + 1, by omega, by go_num, by rw [HN.out]; rfl, trivial⟩
            case measure => simp [intOf]; omega
        case neg =>
          obtain rfl : i = p.length := by omega
          rw [List.take_length, ← flat_has]
          have HNx := Lib.hid (insK_next (p := p) hlt)
          cases hct : p.flatten.contains ((k : Int) + 1) with
          | true =>
            rw [hct] at HNx
            have hal := (Below.refl wo.heap.size wo).alloc (Nat.le_refl _) (.cells #[.int .u8 1, .bool false, .int .u8 0, .int .i64 0, .int .i64 0, .int .i64 ((k : Int) + 1), .int .i64 0] 31)
            obtain ⟨A9, c9, w9, hrun, hown9, hb9⟩ := owns_app (HO.out.to hal) (by have := HB.out.size; have := hal.size; omega) (ins_lit wo ((k : Int) + 1)) (by simp; omega) 1
            have hr9 : (Builtin.append_ #[25, 25] 25 #[.slice a6 (insK p k).length c6, .slice (some ⟨wo.heap.size, 0, none⟩) 1 1]).run Tryz.prog (wo.alloc (.cells #[.int .u8 1, .bool false, .int .u8 0, .int .i64 0, .int .i64 0, .int .i64 ((k : Int) + 1), .int .i64 0] 31)) = .ok (.slice A9 ((insK p k).length + 1) c9) w9 := hrun
            have HO9 : Hid (Owns w9 W1.heap.size [pxO (.slice A9 ((insK p k).length + 1) c9) (insK p (k + 1))]) := by
              show Owns _ _ _
              rw [HNx.out]
              exact hown9
            have HB9 := Lib.hid (HB.out.trans ((hal.mono HB.out.size).trans hb9))
            clear hrun hown9 hb9 hal hct hil HO hil2
            go_wp2_with (at_builtin; refine wpList_append_run _ rfl _ _ _ _ rfl _ _ (by rfl) (by rfl) hr9 ?_)
            go_roundw
            case rel => exact ⟨k + 1, by omega, by go_num, HO9.out, HB9.out⟩
            case measure => simp [intOf]; omega
          | false =>
            rw [hct] at HNx
            have HO9 : Hid (Owns wo W1.heap.size [pxO (.slice a6 (insK p k).length c6) (insK p (k + 1))]) := by
              show Owns _ _ _
              rw [HNx.out]
              have h := HO.out
              simp only [Bool.false_eq_true, if_false, List.append_nil]
              exact h
            clear hct hil HO hil2
            go_wp2
            go_roundw
            case rel => exact ⟨k + 1, by omega, by go_num, HO9.out, HB.out⟩
            case measure => simp [intOf]; omega
    case neg =>
      obtain rfl : k = 6 := by omega
      rw [show (((6 : Nat) : Nat) : Int) + 1 = 7 from rfl]
      have hX : Owns (wo.alloc (.cells #[.bool false, .bool false, .bool false, .bool false, .bool false, .bool false, .bool false] 4)) W1.heap.size [pxO (.slice a6 (insK p 6).length c6) (outR p lim 0 0), pxL wo.heap.size (fun _ => false)] ∧ Below W1.heap.size W1 (wo.alloc (.cells #[.bool false, .bool false, .bool false, .bool false, .bool false, .bool false, .bool false] 4)) := by
        have hal := (Below.refl wo.heap.size wo).alloc (Nat.le_refl _) (.cells #[.bool false, .bool false, .bool false, .bool false, .bool false, .bool false, .bool false] 4)
        refine ⟨?_, HB.out.trans (hal.mono HB.out.size)⟩
        rw [outR_zero]
        exact (left_new HO.out HB.out.size).swap
      have HX := Lib.hid hX
      have hi6 : (insK p 6).length = (outR p lim 0 0).length := by rw [outR_zero]
      obtain ⟨n6, hn6⟩ : ∃ n, n = (insK p 6).length := ⟨_, rfl⟩
      rw [← hn6] at HX ⊢
      have HN6 : Hid (n6 = (outR p lim 0 0).length) := by show _ = _; rw [hn6, hi6]
      clear hX hi6 hn6 hk hlt HO HB
      go_upto_region 15 with fail
      refine abs_world (Q := fun W => Code.wp _ _ _ _ W) (F := fun W => Owns W W1.heap.size [pxO (.slice a6 n6 c6) (outR p lim 0 0), pxL wo.heap.size (fun _ => false)] ∧ Below W1.heap.size W1 W) _ HX.out ?_
      clear HX
      obtain ⟨g, hg⟩ : ∃ g, g = wo.heap.size := ⟨_, rfl⟩
      rw [← hg]
      clear hg hmk
      rintro W2 ⟨hO2, hb2⟩
      have HO2 := Lib.hid hO2
      have HB2 := Lib.hid hb2
      clear hO2 hb2
      go_wp2
      go_loopw [6, 11] (fun s6 s11 wr => ∃ t : Nat, t ≤ p.length ∧ s11 = .int .i64 (t : Int) ∧ ∃ F : Nat → Bool, Hid (Owns wr W1.heap.size [pxO s6 (outR p lim t 0), pxL g F]) ∧ Hid (∀ k, 1 ≤ k → k ≤ 6 → F k = leftR p t 0 k) ∧ Hid (Below W1.heap.size W1 wr)) (fun _ s11 _ => p.length - (intOf s11).toNat)
      case atStart => exact ⟨0, Nat.zero_le _, rfl, fun _ => false, HO2.out, fun k h1 _ => (leftR_start p h1).symm, HB2.out⟩
      case round =>
        obtain ⟨t, ht, rfl, F, HO3, HF3, HB3⟩ := hrel
        clear HO2 HB2 HN6
        obtain ⟨a7, c7, rfl⟩ := pxO_form HO3.out
        by_cases hlt : t < p.length
        case pos =>
          obtain ⟨rb, roff, row, A', C', hA, hrb, hrow, hrc, hrs⟩ := HR1.out.at_ hlt
          subst hA
          have HRc : Hid (∀ W, Below W1.heap.size W1 W → W.cell? ⟨rb, roff + t, none⟩ = some (.slice A' row.length C')) := fun W hb => (bcell hb hrb _).trans hrc
          have HRs : Hid (∀ W, Below W1.heap.size W1 W → SlI W W.heap.size A' row) := fun W hb => (hrs.below hb).more hb.size
          have HRs1 : Hid (SlI W1 W1.heap.size A' row) := hrs
          have hrow101 := hr101 row (List.mem_of_getElem? hrow)
          have HRw := Lib.hid hrow
          clear hrs hrc hrow
          go_wp2
          go_loopw [6, 12] (fun s6 s12 wr => ∃ k : Nat, k ≤ 6 ∧ s12 = .int .i64 ((k : Int) + 1) ∧ ∃ F : Nat → Bool, Hid (Owns wr W1.heap.size [pxO s6 (outR p lim t k), pxL g F]) ∧ Hid (∀ j, 1 ≤ j → j ≤ 6 → F j = leftR p t k j) ∧ Hid (Below W1.heap.size W1 wr)) (fun _ s12 _ => 7 - (intOf s12).toNat)
          case atStart => exact ⟨0, by omega, rfl, F, HO3.out, HF3.out, HB3.out⟩
          case round =>
            obtain ⟨k, hk, rfl, G, HO4, HF4, HB4⟩ := hrel
            clear HO3 HF3 HB3
            obtain ⟨wo, hwo⟩ : ∃ wo : World, wo = wr := ⟨_, rfl⟩
            rw [← hwo] at HO4 HB4 ⊢
            clear hwo
            obtain ⟨a8, c8, rfl⟩ := pxO_form HO4.out
            by_cases hlk : k < 6
            case pos =>
              have d0 : decide ((k : Int) + 1 ≤ 6) = true := decide_eq_true (by omega)
              have hrc := HRc.out wo HB4.out
              have HH := Lib.hid (has34_any A' C' row ((k : Int) + 1) wo (HRs.out wo HB4.out) (by omega))
              have HNx := Lib.hid (outR_next (lim := lim) hlk HRw.out)
              have HLx := Lib.hid (fun j => leftR_next (c := k) HRw.out j)
              cases hct : row.contains ((k : Int) + 1) with
              | false =>
                rw [hct] at HH HNx HLx
                have HO5 : Hid (Owns wo W1.heap.size [pxO (.slice a8 (outR p lim t k).length c8) (outR p lim t (k + 1)), pxL g G]) := by
                  show Owns _ _ _
                  rw [HNx.out]
                  have h := HO4.out
                  simp only [Bool.false_eq_true, if_false, List.append_nil]
                  exact h
                have HF5 : Hid (∀ j, 1 ≤ j → j ≤ 6 → G j = leftR p t (k + 1) j) := fun j h1 h6 => by
                  rw [HLx.out j, if_neg (by simp)]
                  exact HF4.out j h1 h6
                clear hct HNx HLx HO4 HF4
                go_wp2_with ((go_at_call 70; refine HH.out.mono ?_; rintro e w2 ⟨rfl, rfl⟩))
                go_roundw
                case rel => exact ⟨k + 1, by omega, by go_num, G, HO5.out, HF5.out, HB4.out⟩
                case measure => simp [intOf]; omega
              | true =>
                rw [hct] at HH HNx HLx
                have hk1 : (((k + 1 : Nat) : Nat) : Int) = (k : Int) + 1 := by omega
                obtain ⟨y1, y2, y3, y4⟩ := pxL_at (HO4.out.all (pxL g G) (by simp)) (k := k + 1) (by omega)
                obtain ⟨q, hq⟩ : ∃ q, q = !(G (k + 1)) := ⟨_, rfl⟩
                have hqo : q = !oddB (p.take t) ((k : Int) + 1) := by
                  rw [hq, HF4.out (k + 1) (by omega) (by omega), leftR_here]
                obtain ⟨O, hO⟩ : ∃ O, O = outR p lim t k := ⟨_, rfl⟩
                rw [← hqo, ← hO] at HNx
                have HO5 := pxL_set (HO4.out.swap) (k + 1) q
                rw [← hO] at HO5
                have HX : Hid (Owns (wo.setCell ⟨g, k + 1, none⟩ (.bool q)) W1.heap.size [pxO (.slice a8 O.length c8) O, pxL g (fun j => if j = k + 1 then q else G j)] ∧ Below W1.heap.size W1 (wo.setCell ⟨g, k + 1, none⟩ (.bool q))) := ⟨HO5.swap, HB4.out.setCell (p := ⟨g, k + 1, none⟩) y3 _⟩
                have HF5 : Hid (∀ j, 1 ≤ j → j ≤ 6 → (if j = k + 1 then q else G j) = leftR p t (k + 1) j) := fun j h1 h6 => by
                  rw [HLx.out j]
                  by_cases e : j = k + 1
                  · rw [if_pos e, if_pos ⟨e, rfl⟩, hq, HF4.out (k + 1) (by omega) (by omega)]
                  · rw [if_neg e, if_neg (fun h => e h.1)]
                    exact HF4.out j h1 h6
                have HLO : Hid (O.length + row.length ≤ 2000) := by
                  have h1 := HLen.out t (k + 1) (by omega) (by omega)
                  rw [HNx.out, if_pos rfl, List.length_append, passR_len] at h1
                  exact h1
                obtain ⟨nq, hnq⟩ : ∃ nq, nq = G (k + 1) := ⟨_, rfl⟩
                rw [← hnq] at y1 hq
                have hq3 : (!nq) = q := hq.symm
                rw [← hO]
                clear hct HLx HO4 HF4 HO5 hq hqo y3 y4 hnq hO
                go_upto_region 25 with ((go_at_call 70; refine HH.out.mono ?_; rintro e w2 ⟨rfl, rfl⟩))
                refine abs_world (Q := fun W => Code.wp _ _ _ _ W) (F := fun W => Owns W W1.heap.size [pxO (.slice a8 O.length c8) O, pxL g (fun j => if j = k + 1 then q else G j)] ∧ Below W1.heap.size W1 W) _ HX.out ?_
                clear HX HH y1 y2 hrc HB4 hq3
                rintro W5 ⟨hO5, hb5⟩
                obtain ⟨F', hF'⟩ : ∃ F' : Nat → Bool, F' = fun j => if j = k + 1 then q else G j := ⟨_, rfl⟩
                have HF6 : Hid (∀ j, 1 ≤ j → j ≤ 6 → F' j = leftR p t (k + 1) j) := by rw [hF']; exact HF5
                rw [← hF'] at hO5
                have HO5 := Lib.hid hO5
                have HB5 := Lib.hid hb5
                clear hO5 hb5 HF5 hF'
                go_wp2
                go_loopw [6, 14] (fun s6 s14 wq => ∃ n : Nat, n ≤ row.length ∧ s14 = .int .i64 (n : Int) ∧ Hid (Owns wq W1.heap.size [pxO s6 (O ++ (passR row ((k : Int) + 1) lim q).take n), pxL g F']) ∧ Hid (Below W1.heap.size W1 wq)) (fun _ s14 _ => row.length - (intOf s14).toNat)
                case atStart => exact ⟨0, Nat.zero_le _, rfl, by rw [List.take_zero, List.append_nil]; exact HO5.out, HB5.out⟩
                case round =>
                  obtain ⟨n, hn, rfl, HO6, HB6⟩ := hrel
                  clear HO5 HB5
                  obtain ⟨wd, hwd⟩ : ∃ wd : World, wd = wr := ⟨_, rfl⟩
                  rw [← hwd] at HO6 HB6 ⊢
                  clear hwd
                  obtain ⟨a9, c9, rfl⟩ := pxO_form HO6.out
                  obtain ⟨M, hMe⟩ : ∃ M, M = (O ++ (passR row ((k : Int) + 1) lim q).take n).length := ⟨_, rfl⟩
                  rw [← hMe] at HO6 ⊢
                  have HMe := Lib.hid hMe
                  clear hMe
                  have hrc := HRc.out wd HB6.out
                  by_cases hnl : n < row.length
                  case pos =>
                    obtain ⟨K, hK⟩ : ∃ K, K = atR row.length q n := ⟨_, rfl⟩
                    have hKl : K < row.length := by rw [hK]; unfold atR; split <;> omega
                    obtain ⟨b2, off2, z, hA2, hB2, hz, hcz⟩ := HRs1.out.at_ hKl
                    subst hA2
                    have hal := (Below.refl wd.heap.size wd).alloc (Nat.le_refl _) (insBox ⟨5, q, 0, (K : Int), 0, (k : Int) + 1, 0⟩)
                    have hX : Owns (wd.alloc (.cells #[.int .u8 5, .bool q, .int .u8 0, .int .i64 (K : Int), .int .i64 0, .int .i64 ((k : Int) + 1), .int .i64 0] 31)) W1.heap.size [rowX wd.heap.size ⟨5, q, 0, (K : Int), 0, (k : Int) + 1, 0⟩, pxO (.slice a9 M c9) (O ++ (passR row ((k : Int) + 1) lim q).take n), pxL g F'] ∧ Below W1.heap.size W1 (wd.alloc (.cells #[.int .u8 5, .bool q, .int .u8 0, .int .i64 (K : Int), .int .i64 0, .int .i64 ((k : Int) + 1), .int .i64 0] 31)) :=
                      ⟨HO6.out.add hal HB6.out.size (rowX_new wd _), HB6.out.trans (hal.mono HB6.out.size)⟩
                    have HX := Lib.hid hX
                    have HIn : Hid (insR row ((k : Int) + 1) lim q K = ⟨if z = (k : Int) + 1 then 3 else if bndQ (flo row ((k : Int) + 1)) (lim + 1) K q then 4 else 5, q, 0, (K : Int), 0, (k : Int) + 1, 0⟩) := by
                      show _ = _
                      unfold insR
                      rw [List.getD_eq_getElem?_getD, hz]
                      rfl
                    have HK := Lib.hid hK
                    clear hX hal hK HO6 HB6
                    cases q with
                    | true =>
                      obtain rfl : n = K := by rw [HK.out]; rfl
                      go_upto_region 30 with fail
                      go_upto_region 31 with fail

                      refine abs_world (Q := fun W => Code.wp _ _ _ _ W) (F := fun W => Owns W W1.heap.size [rowX wd.heap.size ⟨5, true, 0, (n : Int), 0, (k : Int) + 1, 0⟩, pxO (.slice a9 M c9) (O ++ (passR row ((k : Int) + 1) lim true).take n), pxL g F'] ∧ Below W1.heap.size W1 W) _ HX.out ?_
                      clear HX
                      obtain ⟨xb, hxb⟩ : ∃ xb, xb = wd.heap.size := ⟨_, rfl⟩
                      rw [← hxb]
                      clear hxb hrc
                      rintro W6 ⟨hO6, hb6⟩
                      have hrc := HRc.out W6 hb6
                      have hcz6 := (bcell hb6 hB2 _).trans hcz
                      obtain ⟨x0, x1, x2, x3, x4, x5, x6⟩ := rowX_at (B := W1.heap.size) (hO6.all (rowX xb ⟨5, true, 0, (n : Int), 0, (k : Int) + 1, 0⟩) (by simp))

                      have hxl := World.ownsRow.lt (show W6.ownsRow W1.heap.size 31 7 (.slice (some ⟨xb, 0, none⟩) 1 1) 1 _ from hO6.head) xb rfl
                      have hfz : W6.frozen? ⟨xb, 0, none⟩ = false := World.ownsRow.frozenAt (show W6.ownsRow W1.heap.size 31 7 (.slice (some ⟨xb, 0, none⟩) 1 1) 1 _ from hO6.head) 0
                      have HO6 := Lib.hid hO6
                      have HB6 := Lib.hid hb6
                      have HXL := Lib.hid hxl
                      clear hO6 hb6 hxl
                      by_cases hz3 : z = (k : Int) + 1
                      case pos =>
                        have d3 : (z == (k : Int) + 1) = true := by simp [hz3]
                        have HIn3 : Hid (insR row ((k : Int) + 1) lim true (atR row.length true n) = ⟨3, true, 0, (n : Int), 0, (k : Int) + 1, 0⟩) := by
                          show _ = _
                          rw [← HK.out, HIn.out, if_pos hz3]
                        have HX : Hid (Owns (W6.setCell ⟨xb, 0, none⟩ (.int .u8 3)) W1.heap.size [rowX xb (insR row ((k : Int) + 1) lim true (atR row.length true n)), pxO (.slice a9 M c9) (O ++ (passR row ((k : Int) + 1) lim true).take n), pxL g F'] ∧ Below W1.heap.size W1 (W6.setCell ⟨xb, 0, none⟩ (.int .u8 3))) := by
                          refine ⟨?_, HB6.out.setCell (p := ⟨xb, 0, none⟩) HXL.out.1 _⟩
                          rw [HIn3.out]
                          exact rowX_op HO6.out 3
                        clear hz3 HIn HIn3 HO6
                        go_upto_region 35 with fail
                        refine abs_world (Q := fun W => Code.wp _ _ _ _ W) (F := fun W => Owns W W1.heap.size [rowX xb (insR row ((k : Int) + 1) lim true (atR row.length true n)), pxO (.slice a9 M c9) (O ++ (passR row ((k : Int) + 1) lim true).take n), pxL g F'] ∧ Below W1.heap.size W1 W) _ HX.out ?_
                        clear HX
                        rintro W7 ⟨hO7, hb7⟩
                        have HO7 := Lib.hid hO7
                        have HB7 := Lib.hid hb7
                        clear hO7 hb7 hrc hcz6 x0 x1 x2 x3 x4 x5 x6
                        obtain ⟨I, hI⟩ : ∃ I : Ins, I = insR row ((k : Int) + 1) lim true (atR row.length true n) := ⟨_, rfl⟩
                        rw [← hI] at HO7
                        obtain ⟨y0, y1, y2, y3, y4, y5, y6⟩ := rowX_at (B := W1.heap.size) (HO7.out.all (rowX xb I) (by simp))
                        have hO8 : Owns W7 W1.heap.size [pxO (.slice a9 M c9) (O ++ (passR row ((k : Int) + 1) lim true).take n), pxL g F'] := HO7.out.sub (List.sublist_cons_self _ _)
                        have hal := (Below.refl W7.heap.size W7).alloc (Nat.le_refl _) (insBox I)
                        have hO8' := hO8.to hal
                        rw [HMe.out] at hO8'
                        obtain ⟨A9, c10, w9, hrun, hown9, hb9⟩ := owns_app hO8' (by have := HB7.out.size; have := hal.size; omega) (ins_box34 W7 I) (by have := HLO.out; simp only [List.length_append, List.length_take, List.length_singleton, passR_len]; omega) 1
                        rw [← HMe.out] at hrun hown9
                        have hr9 : (Builtin.append_ #[25, 25] 25 #[.slice a9 M c9, .slice (some ⟨W7.heap.size, 0, none⟩) 1 1]).run Tryz.prog (W7.alloc (.cells #[.int .u8 I.op, .bool I.right, .int .u8 I.bed, .int .i64 I.at_, .int .i64 I.to_, .int .i64 I.car, .int .i64 I.rack] 31)) = .ok (.slice A9 (M + 1) c10) w9 := hrun
                        have hst := passR_step (row := row) (c := (k : Int) + 1) (lim := lim) (right := true) (n := n) O hnl
                        rw [← hI] at hst
                        have HO9 : Hid (Owns w9 W1.heap.size [pxO (.slice A9 (M + 1) c10) (O ++ (passR row ((k : Int) + 1) lim true).take (n + 1)), pxL g F']) := by
                          show Owns _ _ _
                          rw [hst]
                          exact hown9
                        have HB9 := Lib.hid (HB7.out.trans ((hal.mono HB7.out.size).trans hb9))
                        clear hrun hown9 hb9 hal hO8 hO8' HO7 HB7 hst hI HMe
                        go_wp2_with (at_builtin; refine wpList_append_run _ rfl _ _ _ _ rfl _ _ (by rfl) (by rfl) hr9 ?_)
                        go_roundw
                        case rel => exact ⟨n + 1, by omega, by go_num, HO9.out, HB9.out⟩
                        case measure => simp [intOf]; omega
                      case neg =>
                        have d3 : (z == (k : Int) + 1) = false := beq_eq_false_iff_ne.2 hz3
                        have HBd := Lib.hid (rbound_any (some ⟨b2, off2, none⟩) C' row ((k : Int) + 1) lim n true W6 (HRs.out W6 HB6.out) (by omega) (by omega) hKl)
                        rw [if_neg hz3] at HIn
                        clear hz3
                        cases hbq : bndQ (flo row ((k : Int) + 1)) (lim + 1) n true with
                        | true =>
                          rw [hbq] at HBd HIn
                          have HIn3 : Hid (insR row ((k : Int) + 1) lim true (atR row.length true n) = ⟨4, true, 0, (n : Int), 0, (k : Int) + 1, 0⟩) := by
                            show _ = _
                            rw [← HK.out, HIn.out, if_pos rfl]
                          clear hbq HIn
                          go_upto_region 35 with ((go_at_call 71; refine HBd.out.mono ?_; rintro e w7 ⟨rfl, hb7⟩; have hO7 := HO6.out.to hb7; have hx70 := (rowX_at (B := W1.heap.size) (hO7.all (rowX xb ⟨5, true, 0, (n : Int), 0, (k : Int) + 1, 0⟩) (by simp))).1; have hfz7 : w7.frozen? ⟨xb, 0, none⟩ = false := World.ownsRow.frozenAt (show w7.ownsRow W1.heap.size 31 7 (.slice (some ⟨xb, 0, none⟩) 1 1) 1 _ from hO7.head) 0; have HO7a := Lib.hid hO7; have HB7a := Lib.hid (HB6.out.trans (hb7.mono HB6.out.size)); have hx7 : xb < w7.heap.size := Nat.lt_of_lt_of_le HXL.out.2 hb7.size; clear hO7 hb7))
                          have HX : Hid (Owns (w7.setCell ⟨xb, 0, none⟩ (.int .u8 4)) W1.heap.size [rowX xb (insR row ((k : Int) + 1) lim true (atR row.length true n)), pxO (.slice a9 M c9) (O ++ (passR row ((k : Int) + 1) lim true).take n), pxL g F'] ∧ Below W1.heap.size W1 (w7.setCell ⟨xb, 0, none⟩ (.int .u8 4))) := by
                            refine ⟨?_, HB7a.out.setCell (p := ⟨xb, 0, none⟩) HXL.out.1 _⟩
                            rw [HIn3.out]
                            exact rowX_op HO7a.out 4
                          clear HIn3 HO6 HO7a HB7a hfz7 hx7 hx70 HBd
                          refine abs_world (Q := fun W => Code.wp _ _ _ _ W) (F := fun W => Owns W W1.heap.size [rowX xb (insR row ((k : Int) + 1) lim true (atR row.length true n)), pxO (.slice a9 M c9) (O ++ (passR row ((k : Int) + 1) lim true).take n), pxL g F'] ∧ Below W1.heap.size W1 W) _ HX.out ?_
                          clear HX
                          rintro W7 ⟨hO7, hb7⟩
                          have HO7 := Lib.hid hO7
                          have HB7 := Lib.hid hb7
                          clear hO7 hb7 hrc hcz6 x0 x1 x2 x3 x4 x5 x6
                          obtain ⟨I, hI⟩ : ∃ I : Ins, I = insR row ((k : Int) + 1) lim true (atR row.length true n) := ⟨_, rfl⟩
                          rw [← hI] at HO7
                          obtain ⟨y0, y1, y2, y3, y4, y5, y6⟩ := rowX_at (B := W1.heap.size) (HO7.out.all (rowX xb I) (by simp))
                          have hO8 : Owns W7 W1.heap.size [pxO (.slice a9 M c9) (O ++ (passR row ((k : Int) + 1) lim true).take n), pxL g F'] := HO7.out.sub (List.sublist_cons_self _ _)
                          have hal := (Below.refl W7.heap.size W7).alloc (Nat.le_refl _) (insBox I)
                          have hO8' := hO8.to hal
                          rw [HMe.out] at hO8'
                          obtain ⟨A9, c10, w9, hrun, hown9, hb9⟩ := owns_app hO8' (by have := HB7.out.size; have := hal.size; omega) (ins_box34 W7 I) (by have := HLO.out; simp only [List.length_append, List.length_take, List.length_singleton, passR_len]; omega) 1
                          rw [← HMe.out] at hrun hown9
                          have hr9 : (Builtin.append_ #[25, 25] 25 #[.slice a9 M c9, .slice (some ⟨W7.heap.size, 0, none⟩) 1 1]).run Tryz.prog (W7.alloc (.cells #[.int .u8 I.op, .bool I.right, .int .u8 I.bed, .int .i64 I.at_, .int .i64 I.to_, .int .i64 I.car, .int .i64 I.rack] 31)) = .ok (.slice A9 (M + 1) c10) w9 := hrun
                          have hst := passR_step (row := row) (c := (k : Int) + 1) (lim := lim) (right := true) (n := n) O hnl
                          rw [← hI] at hst
                          have HO9 : Hid (Owns w9 W1.heap.size [pxO (.slice A9 (M + 1) c10) (O ++ (passR row ((k : Int) + 1) lim true).take (n + 1)), pxL g F']) := by
                            show Owns _ _ _
                            rw [hst]
                            exact hown9
                          have HB9 := Lib.hid (HB7.out.trans ((hal.mono HB7.out.size).trans hb9))
                          clear hrun hown9 hb9 hal hO8 hO8' HO7 HB7 hst hI HMe
                          go_wp2_with (at_builtin; refine wpList_append_run _ rfl _ _ _ _ rfl _ _ (by rfl) (by rfl) hr9 ?_)
                          go_roundw
                          case rel => exact ⟨n + 1, by omega, by go_num, HO9.out, HB9.out⟩
                          case measure => simp [intOf]; omega
                        | false =>
                          rw [hbq] at HBd HIn
                          have HIn3 : Hid (insR row ((k : Int) + 1) lim true (atR row.length true n) = ⟨5, true, 0, (n : Int), 0, (k : Int) + 1, 0⟩) := by
                            show _ = _
                            rw [← HK.out, HIn.out, if_neg (by simp)]
                          clear hbq HIn
                          go_upto_region 35 with ((go_at_call 71; refine HBd.out.mono ?_; rintro e w7 ⟨rfl, hb7⟩; have HO7a := Lib.hid (HO6.out.to hb7); have HB7a := Lib.hid (HB6.out.trans (hb7.mono HB6.out.size)); clear hb7))
                          have HX : Hid (Owns w7 W1.heap.size [rowX xb (insR row ((k : Int) + 1) lim true (atR row.length true n)), pxO (.slice a9 M c9) (O ++ (passR row ((k : Int) + 1) lim true).take n), pxL g F'] ∧ Below W1.heap.size W1 w7) := by
                            refine ⟨?_, HB7a.out⟩
                            rw [HIn3.out]
                            exact HO7a.out
                          clear HIn3 HO6 HO7a HB7a HBd
                          refine abs_world (Q := fun W => Code.wp _ _ _ _ W) (F := fun W => Owns W W1.heap.size [rowX xb (insR row ((k : Int) + 1) lim true (atR row.length true n)), pxO (.slice a9 M c9) (O ++ (passR row ((k : Int) + 1) lim true).take n), pxL g F'] ∧ Below W1.heap.size W1 W) _ HX.out ?_
                          clear HX
                          rintro W7 ⟨hO7, hb7⟩
                          have HO7 := Lib.hid hO7
                          have HB7 := Lib.hid hb7
                          clear hO7 hb7 hrc hcz6 x0 x1 x2 x3 x4 x5 x6
                          obtain ⟨I, hI⟩ : ∃ I : Ins, I = insR row ((k : Int) + 1) lim true (atR row.length true n) := ⟨_, rfl⟩
                          rw [← hI] at HO7
                          obtain ⟨y0, y1, y2, y3, y4, y5, y6⟩ := rowX_at (B := W1.heap.size) (HO7.out.all (rowX xb I) (by simp))
                          have hO8 : Owns W7 W1.heap.size [pxO (.slice a9 M c9) (O ++ (passR row ((k : Int) + 1) lim true).take n), pxL g F'] := HO7.out.sub (List.sublist_cons_self _ _)
                          have hal := (Below.refl W7.heap.size W7).alloc (Nat.le_refl _) (insBox I)
                          have hO8' := hO8.to hal
                          rw [HMe.out] at hO8'
                          obtain ⟨A9, c10, w9, hrun, hown9, hb9⟩ := owns_app hO8' (by have := HB7.out.size; have := hal.size; omega) (ins_box34 W7 I) (by have := HLO.out; simp only [List.length_append, List.length_take, List.length_singleton, passR_len]; omega) 1
                          rw [← HMe.out] at hrun hown9
                          have hr9 : (Builtin.append_ #[25, 25] 25 #[.slice a9 M c9, .slice (some ⟨W7.heap.size, 0, none⟩) 1 1]).run Tryz.prog (W7.alloc (.cells #[.int .u8 I.op, .bool I.right, .int .u8 I.bed, .int .i64 I.at_, .int .i64 I.to_, .int .i64 I.car, .int .i64 I.rack] 31)) = .ok (.slice A9 (M + 1) c10) w9 := hrun
                          have hst := passR_step (row := row) (c := (k : Int) + 1) (lim := lim) (right := true) (n := n) O hnl
                          rw [← hI] at hst
                          have HO9 : Hid (Owns w9 W1.heap.size [pxO (.slice A9 (M + 1) c10) (O ++ (passR row ((k : Int) + 1) lim true).take (n + 1)), pxL g F']) := by
                            show Owns _ _ _
                            rw [hst]
                            exact hown9
                          have HB9 := Lib.hid (HB7.out.trans ((hal.mono HB7.out.size).trans hb9))
                          clear hrun hown9 hb9 hal hO8 hO8' HO7 HB7 hst hI HMe
                          go_wp2_with (at_builtin; refine wpList_append_run _ rfl _ _ _ _ rfl _ _ (by rfl) (by rfl) hr9 ?_)
                          go_roundw
                          case rel => exact ⟨n + 1, by omega, by go_num, HO9.out, HB9.out⟩
                          case measure => simp [intOf]; omega
                    | false =>
                      have hkn : (row.length : Int) - 1 - (n : Int) = (K : Int) := by rw [HK.out]; show _ = ((row.length - 1 - n : Nat) : Int); omega
                      go_upto_region 30 with fail
                      clear hkn
                      go_upto_region 31 with fail

                      refine abs_world (Q := fun W => Code.wp _ _ _ _ W) (F := fun W => Owns W W1.heap.size [rowX wd.heap.size ⟨5, false, 0, (K : Int), 0, (k : Int) + 1, 0⟩, pxO (.slice a9 M c9) (O ++ (passR row ((k : Int) + 1) lim false).take n), pxL g F'] ∧ Below W1.heap.size W1 W) _ HX.out ?_
                      clear HX
                      obtain ⟨xb, hxb⟩ : ∃ xb, xb = wd.heap.size := ⟨_, rfl⟩
                      rw [← hxb]
                      clear hxb hrc
                      rintro W6 ⟨hO6, hb6⟩
                      have hrc := HRc.out W6 hb6
                      have hcz6 := (bcell hb6 hB2 _).trans hcz
                      obtain ⟨x0, x1, x2, x3, x4, x5, x6⟩ := rowX_at (B := W1.heap.size) (hO6.all (rowX xb ⟨5, false, 0, (K : Int), 0, (k : Int) + 1, 0⟩) (by simp))

                      have hxl := World.ownsRow.lt (show W6.ownsRow W1.heap.size 31 7 (.slice (some ⟨xb, 0, none⟩) 1 1) 1 _ from hO6.head) xb rfl
                      have hfz : W6.frozen? ⟨xb, 0, none⟩ = false := World.ownsRow.frozenAt (show W6.ownsRow W1.heap.size 31 7 (.slice (some ⟨xb, 0, none⟩) 1 1) 1 _ from hO6.head) 0
                      have HO6 := Lib.hid hO6
                      have HB6 := Lib.hid hb6
                      have HXL := Lib.hid hxl
                      clear hO6 hb6 hxl
                      by_cases hz3 : z = (k : Int) + 1
                      case pos =>
                        have d3 : (z == (k : Int) + 1) = true := by simp [hz3]
                        have HIn3 : Hid (insR row ((k : Int) + 1) lim false (atR row.length false n) = ⟨3, false, 0, (K : Int), 0, (k : Int) + 1, 0⟩) := by
                          show _ = _
                          rw [← HK.out, HIn.out, if_pos hz3]
                        have HX : Hid (Owns (W6.setCell ⟨xb, 0, none⟩ (.int .u8 3)) W1.heap.size [rowX xb (insR row ((k : Int) + 1) lim false (atR row.length false n)), pxO (.slice a9 M c9) (O ++ (passR row ((k : Int) + 1) lim false).take n), pxL g F'] ∧ Below W1.heap.size W1 (W6.setCell ⟨xb, 0, none⟩ (.int .u8 3))) := by
                          refine ⟨?_, HB6.out.setCell (p := ⟨xb, 0, none⟩) HXL.out.1 _⟩
                          rw [HIn3.out]
                          exact rowX_op HO6.out 3
                        clear hz3 HIn HIn3 HO6
                        go_upto_region 35 with fail
                        refine abs_world (Q := fun W => Code.wp _ _ _ _ W) (F := fun W => Owns W W1.heap.size [rowX xb (insR row ((k : Int) + 1) lim false (atR row.length false n)), pxO (.slice a9 M c9) (O ++ (passR row ((k : Int) + 1) lim false).take n), pxL g F'] ∧ Below W1.heap.size W1 W) _ HX.out ?_
                        clear HX
                        rintro W7 ⟨hO7, hb7⟩
                        have HO7 := Lib.hid hO7
                        have HB7 := Lib.hid hb7
                        clear hO7 hb7 hrc hcz6 x0 x1 x2 x3 x4 x5 x6
                        obtain ⟨I, hI⟩ : ∃ I : Ins, I = insR row ((k : Int) + 1) lim false (atR row.length false n) := ⟨_, rfl⟩
                        rw [← hI] at HO7
                        obtain ⟨y0, y1, y2, y3, y4, y5, y6⟩ := rowX_at (B := W1.heap.size) (HO7.out.all (rowX xb I) (by simp))
                        have hO8 : Owns W7 W1.heap.size [pxO (.slice a9 M c9) (O ++ (passR row ((k : Int) + 1) lim false).take n), pxL g F'] := HO7.out.sub (List.sublist_cons_self _ _)
                        have hal := (Below.refl W7.heap.size W7).alloc (Nat.le_refl _) (insBox I)
                        have hO8' := hO8.to hal
                        rw [HMe.out] at hO8'
                        obtain ⟨A9, c10, w9, hrun, hown9, hb9⟩ := owns_app hO8' (by have := HB7.out.size; have := hal.size; omega) (ins_box34 W7 I) (by have := HLO.out; simp only [List.length_append, List.length_take, List.length_singleton, passR_len]; omega) 1
                        rw [← HMe.out] at hrun hown9
                        have hr9 : (Builtin.append_ #[25, 25] 25 #[.slice a9 M c9, .slice (some ⟨W7.heap.size, 0, none⟩) 1 1]).run Tryz.prog (W7.alloc (.cells #[.int .u8 I.op, .bool I.right, .int .u8 I.bed, .int .i64 I.at_, .int .i64 I.to_, .int .i64 I.car, .int .i64 I.rack] 31)) = .ok (.slice A9 (M + 1) c10) w9 := hrun
                        have hst := passR_step (row := row) (c := (k : Int) + 1) (lim := lim) (right := false) (n := n) O hnl
                        rw [← hI] at hst
                        have HO9 : Hid (Owns w9 W1.heap.size [pxO (.slice A9 (M + 1) c10) (O ++ (passR row ((k : Int) + 1) lim false).take (n + 1)), pxL g F']) := by
                          show Owns _ _ _
                          rw [hst]
                          exact hown9
                        have HB9 := Lib.hid (HB7.out.trans ((hal.mono HB7.out.size).trans hb9))
                        clear hrun hown9 hb9 hal hO8 hO8' HO7 HB7 hst hI HMe
                        go_wp2_with (at_builtin; refine wpList_append_run _ rfl _ _ _ _ rfl _ _ (by rfl) (by rfl) hr9 ?_)
                        go_roundw
                        case rel => exact ⟨n + 1, by omega, by go_num, HO9.out, HB9.out⟩
                        case measure => simp [intOf]; omega
                      case neg =>
                        have d3 : (z == (k : Int) + 1) = false := beq_eq_false_iff_ne.2 hz3
                        have HBd := Lib.hid (rbound_any (some ⟨b2, off2, none⟩) C' row ((k : Int) + 1) lim K false W6 (HRs.out W6 HB6.out) (by omega) (by omega) hKl)
                        rw [if_neg hz3] at HIn
                        clear hz3
                        cases hbq : bndQ (flo row ((k : Int) + 1)) (lim + 1) K false with
                        | true =>
                          rw [hbq] at HBd HIn
                          have HIn3 : Hid (insR row ((k : Int) + 1) lim false (atR row.length false n) = ⟨4, false, 0, (K : Int), 0, (k : Int) + 1, 0⟩) := by
                            show _ = _
                            rw [← HK.out, HIn.out, if_pos rfl]
                          clear hbq HIn
                          go_upto_region 35 with ((go_at_call 71; refine HBd.out.mono ?_; rintro e w7 ⟨rfl, hb7⟩; have hO7 := HO6.out.to hb7; have hx70 := (rowX_at (B := W1.heap.size) (hO7.all (rowX xb ⟨5, false, 0, (K : Int), 0, (k : Int) + 1, 0⟩) (by simp))).1; have hfz7 : w7.frozen? ⟨xb, 0, none⟩ = false := World.ownsRow.frozenAt (show w7.ownsRow W1.heap.size 31 7 (.slice (some ⟨xb, 0, none⟩) 1 1) 1 _ from hO7.head) 0; have HO7a := Lib.hid hO7; have HB7a := Lib.hid (HB6.out.trans (hb7.mono HB6.out.size)); have hx7 : xb < w7.heap.size := Nat.lt_of_lt_of_le HXL.out.2 hb7.size; clear hO7 hb7))
                          have HX : Hid (Owns (w7.setCell ⟨xb, 0, none⟩ (.int .u8 4)) W1.heap.size [rowX xb (insR row ((k : Int) + 1) lim false (atR row.length false n)), pxO (.slice a9 M c9) (O ++ (passR row ((k : Int) + 1) lim false).take n), pxL g F'] ∧ Below W1.heap.size W1 (w7.setCell ⟨xb, 0, none⟩ (.int .u8 4))) := by
                            refine ⟨?_, HB7a.out.setCell (p := ⟨xb, 0, none⟩) HXL.out.1 _⟩
                            rw [HIn3.out]
                            exact rowX_op HO7a.out 4
                          clear HIn3 HO6 HO7a HB7a hfz7 hx7 hx70 HBd
                          refine abs_world (Q := fun W => Code.wp _ _ _ _ W) (F := fun W => Owns W W1.heap.size [rowX xb (insR row ((k : Int) + 1) lim false (atR row.length false n)), pxO (.slice a9 M c9) (O ++ (passR row ((k : Int) + 1) lim false).take n), pxL g F'] ∧ Below W1.heap.size W1 W) _ HX.out ?_
                          clear HX
                          rintro W7 ⟨hO7, hb7⟩
                          have HO7 := Lib.hid hO7
                          have HB7 := Lib.hid hb7
                          clear hO7 hb7 hrc hcz6 x0 x1 x2 x3 x4 x5 x6
                          obtain ⟨I, hI⟩ : ∃ I : Ins, I = insR row ((k : Int) + 1) lim false (atR row.length false n) := ⟨_, rfl⟩
                          rw [← hI] at HO7
                          obtain ⟨y0, y1, y2, y3, y4, y5, y6⟩ := rowX_at (B := W1.heap.size) (HO7.out.all (rowX xb I) (by simp))
                          have hO8 : Owns W7 W1.heap.size [pxO (.slice a9 M c9) (O ++ (passR row ((k : Int) + 1) lim false).take n), pxL g F'] := HO7.out.sub (List.sublist_cons_self _ _)
                          have hal := (Below.refl W7.heap.size W7).alloc (Nat.le_refl _) (insBox I)
                          have hO8' := hO8.to hal
                          rw [HMe.out] at hO8'
                          obtain ⟨A9, c10, w9, hrun, hown9, hb9⟩ := owns_app hO8' (by have := HB7.out.size; have := hal.size; omega) (ins_box34 W7 I) (by have := HLO.out; simp only [List.length_append, List.length_take, List.length_singleton, passR_len]; omega) 1
                          rw [← HMe.out] at hrun hown9
                          have hr9 : (Builtin.append_ #[25, 25] 25 #[.slice a9 M c9, .slice (some ⟨W7.heap.size, 0, none⟩) 1 1]).run Tryz.prog (W7.alloc (.cells #[.int .u8 I.op, .bool I.right, .int .u8 I.bed, .int .i64 I.at_, .int .i64 I.to_, .int .i64 I.car, .int .i64 I.rack] 31)) = .ok (.slice A9 (M + 1) c10) w9 := hrun
                          have hst := passR_step (row := row) (c := (k : Int) + 1) (lim := lim) (right := false) (n := n) O hnl
                          rw [← hI] at hst
                          have HO9 : Hid (Owns w9 W1.heap.size [pxO (.slice A9 (M + 1) c10) (O ++ (passR row ((k : Int) + 1) lim false).take (n + 1)), pxL g F']) := by
                            show Owns _ _ _
                            rw [hst]
                            exact hown9
                          have HB9 := Lib.hid (HB7.out.trans ((hal.mono HB7.out.size).trans hb9))
                          clear hrun hown9 hb9 hal hO8 hO8' HO7 HB7 hst hI HMe
                          go_wp2_with (at_builtin; refine wpList_append_run _ rfl _ _ _ _ rfl _ _ (by rfl) (by rfl) hr9 ?_)
                          go_roundw
                          case rel => exact ⟨n + 1, by omega, by go_num, HO9.out, HB9.out⟩
                          case measure => simp [intOf]; omega
                        | false =>
                          rw [hbq] at HBd HIn
                          have HIn3 : Hid (insR row ((k : Int) + 1) lim false (atR row.length false n) = ⟨5, false, 0, (K : Int), 0, (k : Int) + 1, 0⟩) := by
                            show _ = _
                            rw [← HK.out, HIn.out, if_neg (by simp)]
                          clear hbq HIn
                          go_upto_region 35 with ((go_at_call 71; refine HBd.out.mono ?_; rintro e w7 ⟨rfl, hb7⟩; have HO7a := Lib.hid (HO6.out.to hb7); have HB7a := Lib.hid (HB6.out.trans (hb7.mono HB6.out.size)); clear hb7))
                          have HX : Hid (Owns w7 W1.heap.size [rowX xb (insR row ((k : Int) + 1) lim false (atR row.length false n)), pxO (.slice a9 M c9) (O ++ (passR row ((k : Int) + 1) lim false).take n), pxL g F'] ∧ Below W1.heap.size W1 w7) := by
                            refine ⟨?_, HB7a.out⟩
                            rw [HIn3.out]
                            exact HO7a.out
                          clear HIn3 HO6 HO7a HB7a HBd
                          refine abs_world (Q := fun W => Code.wp _ _ _ _ W) (F := fun W => Owns W W1.heap.size [rowX xb (insR row ((k : Int) + 1) lim false (atR row.length false n)), pxO (.slice a9 M c9) (O ++ (passR row ((k : Int) + 1) lim false).take n), pxL g F'] ∧ Below W1.heap.size W1 W) _ HX.out ?_
                          clear HX
                          rintro W7 ⟨hO7, hb7⟩
                          have HO7 := Lib.hid hO7
                          have HB7 := Lib.hid hb7
                          clear hO7 hb7 hrc hcz6 x0 x1 x2 x3 x4 x5 x6
                          obtain ⟨I, hI⟩ : ∃ I : Ins, I = insR row ((k : Int) + 1) lim false (atR row.length false n) := ⟨_, rfl⟩
                          rw [← hI] at HO7
                          obtain ⟨y0, y1, y2, y3, y4, y5, y6⟩ := rowX_at (B := W1.heap.size) (HO7.out.all (rowX xb I) (by simp))
                          have hO8 : Owns W7 W1.heap.size [pxO (.slice a9 M c9) (O ++ (passR row ((k : Int) + 1) lim false).take n), pxL g F'] := HO7.out.sub (List.sublist_cons_self _ _)
                          have hal := (Below.refl W7.heap.size W7).alloc (Nat.le_refl _) (insBox I)
                          have hO8' := hO8.to hal
                          rw [HMe.out] at hO8'
                          obtain ⟨A9, c10, w9, hrun, hown9, hb9⟩ := owns_app hO8' (by have := HB7.out.size; have := hal.size; omega) (ins_box34 W7 I) (by have := HLO.out; simp only [List.length_append, List.length_take, List.length_singleton, passR_len]; omega) 1
                          rw [← HMe.out] at hrun hown9
                          have hr9 : (Builtin.append_ #[25, 25] 25 #[.slice a9 M c9, .slice (some ⟨W7.heap.size, 0, none⟩) 1 1]).run Tryz.prog (W7.alloc (.cells #[.int .u8 I.op, .bool I.right, .int .u8 I.bed, .int .i64 I.at_, .int .i64 I.to_, .int .i64 I.car, .int .i64 I.rack] 31)) = .ok (.slice A9 (M + 1) c10) w9 := hrun
                          have hst := passR_step (row := row) (c := (k : Int) + 1) (lim := lim) (right := false) (n := n) O hnl
                          rw [← hI] at hst
                          have HO9 : Hid (Owns w9 W1.heap.size [pxO (.slice A9 (M + 1) c10) (O ++ (passR row ((k : Int) + 1) lim false).take (n + 1)), pxL g F']) := by
                            show Owns _ _ _
                            rw [hst]
                            exact hown9
                          have HB9 := Lib.hid (HB7.out.trans ((hal.mono HB7.out.size).trans hb9))
                          clear hrun hown9 hb9 hal hO8 hO8' HO7 HB7 hst hI HMe
                          go_wp2_with (at_builtin; refine wpList_append_run _ rfl _ _ _ _ rfl _ _ (by rfl) (by rfl) hr9 ?_)
                          go_roundw
                          case rel => exact ⟨n + 1, by omega, by go_num, HO9.out, HB9.out⟩
                          case measure => simp [intOf]; omega
                  case neg =>
                    obtain rfl : n = row.length := by omega
                    have HO7 : Hid (Owns wd W1.heap.size [pxO (.slice a9 M c9) (outR p lim t (k + 1)), pxL g F']) := by
                      show Owns _ _ _
                      have e : (passR row ((k : Int) + 1) lim q).take row.length = passR row ((k : Int) + 1) lim q := List.take_of_length_le (by rw [passR_len]; exact Nat.le_refl _)
                      have h := HO6.out
                      rw [HNx.out]
                      simp only [if_true]
                      rw [e] at h
                      exact h
                    have hM : M ≤ 2000 := by
                      have := HLO.out
                      rw [HMe.out]
                      simp only [List.length_append, List.length_take, passR_len]; omega
                    have d1 : decide (2000 < M) = false := decide_eq_false (by omega)
                    have d2 : decide ((2000 : Int) < (M : Int)) = false := decide_eq_false (by omega)
                    clear HMe hM HO6 hn hnl
                    go_wp2
                    go_roundw
                    case rel => exact ⟨k + 1, by omega, by go_num, F', HO7.out, HF6.out, HB6.out⟩
                    case measure => simp [intOf]; omega
            case neg =>
              obtain rfl : k = 6 := by omega
              rw [show (((6 : Nat) : Nat) : Int) + 1 = 7 from rfl]
              have HO9 : Hid (Owns wo W1.heap.size [pxO (.slice a8 (outR p lim t 6).length c8) (outR p lim (t + 1) 0), pxL g G]) := by
                show Owns _ _ _
                rw [outR_row]
                exact HO4.out
              have HF9 : Hid (∀ k, 1 ≤ k → k ≤ 6 → G k = leftR p (t + 1) 0 k) := fun k h1 h6 => (HF4.out k h1 h6).trans (leftR_row p t h1 h6).symm
              clear HO4 HF4 hk hlk
              go_wp2
              go_roundw
              case rel => exact ⟨t + 1, by omega, by go_num, G, HO9.out, HF9.out, HB4.out⟩
              case measure => simp [intOf]; omega
        case neg =>
          obtain rfl : t = p.length := by omega
          clear ht hlt HF3
          have hll := HLen.out p.length 0 (Nat.le_refl _) (by omega)
          obtain ⟨L, hL⟩ : ∃ L, L = outR p lim p.length 0 := ⟨_, rfl⟩
          rw [← hL] at HO3 HWf HRun hll ⊢
          obtain ⟨rs, hrs⟩ : ∃ rs, rs = runS bed0 L := ⟨_, rfl⟩
          obtain ⟨wo, hwo⟩ : ∃ wo : World, wo = wr := ⟨_, rfl⟩
          rw [← hwo] at HO3 HB3 ⊢
          clear hwo
          have hrn := rrun_any bed0 bedP0 ⟨fun h hh => (by cases hh), fun h hh => (by cases hh)⟩ ⟨by simp [bed0], by simp [bed0], by simp [bed0]⟩ L (by omega) (fun _ _ => by simp only [bed0, List.length_nil]; omega) HWf.out a7 c7 wo (bedAt0 _ _) (pxO_sl HO3.out)
          rw [← hrs] at hrn
          rw [← hrs] at HRun
          have HRn : Hid (Calls Tryz.prog 72 #[.agg #[.int .i64 0, .slice none 0 0, .slice none 0 0, .slice none 0 0], .slice a7 L.length c7] wo fun e w' => ∃ (s : BedS) (q : BedP) (z : Int), e = .returned (.tuple #[.agg #[.int .i64 s.rack, .slice q.ah s.hooks.length q.ch, .slice q.af s.feeds.length q.cf, .slice q.am s.made.length q.cm], .int .i64 z, .int .i64 0]) ∧ Below wo.heap.size wo w') := Calls.mono hrn fun e w' ⟨q, he, _, hb⟩ => ⟨rs.1, q, rs.2.1, by rw [he, HRun.out]; rfl, hb⟩
          clear hL hrs hll hrn HO3 HRun HLen HWf
          go_upto_region 39 with ((go_at_call 72; refine HRn.out.mono ?_; rintro e w7 ⟨s7, q7, z7, rfl, hb7⟩))
          refine abs_world (Q := fun W => Code.wp _ _ _ _ W) (F := fun W => Below wo.heap.size wo W) _ (hb7.alloc hb7.size _) ?_
          clear hb7 HRn
          intro W8 hb8
          have HE8 := Lib.hid (HE1.out W8 (HB3.out.trans (hb8.mono HB3.out.size)))
          clear hb8 HB3
          go_wp2
          go_ret2
          exact ⟨_, _, _, rfl, HE8.out⟩
end Go.Proofs.YthedmiilkeclaaaGreat
