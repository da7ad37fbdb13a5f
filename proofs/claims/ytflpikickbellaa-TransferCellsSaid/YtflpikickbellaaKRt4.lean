/- Layer 32: the reference's next. -/
import Derived.Test.YtflpikickbellaaKRt3
namespace Go.Proofs.Ytflpikickbellaa
open Go.RowKit Go.Shelf Go.Sort
set_option maxRecDepth 100000

theorem stops_get {i : Nat} (h : i < 17) : stops17[i]? = some ((i : Int) - 8) := by
  unfold stops17
  rw [List.getElem?_map, List.getElem?_range h]; rfl
theorem stops_len : stops17.length = 17 := by simp [stops17]
theorem next_some {f : Int → Bool} {t : Int} (h : ∀ u, -8 ≤ u → u < t → f u = false) (h1 : -8 ≤ t) (h2 : t ≤ 8) (ht : f t = true) : stops17.find? f = some t := by
  have hi : (t + 8).toNat < 17 := by omega
  have hg := stops_get hi
  have e : (((t + 8).toNat : Nat) : Int) - 8 = t := by omega
  rw [e] at hg
  obtain ⟨hl, he⟩ := List.getElem?_eq_some_iff.1 hg
  rw [List.find?_eq_some_iff_getElem]
  refine ⟨ht, (t + 8).toNat, hl, he, fun j hj => ?_⟩
  have hj17 : j < 17 := by omega
  obtain ⟨hl2, he2⟩ := List.getElem?_eq_some_iff.1 (stops_get hj17)
  rw [he2, h ((j : Int) - 8) (by omega) (by omega)]; rfl
theorem next_none {f : Int → Bool} (h : ∀ u, -8 ≤ u → u ≤ 8 → f u = false) : stops17.find? f = none := by
  rw [List.find?_eq_none]
  intro u hu
  have := mem_stops.1 hu
  rw [h u this.1 this.2]; simp
/-- What next hands back. -/
def NxPost (w : World) (R : Option Int) (e : Ending) (w' : World) : Prop := e = .returned (.tuple #[.int .i64 (R.getD 0), .bool R.isSome]) ∧ Below w.heap.size w w'
theorem NxPost.some_ {w w' : World} {R : Option Int} {t : Int} (h : R = some t) (hb : Below w.heap.size w w') : NxPost w R (.returned (.tuple #[.int .i64 t, .bool true])) w' := by subst h; exact ⟨rfl, hb⟩
theorem NxPost.none_ {w w' : World} {R : Option Int} (h : R = none) (hb : Below w.heap.size w w') : NxPost w R (.returned (.tuple #[.int .i64 0, .bool false])) w' := by subst h; exact ⟨rfl, hb⟩
set_option maxHeartbeats 8000000 in
theorem rnext_any (A F : Option Addr) (c fc : Nat) (s : Sft) (hs : SftOk s) (hf : s.first.length ≤ 4611686018427387904) (come : Nat → Bool) (gb : Nat) (w : World) (h : SfAt A F s w) (hc : CmAt gb s.n come w) :
    Calls Try.prog 41 #[sftV A F c fc s, .slice (some ⟨gb, 0, none⟩) s.to_.length s.to_.length] w fun e w' => NxPost w (nextN s come) e w' := by
  have hb0 := al_t w (sftB A F c fc s)
  have HX0 : Hid (SfBx w.heap.size A F c fc s (w.alloc (sftB A F c fc s)) ∧ CmAt gb s.n come (w.alloc (sftB A F c fc s)) ∧ Below w.heap.size w (w.alloc (sftB A F c fc s))) := ⟨SfBx.new c fc h, hc.to hb0, hb0⟩
  have c0 := HX0.out.1.c0
  have c1 := HX0.out.1.c1
  have HS := Lib.hid hs
  have hn40 := hs.len
  have hn40' : s.to_.length ≤ 40 := hn40
  obtain ⟨R, hR⟩ : ∃ R, R = nextN s come := ⟨_, rfl⟩
  have HR : Hid (R = stops17.find? fun t => hasN s come t && readyN s come t) := hR
  rw [← hR]
  obtain ⟨pb, hpb⟩ : ∃ pb, pb = w.heap.size := ⟨_, rfl⟩
  clear h hc hb0 hs hR
  go_enter Try.func41, Try.ntmps41
  go_upto_region 1 with fail
  refine abs_world (Q := fun W => Code.wp _ _ _ _ W) (F := fun W => SfBx w.heap.size A F c fc s W ∧ CmAt gb s.n come W ∧ Below w.heap.size w W) _ HX0.out ?_
  clear HX0 c0 c1
  rintro W1 ⟨hx, hcm, hb1⟩
  rw [← hpb] at hx ⊢
  have HX1 := Lib.hid (And.intro hx (And.intro hcm hb1))
  clear hx hcm hb1 hpb
  go_wp2
  go_loopw [6] (fun s6 wr => ∃ t : Int, -8 ≤ t ∧ t ≤ 9 ∧ s6 = .int .i64 t ∧ Hid (SfBx pb A F c fc s wr ∧ CmAt gb s.n come wr ∧ Below w.heap.size w wr) ∧ Hid (∀ u, -8 ≤ u → u < t → (hasN s come u && readyN s come u) = false)) (fun s6 _ => (9 - intOf s6).toNat)
  case atStart => exact ⟨-8, by omega, by omega, rfl, HX1.out, fun u h1 h2 => absurd h2 (by omega)⟩
  case round =>
    obtain ⟨t, ht1, ht9, rfl, HX2, HT⟩ := hrel
    clear HX1
    obtain ⟨wo, hwo⟩ : ∃ wo : World, wo = wr := ⟨_, rfl⟩
    rw [← hwo] at HX2 ⊢
    clear hwo
    by_cases ht2 : t ≤ 8
    case neg =>
      have dd : decide (t ≤ 8) = false := decide_eq_false ht2
      have HR2 : Hid (R = none) := by
        show _ = _
        rw [HR.out]
        exact next_none fun u h1 h2 => HT.out u h1 (by omega)
      clear HT ht2
      go_wp2
      go_ret2
      exact NxPost.none_ HR2.out HX2.out.2.2
    case pos =>
      have dd : decide (t ≤ 8) = true := decide_eq_true ht2
      go_wp2
      go_loopw [7] (fun s7 wq => ∃ i : Nat, i ≤ s.to_.length ∧ s7 = .int .i64 (i : Int) ∧ Hid (SfBx pb A F c fc s wq ∧ CmAt gb s.n come wq ∧ Below w.heap.size w wq) ∧ Hid (∀ j, j < i → (atN s come t j && readyN s come t) = false)) (fun s7 _ => s.to_.length - (intOf s7).toNat)
      case atStart => exact ⟨0, Nat.zero_le _, rfl, HX2.out, fun j hj => absurd hj (Nat.not_lt_zero j)⟩
      case round =>
        obtain ⟨i, hi, rfl, HX, HT2⟩ := hrel
        clear HX2
        obtain ⟨W5, hW5⟩ : ∃ W5 : World, W5 = wr := ⟨_, rfl⟩
        rw [← hW5] at HX ⊢
        clear hW5
        have c0 := HX.out.1.c0
        by_cases hlt : i < s.to_.length
        case neg =>
          have HN : Hid (∀ u, -8 ≤ u → u < t + 1 → (hasN s come u && readyN s come u) = false) := fun u h1 h2 => by
            by_cases e : u = t
            · subst e
              cases hh : hasN s come u with
              | false => rfl
              | true =>
                obtain ⟨j, hj, h3, h4⟩ := hasN_iff.1 hh
                have h5 := HT2.out j (by have : s.n = s.to_.length := rfl; omega)
                unfold atN at h5
                rw [decide_eq_true h3, h4] at h5
                exact h5
            · exact HT.out u h1 (by omega)
          clear HT HT2
          go_wp2
          go_roundw
          case rel => exact ⟨t + 1, by omega, by omega, by go_num, HX.out, HN.out⟩
          case measure => simp [intOf]; omega
        case pos =>
          have hil : i < s.n := hlt
          have HXn : Hid (∀ W, Below W5.heap.size W5 W → SfBx pb A F c fc s W ∧ CmAt gb s.n come W ∧ Below w.heap.size w W) := fun W hb => ⟨HX.out.1.to hb, HX.out.2.1.to hb, HX.out.2.2.trans (hb.mono HX.out.2.2.size)⟩
          have hOi := roff_later c fc HS.out HX.out.1.at_ i W5 hil (Below.refl _ _)
          have hMi : ∀ W, Below W5.heap.size W5 W → Calls Try.prog 27 #[sftV A F c fc s, .int .i64 (i : Int)] W fun e w' => e = .returned (.bool (movedN s i)) ∧ Below W.heap.size W w' := fun W hb => rmoved_later c fc HS.out hf HX.out.1.at_ i W hil hb
          have hRd : ∀ W, Below W5.heap.size W5 W → Calls Try.prog 66 #[sftV A F c fc s, .int .i64 t, .slice (some ⟨gb, 0, none⟩) s.to_.length s.to_.length] W fun e w' => e = .returned (.bool (readyN s come t)) ∧ Below W.heap.size W w' := fun W hb => rready_any A F c fc s HS.out hf come gb t W (HX.out.1.at_.to hb) (HX.out.2.1.to hb)
          have hXs : ∀ W, Below W5.heap.size W5 W → W.cell? ⟨pb, 0, none⟩ = some (.slice A s.to_.length c) ∧ W.cell? ⟨pb, 1, none⟩ = some (.slice F s.first.length fc) ∧ W.cell? ⟨gb, i, none⟩ = some (.bool (come i)) := fun W hb => ⟨(HXn.out W hb).1.c0, (HXn.out W hb).1.c1, (HXn.out W hb).2.1.2 i hil⟩
          have HH0 : Hid ((atN s come t i && readyN s come t) = ((decide (offN s i = t) && (movedN s i && !(come i))) && readyN s come t)) := rfl
          obtain ⟨oi, hoi⟩ : ∃ oi, oi = offN s i := ⟨_, rfl⟩
          obtain ⟨m, hm⟩ : ∃ m, m = movedN s i := ⟨_, rfl⟩
          obtain ⟨q, hq⟩ : ∃ q, q = come i := ⟨_, rfl⟩
          obtain ⟨rd, hrd⟩ : ∃ rd, rd = readyN s come t := ⟨_, rfl⟩
          have HH1 : Hid ((atN s come t i && readyN s come t) = ((decide (oi = t) && (m && !q)) && rd)) := by
            show _ = _
            rw [hoi, hm, hq, hrd]; exact HH0.out
          rw [← hoi] at hOi
          simp only [← hm] at hMi
          simp only [← hq] at hXs
          simp only [← hrd] at hRd
          have HOi := Lib.hid hOi
          have HMi := Lib.hid hMi
          have HRd := Lib.hid hRd
          have HXs := Lib.hid hXs
          obtain ⟨c0, c1, cq⟩ := hXs W5 (Below.refl _ _)
          clear hOi hMi hRd hXs hoi hm hq hrd HX HH0
          cases b1 : (oi == t) with
          | false =>
            have HH : Hid ((atN s come t i && readyN s come t) = ((false && (m && !q)) && rd)) := by
              show _ = _
              rw [HH1.out, decide_eq_false (beq_eq_false_iff_ne.1 b1)]
            clear HH1
            go_wp2_with fail
            refine HOi.out.mono ?_
            rintro e w6 ⟨rfl, hb6⟩
            obtain ⟨c0', c1', cq'⟩ := HXs.out w6 hb6
            have HB6 := Lib.hid hb6
            clear hb6 c0 c1 cq

            have HN : Hid (∀ j, j < i + 1 → (atN s come t j && readyN s come t) = false) := fun j hj => by
              by_cases e : j = i
              · subst e; rw [HH.out]; rfl
              · exact HT2.out j (by omega)
            clear HT2 HH
            go_wp2
            go_roundw
            case rel => exact ⟨i + 1, by omega, by go_num, HXn.out w6 HB6.out, HN.out⟩
            case measure => simp [intOf]; omega
          | true =>
            have HH2 : Hid ((atN s come t i && readyN s come t) = ((true && (m && !q)) && rd)) := by
              show _ = _
              rw [HH1.out, decide_eq_true (beq_iff_eq.1 b1)]
            clear HH1
            cases m with
            | false =>
              have HH : Hid ((atN s come t i && readyN s come t) = ((true && (false && !q)) && rd)) := HH2.out
              clear HH2
              go_wp2_with fail
              refine HOi.out.mono ?_
              rintro e w6 ⟨rfl, hb6⟩
              obtain ⟨c0', c1', cq'⟩ := HXs.out w6 hb6
              have HB6 := Lib.hid hb6
              clear hb6 c0 c1 cq

              go_wp2_with fail
              refine (HMi.out w6 HB6.out).mono ?_
              rintro e w7 ⟨rfl, hb7⟩
              obtain ⟨d0, d1, dq⟩ := HXs.out w7 (HB6.out.trans (hb7.mono HB6.out.size))
              have HB7 := Lib.hid (HB6.out.trans (hb7.mono HB6.out.size))
              clear hb7 c0' c1' cq'

              have HN : Hid (∀ j, j < i + 1 → (atN s come t j && readyN s come t) = false) := fun j hj => by
                by_cases e : j = i
                · subst e; rw [HH.out]; rfl
                · exact HT2.out j (by omega)
              clear HT2 HH
              go_wp2
              go_roundw
              case rel => exact ⟨i + 1, by omega, by go_num, HXn.out w7 HB7.out, HN.out⟩
              case measure => simp [intOf]; omega
            | true =>
              cases q with
              | true =>
                have HH : Hid ((atN s come t i && readyN s come t) = ((true && (true && !true)) && rd)) := HH2.out
                clear HH2
                go_wp2_with fail
                refine HOi.out.mono ?_
                rintro e w6 ⟨rfl, hb6⟩
                obtain ⟨c0', c1', cq'⟩ := HXs.out w6 hb6
                have HB6 := Lib.hid hb6
                clear hb6 c0 c1 cq

                go_wp2_with fail
                refine (HMi.out w6 HB6.out).mono ?_
                rintro e w7 ⟨rfl, hb7⟩
                obtain ⟨d0, d1, dq⟩ := HXs.out w7 (HB6.out.trans (hb7.mono HB6.out.size))
                have HB7 := Lib.hid (HB6.out.trans (hb7.mono HB6.out.size))
                clear hb7 c0' c1' cq'

                have HN : Hid (∀ j, j < i + 1 → (atN s come t j && readyN s come t) = false) := fun j hj => by
                  by_cases e : j = i
                  · subst e; rw [HH.out]; rfl
                  · exact HT2.out j (by omega)
                clear HT2 HH
                go_wp2
                go_roundw
                case rel => exact ⟨i + 1, by omega, by go_num, HXn.out w7 HB7.out, HN.out⟩
                case measure => simp [intOf]; omega
              | false =>
                cases rd with
                | false =>
                  have HH : Hid ((atN s come t i && readyN s come t) = ((true && (true && !false)) && false)) := HH2.out
                  clear HH2
                  go_wp2_with fail
                  refine HOi.out.mono ?_
                  rintro e w6 ⟨rfl, hb6⟩
                  obtain ⟨c0', c1', cq'⟩ := HXs.out w6 hb6
                  have HB6 := Lib.hid hb6
                  clear hb6 c0 c1 cq

                  go_wp2_with fail
                  refine (HMi.out w6 HB6.out).mono ?_
                  rintro e w7 ⟨rfl, hb7⟩
                  obtain ⟨d0, d1, dq⟩ := HXs.out w7 (HB6.out.trans (hb7.mono HB6.out.size))
                  have HB7 := Lib.hid (HB6.out.trans (hb7.mono HB6.out.size))
                  clear hb7 c0' c1' cq'

                  go_wp2_with fail
                  refine (HRd.out w7 HB7.out).mono ?_
                  rintro e w8 ⟨rfl, hb8⟩
                  obtain ⟨e0, e1, eq⟩ := HXs.out w8 (HB7.out.trans (hb8.mono HB7.out.size))
                  have HB8 := Lib.hid (HB7.out.trans (hb8.mono HB7.out.size))
                  clear hb8 d0 d1 dq

                  have HN : Hid (∀ j, j < i + 1 → (atN s come t j && readyN s come t) = false) := fun j hj => by
                    by_cases e : j = i
                    · subst e; rw [HH.out]; rfl
                    · exact HT2.out j (by omega)
                  clear HT2 HH
                  go_wp2
                  go_roundw
                  case rel => exact ⟨i + 1, by omega, by go_num, HXn.out w8 HB8.out, HN.out⟩
                  case measure => simp [intOf]; omega
                | true =>
                  have HH : Hid ((atN s come t i && readyN s come t) = ((true && (true && !false)) && true)) := HH2.out
                  clear HH2
                  go_wp2_with fail
                  refine HOi.out.mono ?_
                  rintro e w6 ⟨rfl, hb6⟩
                  obtain ⟨c0', c1', cq'⟩ := HXs.out w6 hb6
                  have HB6 := Lib.hid hb6
                  clear hb6 c0 c1 cq

                  go_wp2_with fail
                  refine (HMi.out w6 HB6.out).mono ?_
                  rintro e w7 ⟨rfl, hb7⟩
                  obtain ⟨d0, d1, dq⟩ := HXs.out w7 (HB6.out.trans (hb7.mono HB6.out.size))
                  have HB7 := Lib.hid (HB6.out.trans (hb7.mono HB6.out.size))
                  clear hb7 c0' c1' cq'

                  go_wp2_with fail
                  refine (HRd.out w7 HB7.out).mono ?_
                  rintro e w8 ⟨rfl, hb8⟩
                  obtain ⟨e0, e1, eq⟩ := HXs.out w8 (HB7.out.trans (hb8.mono HB7.out.size))
                  have HB8 := Lib.hid (HB7.out.trans (hb8.mono HB7.out.size))
                  clear hb8 d0 d1 dq

                  have HR2 : Hid (R = some t) := by
                    show _ = _
                    rw [HR.out]
                    exact next_some HT.out ht1 ht2 (by
                      rw [Bool.and_eq_true]
                      have h0 : (atN s come t i && readyN s come t) = true := HH.out
                      rw [Bool.and_eq_true] at h0
                      refine ⟨?_, h0.2⟩
                      unfold hasN
                      exact List.any_eq_true.2 ⟨i, List.mem_range.2 hil, h0.1⟩)
                  clear HT HT2 HH
                  go_wp2
                  go_ret2
                  exact NxPost.some_ HR2.out (HXn.out w8 HB8.out).2.2
end Go.Proofs.Ytflpikickbellaa
