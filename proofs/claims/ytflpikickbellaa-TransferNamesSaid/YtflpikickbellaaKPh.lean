/- Layer 32: the program's Held, walked. -/
import Derived.Test.YtflpikickbellaaKPg
import Derived.Test.YtflpikickbellaaKG12
import Derived.Deep.RegionHeld3
namespace Go.Proofs.Ytflpikickbellaa
open Go.RowKit Go.Shelf Go.Sort
set_option maxRecDepth 100000

theorem HdA.base {W1 W : World} {v : Value} {N : List (Nat × List Int)} (h : HdA W1 v N W) {b : Nat} (hb : v.ownBlock = some b) : W1.heap.size ≤ b := by
  obtain ⟨hv, h1, h2⟩ := h.own
  exact (h2.lt hb).1
set_option maxHeartbeats 32000000 in
theorem pheld_any (A F : Option Addr) (c fc : Nat) (s : Sft) (hl : s.to_.length ≤ 4611686018427387904) (hf : s.first.length ≤ 4611686018427387904) (w : World) (h : SfAt A F s w) :
    Calls Try.prog 13 #[sftV A F c fc s] w fun e w' => HdPost w (hldE s) e w' := by
  have hb0 := al_t w (sftB A F c fc s)
  have HX0 : Hid (SfBx w.heap.size A F c fc s (w.alloc (sftB A F c fc s)) ∧ Below w.heap.size w (w.alloc (sftB A F c fc s))) := ⟨SfBx.new c fc h, hb0⟩
  have c0 := HX0.out.1.c0
  have c1 := HX0.out.1.c1
  have HO := Lib.hid (pplnd_any A F c fc s hl hf _ HX0.out.1.at_)
  have hmm := @run_makeMap Try.prog
  obtain ⟨r, hr⟩ : ∃ r, r = hldE s := ⟨_, rfl⟩
  rw [← hr]
  clear h hb0
  by_cases hE : (plndE s).2 = 0
  case neg =>
    have HR : Hid (r = ([], (plndE s).2)) := by show _ = _; rw [hr, hldE_e hE]
    have d0 : ((plndE s).2 != 0) = true := by simpa using hE
    have HO2 := Lib.hid (show Calls _ _ _ _ fun e w' => ∃ a n k, e = .returned (.tuple #[.slice a n k, .int .i64 (plndE s).2]) ∧ Below (w.alloc (sftB A F c fc s)).heap.size (w.alloc (sftB A F c fc s)) w' from Calls.mono HO.out fun e w' ⟨a, k, he, _, hb⟩ => ⟨a, _, k, he, hb⟩)
    obtain ⟨x, hx⟩ : ∃ x, x = (plndE s).2 := ⟨_, rfl⟩
    rw [← hx] at HR d0 HO2
    clear hr hE hx HO hmm
    go_enter Try.func13, Try.ntmps13
    go_wp2_with fail
    refine HO2.out.mono ?_
    rintro e w1 ⟨a, n, k, rfl, hb1⟩
    have HB := Lib.hid (HX0.out.2.trans (hb1.mono HX0.out.2.size))
    clear hb1
    go_wp2
    go_ret2
    exact HdPost.none HR.out HB.out
  case pos =>
  obtain ⟨hle, hsz⟩ := plndE_l hE
  have hs := sftE_ok hsz
  have HS := Lib.hid hs
  have hn40 : s.to_.length ≤ 40 := hs.len
  have hE0 : (ordE s).2 = 0 := by
    unfold plndE at hE
    split at hE
    · rename_i h1; exact absurd hE h1
    · rename_i h1; simpa using h1
  have hF := ordE_F hE0
  rw [← hle] at hF
  have HOk : Hid (r = (heldN s (plndE s).1 101, 0)) := hr.trans (hldE_ok hE)
  have HO2 := Lib.hid (show Calls _ _ _ _ fun e w' => ∃ a k, e = .returned (.tuple #[.slice a (plndE s).1.length k, .int .i64 0]) ∧ SlI w' w'.heap.size a (plndE s).1 ∧ Below (w.alloc (sftB A F c fc s)).heap.size (w.alloc (sftB A F c fc s)) w' from Calls.mono HO.out fun e w' ⟨a, k, he, hsl, hb⟩ => ⟨a, k, by rw [he, hE], hsl, hb⟩)
  have hok := ordE_ok s
  rw [← hle] at hok
  obtain ⟨l, hlE⟩ : ∃ l, l = (plndE s).1 := ⟨_, rfl⟩
  rw [← hlE] at HO2 HOk hok hF
  have HLk := Lib.hid hok.1
  have hll : l.length ≤ 40 := Nat.le_trans hok.2 hn40
  have HMv : Hid (∀ i, i < s.n → l.contains (i : Int) = movedN s i) := fun i hi => by rw [Bool.eq_iff_iff, List.contains_iff_mem]; exact hF.mem i hi
  obtain ⟨pb, hpb⟩ : ∃ pb, pb = w.heap.size := ⟨_, rfl⟩
  clear hr hE hs HO hlE hle hsz hok hF hE0
  go_enter Try.func13, Try.ntmps13
  go_upto_region 4 with ((go_at_call 44; refine HO2.out.mono ?_; rintro e w1 ⟨a, kc, rfl, hsl, hb1⟩))
  refine abs_world (Q := fun W => Code.wp _ _ _ _ W) (F := fun W => SfBx w.heap.size A F c fc s W ∧ SlI W W.heap.size a l ∧ Below w.heap.size w W) _ ⟨HX0.out.1.to hb1, hsl, HX0.out.2.trans (hb1.mono HX0.out.2.size)⟩ ?_
  clear HX0 c0 c1 hb1 hsl HO2
  rintro W1 ⟨hx, hsl, hb1⟩
  rw [← hpb] at hx ⊢
  have HXs : Hid (∀ W, Below W1.heap.size W1 W → SfBx pb A F c fc s W ∧ SlI W W.heap.size a l ∧ Below w.heap.size w W) := fun W hb => ⟨hx.to hb, (hsl.below hb).more hb.size, hb1.trans (hb.mono hb1.size)⟩
  obtain ⟨mb, hmb⟩ : ∃ mb, mb = W1.heap.size := ⟨_, rfl⟩
  have HH0 : Hid (HmA W1 mb 0 (fun _ => none) (conA s 0) (W1.alloc (.map #[] 0))) := by
    have := HmA.new W1
    rw [← hmb] at this
    rw [conA_zero]
    exact this
  clear hx hsl hb1 hpb
  go_upto_region 5 with fail
  rw [← hmb]
  refine abs_world (Q := fun W => Code.wp _ _ _ _ W) (F := fun W => HmA W1 mb 0 (fun _ => none) (conA s 0) W) _ HH0.out ?_
  clear HH0 hmm hmb
  intro W2 h2
  have H2 := Lib.hid h2
  have c0 := (HXs.out W2 h2.lo).1.c0
  clear h2
  go_wp2
  clear c0
  go_loopw [26] (fun s26 wr => ∃ (i n : Nat) (G : Int → Option Value), i ≤ s.to_.length ∧ s26 = .int .i64 (i : Int) ∧ n ≤ i ∧ Hid (HmA W1 mb n G (conA s i) wr)) (fun s26 _ => s.to_.length - (intOf s26).toNat)
  case atStart => exact ⟨0, 0, _, Nat.zero_le _, rfl, Nat.le_refl _, H2.out⟩
  case round =>
    obtain ⟨i, n, G, hi, rfl, hni, H⟩ := hrel
    clear H2
    obtain ⟨W, hW⟩ : ∃ x : World, x = wr := ⟨_, rfl⟩
    rw [← hW] at H ⊢
    clear hW
    by_cases hlt : i < s.to_.length
    case pos =>
      obtain ⟨b, off, hA, hcl⟩ := (HXs.out W H.out.lo).1.to_at hlt
      obtain ⟨z0, z1, -⟩ := HS.out.to_ i hlt
      have HCn := Lib.hid (pcontains_any a kc l (i : Int) W (HXs.out W H.out.lo).2.1 (by omega))
      have hmvi := HMv.out i hlt
      rw [hmvi] at HCn
      obtain ⟨z, hz⟩ : ∃ z, z = s.to_.getD i 0 := ⟨_, rfl⟩
      rw [← hz] at hcl z0 z1
      subst hA
      cases hm : movedN s i with
      | true =>
        rw [hm] at HCn
        have HN : Hid (HmA W1 mb n G (conA s (i + 1)) W) := by show HmA _ _ _ _ _ _; rw [conA_skip hm]; exact H.out
        clear hm hmvi hz
        go_wp2_with ((go_at_call 49; refine HCn.out.mono ?_; rintro e w4 ⟨rfl, rfl⟩))
        go_roundw
        case rel => exact ⟨i + 1, n, G, by omega, by go_num, by omega, HN.out⟩
        case measure => simp [intOf]; omega
      | false =>
        rw [hm] at HCn
        have hzi : z = (i : Int) := by rw [hz, unmoved hm]
        subst hzi
        have hwz : wfK (i : Int) := WalkArith.wf_i64 (by omega)
        obtain ⟨ar, kr, hv, -⟩ := H.out.mp.read (i : Int)
        have hlk : (Instr.lookup 70 (.map (some mb)) (.int .i64 (i : Int)) false).run Try.prog W = .ok (.slice ar (conA s i (i : Int)).length kr) W := by rw [← hv]; exact H.out.mp.look hwz
        obtain ⟨v2, w2, hr, -, hP⟩ := (H.out.to (al_t W (.cells #[.int .i64 (i : Int)] 3))).step hwz (by omega) (by have := conA_len s i (i : Int); omega) (i : Int) W.heap.size (cell_new rfl rfl rfl) hv
        obtain ⟨w4, hr4, hP4⟩ := hP w2 (Below.refl _ _)
        have HN : Hid (HmA W1 mb (n + 1) (upd G (i : Int) (some v2)) (conA s (i + 1)) w4) := by show HmA _ _ _ _ _ _; rw [conA_step hm]; exact hP4
        obtain ⟨L, hL⟩ : ∃ L, L = (conA s i (i : Int)).length := ⟨_, rfl⟩
        rw [← hL] at hlk hr
        clear hm hmvi hz hP hP4 hv hL hwz
        go_wp2_with (first
          | (go_at_call 49; refine HCn.out.mono ?_; rintro e w4 ⟨rfl, rfl⟩)
          | (at_builtin; refine wpList_append_run _ rfl _ _ _ _ rfl _ _ (by rfl) (by rfl) hr ?_))
        go_roundw
        case rel => exact ⟨i + 1, n + 1, _, by omega, by go_num, by omega, HN.out⟩
        case measure => simp [intOf]; omega
    case neg =>
      obtain rfl : i = s.to_.length := by omega
      have H0 : Hid (HmA W1 mb n G (conB s l 0) W) := by show HmA _ _ _ _ _ _; rw [conB_zero]; exact H.out
      clear H hlt
      go_wp2
      go_loopw [46] (fun s46 wr => ∃ (k n : Nat) (G : Int → Option Value), k ≤ l.length ∧ s46 = .int .i64 (k : Int) ∧ n ≤ 40 + k ∧ Hid (HmA W1 mb n G (conB s l k) wr)) (fun s46 _ => l.length - (intOf s46).toNat)
      case atStart => exact ⟨0, n, G, Nat.zero_le _, rfl, by omega, H0.out⟩
      case round =>
        clear hni hi
        obtain ⟨k, n2, G2, hk, rfl, hnk, H⟩ := hrel
        clear H0
        obtain ⟨W, hW⟩ : ∃ x : World, x = wr := ⟨_, rfl⟩
        rw [← hW] at H ⊢
        clear hW
        by_cases hlt : k < l.length
        case pos =>
          obtain ⟨hxW, hslW, -⟩ := HXs.out W H.out.lo
          obtain ⟨b, off, x, hA, -, hx, hcx⟩ := hslW.at_ hlt
          obtain ⟨i, hxi, hil⟩ := HLk.out x (List.mem_of_getElem? hx)
          subst hxi
          have hil' : i < s.to_.length := hil
          have HNx := Lib.hid (conB_step (s := s) hx)
          obtain ⟨b2, off2, hA2, hcl⟩ := hxW.to_at hil
          obtain ⟨z0, z1, -⟩ := HS.out.to_ i hil
          obtain ⟨z, hz⟩ : ∃ z, z = s.to_.getD i 0 := ⟨_, rfl⟩
          rw [← hz] at hcl z0 z1 HNx
          have HZ := Lib.hid hz
          subst hA hA2
          have hwz : wfK z := WalkArith.wf_i64 (by omega)
          obtain ⟨ar, kr, hv, -⟩ := H.out.mp.read z
          have hcl2 := conB_len s l k z
          have HSx : Hid (∀ W', Below W1.heap.size W1 W' → W'.cell? ⟨pb, 0, none⟩ = some (.slice (some ⟨b2, off2, none⟩) s.to_.length c) ∧ W'.cell? ⟨b2, off2 + i, none⟩ = some (.int .i64 z)) := fun W' hb => by
            obtain ⟨b3, off3, e3, h3⟩ := (HXs.out W' hb).1.to_at hil
            cases e3
            exact ⟨(HXs.out W' hb).1.c0, by rw [HZ.out]; exact h3⟩
          have HLk2 : Hid (∀ W', Below W.heap.size W W' → (Instr.lookup 70 (.map (some mb)) (.int .i64 z) false).run Try.prog W' = .ok (.slice ar (conB s l k z).length kr) W') := fun W' hb => by rw [← hv]; exact (H.out.to hb).mp.look hwz
          have HSt : Hid (∀ W', Below W.heap.size W W' → ∀ g, W'.cell? ⟨g, 0, none⟩ = some (.int .i64 (i : Int)) → ∃ v2 w2, (Builtin.append_ #[22, 22] 22 #[.slice ar (conB s l k z).length kr, .slice (some ⟨g, 0, none⟩) 1 1]).run Try.prog W' = .ok v2 w2 ∧
              (w2.cell? ⟨pb, 0, none⟩ = some (.slice (some ⟨b2, off2, none⟩) s.to_.length c) ∧ w2.cell? ⟨b2, off2 + i, none⟩ = some (.int .i64 z)) ∧ ∃ w4, (Instr.mapUpdate 70 (.map (some mb)) (.int .i64 z) v2).run Try.prog w2 = .ok () w4 ∧ Hid (HmA W1 mb (n2 + 1) (upd G2 z (some v2)) (conB s l (k + 1)) w4)) := fun W' hb g hg => by
            obtain ⟨v2, w2, hr, hlo2, hP⟩ := (H.out.to hb).step hwz (by omega) (by omega) (i : Int) g hg hv
            obtain ⟨w4, hr4, hP4⟩ := hP w2 (Below.refl _ _)
            refine ⟨v2, w2, hr, HSx.out w2 hlo2, w4, hr4, ?_⟩
            show HmA _ _ _ _ _ _
            rw [HNx.out]; exact hP4
          have HSw : Hid (∀ W', Below W.heap.size W W' → W'.cell? ⟨pb, 0, none⟩ = some (.slice (some ⟨b2, off2, none⟩) s.to_.length c) ∧ W'.cell? ⟨b2, off2 + i, none⟩ = some (.int .i64 z)) := fun W' hb => HSx.out W' (H.out.to hb).lo
          have c0 := hxW.c0
          obtain ⟨L, hL⟩ : ∃ L, L = (conB s l k z).length := ⟨_, rfl⟩
          simp only [← hL] at HLk2 HSt
          clear hxW hslW hx hz hwz hv hcl2 HNx hL
          go_upto_region 14 with fail
          go_region_held3 (fun W' => W'.cell? ⟨pb, 0, none⟩ = some (.slice (some ⟨b2, off2, none⟩) s.to_.length c) ∧ W'.cell? ⟨b2, off2 + i, none⟩ = some (.int .i64 z))
            (first | exact ⟨by assumption, by assumption⟩ | exact HSw.out _ (by (repeat (first | with_reducible exact Below.refl _ _ | (with_reducible refine Below.drew ?_) | (with_reducible refine al_s ?_ _)))) | fail)
            (first
              | (rw [HLk2.out]; rotate_left; (repeat (first | with_reducible exact Below.refl _ _ | (with_reducible refine Below.drew ?_) | (with_reducible refine al_s ?_ _))); go_simp)
              | (refine step_append_ex (by rfl) _ _ _ _ (by rfl) _ _ (by rfl) (by rfl) (HSt.out _ (by (repeat (first | with_reducible exact Below.refl _ _ | (with_reducible refine Below.drew ?_) | (with_reducible refine al_s ?_ _)))) _ (by refine drew_cell ?_; exact cell_new rfl (by simp) rfl)) ?_; rintro v2 w2 ⟨⟨e0, e1⟩, w4, he4, hq4⟩; obtain ⟨q0, q1⟩ := HSx.out w4 hq4.out.lo)
              | fail)
          all_goals
            go_wp2
            go_roundw
            case rel => exact ⟨k + 1, n2 + 1, _, by omega, by go_num, by omega, by assumption⟩
            case measure => simp [intOf]; omega
        case neg =>
          obtain rfl : k = l.length := by omega
          have hba := al_t W (.cells #[.map (some mb)] 70)
          have HKs := Lib.hid (sortedKeys_any (H.out.mp.mv.below hba H.out.mp.mv.lt) (Bs := W.heap.size) (by simp) (cell_new rfl rfl rfl) (N := 101) (by omega) (fun L hLn hLk => by
            have := nodup_le (M := (List.range 101).map fun k : Nat => (k : Int)) hLn (fun x hx => by
              have h1 := hLk x hx
              rw [H.out.dom, domB_iff] at h1
              have := conB_range HS.out HLk.out h1
              exact List.mem_map.2 ⟨x.toNat, List.mem_range.2 (by omega), by omega⟩)
            rw [List.length_map, List.length_range] at this
            exact this))
          have HBa := Lib.hid hba
          clear hba hlt hk
          go_wp2_with fail
          refine (keys_any mb W).mono ?_
          rintro e w4 ⟨rfl, rfl⟩
          go_wp2_with fail
          refine HKs.out.mono ?_
          rintro e w5 ⟨v5, xs, rfl, hky, ho5, hb5⟩
          obtain ⟨W5, hW5⟩ : ∃ x : World, x = w5 := ⟨_, rfl⟩
          rw [← hW5] at ho5 hb5 ⊢
          clear hW5
          rw [keys_held HS.out HLk.out hky H.out.dom] at ho5
          have H5 := Lib.hid (H.out.to (HBa.out.trans (hb5.mono HBa.out.size)))
          obtain ⟨N, hN⟩ : ∃ N, N = heldN s l 101 := ⟨_, rfl⟩
          have HNm : Hid (∀ p ∈ N, p.1 < 101 ∧ p.2 = heldC s l p.1) := fun p hp => heldN_mem (by rw [← hN]; exact hp)
          have HNl : Hid (N.length ≤ 101) := by show _ ≤ _; rw [hN]; exact heldN_len s l 101
          rw [← hN] at ho5 HOk
          obtain ⟨ks, hks⟩ : ∃ ks, ks = N.map fun p => (p.1 : Int) := ⟨_, rfl⟩
          rw [← hks] at ho5
          have HKe : Hid (ks.length = N.length) := by show _ = _; rw [hks, List.length_map]
          have HKm := Lib.hid hks
          obtain ⟨aks, cks, rfl, -⟩ := own_slice ho5
          have HSk := Lib.hid (ownI.slI ho5)
          have hkl : ks.length ≤ 101 := by have := HKe.out; have := HNl.out; omega
          have HD0 : Hid (HdA W5 (.slice none 0 0) (N.take 0) W5) := HdA.new W5
          clear hky ho5 hb5 hN hks HKs HBa H
          go_wp2
          go_loopw [11, 71] (fun s11 s71 wr => ∃ k : Nat, k ≤ ks.length ∧ s71 = .int .i64 (k : Int) ∧ Hid (HdA W5 s11 (N.take k) wr)) (fun _ s71 _ => ks.length - (intOf s71).toNat)
          case atStart => exact ⟨0, Nat.zero_le _, rfl, HD0.out⟩
          case round =>
            obtain ⟨k, hk, rfl, HD⟩ := hrel
            clear HD0
            obtain ⟨W, hW⟩ : ∃ x : World, x = wr := ⟨_, rfl⟩
            rw [← hW] at HD ⊢
            clear hW
            obtain ⟨a11, c11, rfl⟩ := HD.out.form
            by_cases hlt : k < ks.length
            case pos =>
              obtain ⟨b, off, x, hA, hB, hx, hcx⟩ := HSk.out.at_ hlt
              have hcx := (bcell HD.out.lo hB _).trans hcx
              obtain ⟨p, hp, hxp⟩ : ∃ p, N[k]? = some p ∧ x = (p.1 : Int) := by
                rw [HKm.out, List.getElem?_map] at hx
                cases hnk : N[k]? with
                | none => rw [hnk] at hx; cases hx
                | some p => rw [hnk] at hx; exact ⟨p, rfl, by simpa using hx.symm⟩
              obtain ⟨t, hc⟩ := p
              subst hxp
              obtain ⟨ht1, ht2⟩ := HNm.out _ (List.mem_of_getElem? hp)
              have ht2 : hc = heldC s l t := ht2
              have ht1 : t < 101 := ht1
              have HNt : Hid (N.take (k + 1) = N.take k ++ [(t, hc)]) := by
                obtain ⟨hk', e⟩ := List.getElem?_eq_some_iff.1 hp
                show _ = _
                rw [List.take_succ_eq_append_getElem hk', e]
              have hwt : wfK (t : Int) := WalkArith.wf_i64 (by omega)
              obtain ⟨P, hP⟩ : ∃ P, P = N.take k := ⟨_, rfl⟩
              have hPl : P.length ≤ 101 := by rw [hP, List.length_take]; have := HNl.out; omega
              rw [← hP] at HD HNt ⊢
              obtain ⟨ar, kr, hv, hck, hsv⟩ := H5.out.slv (t : Int) (v := .slice a11 P.length c11) (fun b hb => HD.out.base hb) HD.out.lo
              rw [conB_held, ← ht2] at hv hck hsv
              have hlk : (Instr.lookup 70 (.map (some mb)) (.int .i64 (t : Int)) false).run Try.prog W = .ok (.slice ar hc.length kr) W := by rw [← hv]; exact (H5.out.to HD.out.lo).mp.look hwt
              obtain ⟨A9, k9, v9, hr9, hO9⟩ := HD.out.push (by omega) t hc hck hsv
              have HD9 : Hid (HdA W5 (.slice A9 (P.length + 1) k9) (N.take (k + 1)) v9) := by show HdA _ _ _ _; rw [HNt.out]; exact hO9
              subst hA
              clear hx hp ht2 hwt hP hv hck hsv hO9 HNt hB
              go_wp2_with (at_builtin; refine wpList_append_run _ rfl _ _ _ _ rfl _ _ (by rfl) (by rfl) hr9 ?_)
              go_roundw
              case rel => exact ⟨k + 1, by omega, by go_num, HD9.out⟩
              case measure => simp [intOf]; omega
            case neg =>
              obtain rfl : k = ks.length := by omega
              have hT : N.take ks.length = N := by rw [HKe.out, List.take_length]
              rw [hT] at HD ⊢
              have HSl := Lib.hid HD.out.end_
              have HBe := Lib.hid (HXs.out W (H5.out.to HD.out.lo).lo).2.2
              obtain ⟨nn, hnn⟩ : ∃ nn, nn = N.length := ⟨_, rfl⟩
              have HNn := Lib.hid hnn
              rw [← hnn]
              clear hT HD hnn hlt hk
              go_wp2
              go_ret2
              exact HdPost.some_ HOk.out HNn.out HSl.out HBe.out
end Go.Proofs.Ytflpikickbellaa
