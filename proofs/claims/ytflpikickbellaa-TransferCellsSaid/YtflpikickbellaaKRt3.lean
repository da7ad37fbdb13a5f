/- Layer 32: the reference's free. -/
import Derived.Test.YtflpikickbellaaKG13
import Derived.Deep.RegionHeld3
import Derived.Deep.RegionHeld
namespace Go.Proofs.Ytflpikickbellaa
open Go.RowKit Go.Shelf Go.Sort
set_option maxRecDepth 100000

theorem freeN_false {s : Sft} {come : Nat → Bool} {stop : Int} {i k : Nat} {p : Int × Int} (hp : s.first[k]? = some p) (h : holdsI s come stop i p = true) : freeN s come stop i = false := by
  unfold freeN
  rw [List.any_eq_true.2 ⟨p, List.mem_of_getElem? hp, h⟩]; rfl
set_option maxHeartbeats 8000000 in
theorem rfree_any (A F : Option Addr) (c fc : Nat) (s : Sft) (hs : SftOk s) (hf : s.first.length ≤ 4611686018427387904) (come : Nat → Bool) (gb : Nat) (i : Nat) (hi : i < s.n) (w : World) (h : SfAt A F s w) (hc : CmAt gb s.n come w) :
    Calls Try.prog 43 #[sftV A F c fc s, .int .i64 (i : Int), .slice (some ⟨gb, 0, none⟩) s.to_.length s.to_.length] w fun e w' => e = .returned (.bool (freeN s come (offN s i) i)) ∧ Below w.heap.size w w' := by
  have hb0 := al_t w (sftB A F c fc s)
  have HX0 : Hid (SfBx w.heap.size A F c fc s (w.alloc (sftB A F c fc s)) ∧ CmAt gb s.n come (w.alloc (sftB A F c fc s)) ∧ Below w.heap.size w (w.alloc (sftB A F c fc s))) := ⟨SfBx.new c fc h, hc.to hb0, hb0⟩
  have c0 := HX0.out.1.c0
  have c1 := HX0.out.1.c1
  have HS := Lib.hid hs
  have hn40 := hs.len
  obtain ⟨r, hr⟩ : ∃ r, r = freeN s come (offN s i) i := ⟨_, rfl⟩
  have HR : Hid (r = freeN s come (offN s i) i) := hr
  rw [← hr]
  obtain ⟨pb, hpb⟩ : ∃ pb, pb = w.heap.size := ⟨_, rfl⟩
  clear h hc hb0 hs hr
  go_enter Try.func43, Try.ntmps43
  go_upto_region 1 with fail
  refine abs_world (Q := fun W => Code.wp _ _ _ _ W) (F := fun W => SfBx w.heap.size A F c fc s W ∧ CmAt gb s.n come W ∧ Below w.heap.size w W) _ HX0.out ?_
  clear HX0 c0 c1
  rintro W1 ⟨hx, hcm, hb1⟩
  rw [← hpb] at hx ⊢
  have HX1 := Lib.hid (And.intro hx (And.intro hcm hb1))
  clear hx hcm hb1 hpb
  go_wp2
  go_loopw [7] (fun s7 wr => ∃ k : Nat, k ≤ s.first.length ∧ s7 = .int .i64 (k : Int) ∧ Hid (SfBx pb A F c fc s wr ∧ CmAt gb s.n come wr ∧ Below w.heap.size w wr) ∧ Hid (noneTo (holdsI s come (offN s i) i) s.first k)) (fun s7 _ => s.first.length - (intOf s7).toNat)
  case atStart => exact ⟨0, Nat.zero_le _, rfl, HX1.out, noneTo_zero _ _⟩
  case round =>
    obtain ⟨k, hk, rfl, HX, HT⟩ := hrel
    clear HX1
    have c1 := HX.out.1.c1
    by_cases hlt : k < s.first.length
    case neg =>
      have HR2 : Hid (r = true) := by
        show _ = _
        rw [HR.out]
        unfold freeN
        rw [noneTo_all HT.out (by omega)]; rfl
      clear HT
      go_wp2
      go_ret
      exact ⟨ret_bool HR2.out.symm, HX.out.2.2⟩
    case pos =>
      obtain ⟨b, off, p, rfl, -, hp, q0, q1⟩ := HX.out.1.at_.fr.at_ hlt
      have HPk := Lib.hid hp
      obtain ⟨hp1, hp2, hp3, hp4, -⟩ := HS.out.first p (List.mem_of_getElem? hp)
      obtain ⟨an, han⟩ : ∃ an : Nat, p.1 = (an : Int) := ⟨p.1.toNat, by omega⟩
      obtain ⟨bn, hbn⟩ : ∃ bn : Nat, p.2 = (bn : Int) := ⟨p.2.toNat, by omega⟩
      have HH0 : Hid (holdsI s come (offN s i) i p = (decide (bn = i) && (decide (offN s an = offN s i) && (movedN s an && !(come an))))) := by
        show _ = _
        unfold holdsI waitN
        rw [han, hbn, Int.toNat_natCast, show decide ((bn : Int) = (i : Int)) = decide (bn = i) by rw [decide_eq_decide]; omega]
      rw [han] at q0 hp1 hp2
      rw [hbn] at q1 hp3 hp4
      have hal : an < s.n := by omega
      have hbl : bn < s.n := by omega
      clear han hbn hp hp1 hp2 hp3 hp4
      go_wp2
      go_quiet (fail)
      go_upto_region 5 with fail
      refine abs_world (Q := fun W => Code.wp _ _ _ _ W) (F := fun W => SfBx pb (A) (some ⟨b, off, none⟩) c fc s W ∧ CmAt gb s.n come W ∧ Below w.heap.size w W) _ ⟨HX.out.1.to (below_drewT (Below.refl _ _) _), HX.out.2.1.to (below_drewT (Below.refl _ _) _), below_drewT HX.out.2.2 _⟩ ?_
      clear HX c1 q0 q1
      intro W5 hx5
      have HX5 := Lib.hid hx5
      clear hx5
      have HXn : Hid (∀ W, Below W5.heap.size W5 W → SfBx pb A (some ⟨b, off, none⟩) c fc s W ∧ CmAt gb s.n come W ∧ Below w.heap.size w W) := fun W hb => ⟨HX5.out.1.to hb, HX5.out.2.1.to hb, HX5.out.2.2.trans (hb.mono HX5.out.2.2.size)⟩
      have hOi : ∀ W, Below W5.heap.size W5 W → Calls Try.prog 42 #[sftV A (some ⟨b, off, none⟩) c fc s, .int .i64 (i : Int)] W fun e w' => e = .returned (.int .i64 (offN s i)) ∧ Below W.heap.size W w' := fun W hb => roff_later c fc HS.out HX5.out.1.at_ i W hi hb
      have hOa : ∀ W, Below W5.heap.size W5 W → Calls Try.prog 42 #[sftV A (some ⟨b, off, none⟩) c fc s, .int .i64 (an : Int)] W fun e w' => e = .returned (.int .i64 (offN s an)) ∧ Below W.heap.size W w' := fun W hb => roff_later c fc HS.out HX5.out.1.at_ an W hal hb
      have hMa : ∀ W, Below W5.heap.size W5 W → Calls Try.prog 27 #[sftV A (some ⟨b, off, none⟩) c fc s, .int .i64 (an : Int)] W fun e w' => e = .returned (.bool (movedN s an)) ∧ Below W.heap.size W w' := fun W hb => rmoved_later c fc HS.out hf HX5.out.1.at_ an W hal hb
      have hXs : ∀ W, Below W5.heap.size W5 W → W.cell? ⟨pb, 0, none⟩ = some (.slice A s.to_.length c) ∧ W.cell? ⟨pb, 1, none⟩ = some (.slice (some ⟨b, off, none⟩) s.first.length fc) ∧ W.cell? ⟨gb, an, none⟩ = some (.bool (come an)) := fun W hb => ⟨(HXn.out W hb).1.c0, (HXn.out W hb).1.c1, (HXn.out W hb).2.1.2 an hal⟩
      obtain ⟨oi, hoi⟩ : ∃ oi, oi = offN s i := ⟨_, rfl⟩
      have HOI : Hid (oi = offN s i) := hoi
      obtain ⟨oa, hoa⟩ : ∃ oa, oa = offN s an := ⟨_, rfl⟩
      obtain ⟨m, hm⟩ : ∃ m, m = movedN s an := ⟨_, rfl⟩
      obtain ⟨q, hq⟩ : ∃ q, q = come an := ⟨_, rfl⟩
      rw [← hoi] at HR HT HH0
      rw [← hoa, ← hm, ← hq] at HH0
      simp only [← hoi] at hOi
      simp only [← hoa] at hOa
      simp only [← hm] at hMa
      simp only [← hq] at hXs
      have HOi := Lib.hid hOi
      have HOa := Lib.hid hOa
      have HMa := Lib.hid hMa
      have HXs := Lib.hid hXs
      obtain ⟨c0, c1, cq⟩ := hXs W5 (Below.refl _ _)
      have hal' : an < s.to_.length := hal
      clear hOi hOa hMa hXs hoi hoa hm hq HX5 hal hbl
      by_cases e1 : bn = i
      case neg =>
        have b1 : ((bn : Int) == (i : Int)) = false := by rw [beq_eq_false_iff_ne]; omega
        have HH : Hid (holdsI s come oi i p = (false && (decide (oa = oi) && (m && !q)))) := by
          show _ = _
          rw [HH0.out, decide_eq_false e1]
        have HN : Hid (noneTo (holdsI s come oi i) s.first (k + 1)) := noneTo_next HT.out HPk.out (by rw [HH.out]; rfl)
        clear HT HH HH0 e1
        go_quiet (fail)
        go_wp2
        go_roundw
        case rel => exact ⟨k + 1, by omega, by go_num, HXn.out _ (below_drewT (Below.refl _ _) _), by have h := HN.out; rw [HOI.out] at h; exact h⟩
        case measure => simp [intOf]; omega
      case pos =>
        have b1 : ((bn : Int) == (i : Int)) = true := by rw [beq_iff_eq, e1]
        have b1' : ((i : Int) == (i : Int)) = true := by simp
        have HH1 : Hid (holdsI s come oi i p = (true && (decide (oa = oi) && (m && !q)))) := by
          show _ = _
          rw [HH0.out, decide_eq_true e1]
        clear HH0
        subst e1
        cases b2 : (oa == oi) with
        | false =>
          have HH : Hid (holdsI s come oi bn p = (true && (false && (m && !q)))) := by
            show _ = _
            rw [HH1.out, decide_eq_false (by simpa using b2)]
          clear HH1
          have HN : Hid (noneTo (holdsI s come oi bn) s.first (k + 1)) := noneTo_next HT.out HPk.out (by rw [HH.out]; rfl)
          clear HT HH
          have HSb : Hid (∀ W', Below W5.heap.size W5 W' → W'.cell? ⟨pb, 0, none⟩ = some (.slice A s.to_.length c) ∧ W'.cell? ⟨pb, 1, none⟩ = some (.slice (some ⟨b, off, none⟩) s.first.length fc) ∧ W'.cell? ⟨gb, an, none⟩ = some (.bool q) ∧ Below W5.heap.size W5 W') := fun W' hb => ⟨(HXs.out W' hb).1, (HXs.out W' hb).2.1, (HXs.out W' hb).2.2, hb⟩
          have HOa2 := Lib.hid (fun W (h : W.cell? ⟨pb, 0, none⟩ = some (.slice A s.to_.length c) ∧ W.cell? ⟨pb, 1, none⟩ = some (.slice (some ⟨b, off, none⟩) s.first.length fc) ∧ W.cell? ⟨gb, an, none⟩ = some (.bool q) ∧ Below W5.heap.size W5 W) => HOa.out W h.2.2.2)
          have HOi2 := Lib.hid (fun W (h : W.cell? ⟨pb, 0, none⟩ = some (.slice A s.to_.length c) ∧ W.cell? ⟨pb, 1, none⟩ = some (.slice (some ⟨b, off, none⟩) s.first.length fc) ∧ W.cell? ⟨gb, an, none⟩ = some (.bool q) ∧ Below W5.heap.size W5 W) => HOi.out W h.2.2.2)
          have HMa2 := Lib.hid (fun W (h : W.cell? ⟨pb, 0, none⟩ = some (.slice A s.to_.length c) ∧ W.cell? ⟨pb, 1, none⟩ = some (.slice (some ⟨b, off, none⟩) s.first.length fc) ∧ W.cell? ⟨gb, an, none⟩ = some (.bool q) ∧ Below W5.heap.size W5 W) => HMa.out W h.2.2.2)
          clear c0 c1 cq
          refine wp_region_held_drew (S := fun W' => W'.cell? ⟨pb, 0, none⟩ = some (.slice A s.to_.length c) ∧ W'.cell? ⟨pb, 1, none⟩ = some (.slice (some ⟨b, off, none⟩) s.first.length fc) ∧ W'.cell? ⟨gb, an, none⟩ = some (.bool q) ∧ Below W5.heap.size W5 W') (by kernel_rfl) (HSb.out _ (Below.drew (Below.refl _ _))) (fun hHeld => ?_)
          refine wpAnyH_take (i := 0) (v := ?_) rfl (by kernel_rfl) (by kernel_rfl) (by kernel_rfl) (fun _ _ _ h => h) (Or.inl ⟨by rfl, ?_⟩) (by assumption) ?_
          rotate_left
          · (intro w hSw; (try dsimp only at hSw); go_simp; try with_reducible rfl)
          simp only [Act.put, List.getElem_toArray, List.getElem_cons_zero, List.setIfInBounds_toArray, List.set_cons_zero, List.set_cons_succ]
          refine wpAnyH_take (i := 1) (v := ?_) rfl (by kernel_rfl) (by kernel_rfl) (by kernel_rfl) (fun _ _ _ h => h) (Or.inl ⟨by rfl, ?_⟩) (by assumption) ?_
          rotate_left
          · (intro w hSw; (try dsimp only at hSw); go_simp; try with_reducible rfl)
          simp only [Act.put, List.getElem_toArray, List.getElem_cons_zero, List.getElem_cons_succ, List.setIfInBounds_toArray, List.set_cons_zero, List.set_cons_succ]
          refine wpAnyH_take (i := 2) (v := ?_) rfl (by kernel_rfl) (by kernel_rfl) (by kernel_rfl) (fun _ _ _ h => h) (Or.inl ⟨by rfl, ?_⟩) (by assumption) ?_
          rotate_left
          · (intro w hSw; (try dsimp only at hSw); go_simp; try with_reducible rfl)
          simp only [Act.put, List.getElem_toArray, List.getElem_cons_zero, List.getElem_cons_succ, List.setIfInBounds_toArray, List.set_cons_zero, List.set_cons_succ]
          refine wpAnyH_take (i := 3) (v := ?_) rfl (by kernel_rfl) (by kernel_rfl) (by kernel_rfl) (fun _ _ _ h => h) (Or.inl ⟨by rfl, ?_⟩) (by assumption) ?_
          rotate_left
          · (intro w hSw; (try dsimp only at hSw); go_simp; try with_reducible rfl)
          simp only [Act.put, List.getElem_toArray, List.getElem_cons_zero, List.getElem_cons_succ, List.setIfInBounds_toArray, List.set_cons_zero, List.set_cons_succ]
          refine wpAnyH_take (i := 4) (v := ?_) rfl (by kernel_rfl) (by kernel_rfl) (by kernel_rfl) (fun _ _ _ h => h) (Or.inl ⟨by rfl, ?_⟩) (by assumption) ?_
          rotate_left
          · (intro w hSw; (try dsimp only at hSw); go_simp; try with_reducible rfl)
          simp only [Act.put, List.getElem_toArray, List.getElem_cons_zero, List.getElem_cons_succ, List.setIfInBounds_toArray, List.set_cons_zero, List.set_cons_succ]
          refine wpAnyH_take (i := 5) (v := ?_) rfl (by kernel_rfl) (by kernel_rfl) (by kernel_rfl) (fun _ _ _ h => h) (Or.inl ⟨by rfl, ?_⟩) (by assumption) ?_
          rotate_left
          · (intro w hSw; (try dsimp only at hSw); go_simp; try with_reducible rfl)
          simp only [Act.put, List.getElem_toArray, List.getElem_cons_zero, List.getElem_cons_succ, List.setIfInBounds_toArray, List.set_cons_zero, List.set_cons_succ]
          refine wpAnyH_take (i := 7) (v := ?_) rfl (by kernel_rfl) (by kernel_rfl) (by kernel_rfl) (fun _ _ _ h => h) (Or.inl ⟨by rfl, ?_⟩) (by assumption) ?_
          rotate_left
          · (intro w hSw; (try dsimp only at hSw); go_simp; try with_reducible rfl)
          simp only [Act.put, List.getElem_toArray, List.getElem_cons_zero, List.getElem_cons_succ, List.setIfInBounds_toArray, List.set_cons_zero, List.set_cons_succ]
          refine wpAnyH_take (i := 8) (v := ?_) rfl (by kernel_rfl) (by kernel_rfl) (by kernel_rfl) (fun _ _ _ h => h) (Or.inl ⟨by rfl, ?_⟩) (by assumption) ?_
          rotate_left
          · (intro w hSw; (try dsimp only at hSw); go_simp; try with_reducible rfl)
          simp only [Act.put, List.getElem_toArray, List.getElem_cons_zero, List.getElem_cons_succ, List.setIfInBounds_toArray, List.set_cons_zero, List.set_cons_succ]
          refine wpAnyH_ready (rs := [6]) (by kernel_rfl) (by simp) ?_
          refine AllReadyH.cons rfl (fun K hK => ?_) AllReadyH.nil
          go_simp
          go_at_call 42
          have hp := hHeld
          refine (HOa2.out _ hp).mono ?_
          rintro e wd ⟨rfl, hbd⟩
          have hbw := hp.2.2.2.trans (hbd.mono hp.2.2.2.size)
          clear hp hbd hHeld
          go_wp2_with fail
          refine hK.out _ _ (HSb.out _ hbw) (fun hHeld => ?_)
          clear hK K hbw
          refine wpAnyH_ready (rs := [9]) (by kernel_rfl) (by simp) ?_
          refine AllReadyH.cons rfl (fun K hK => ?_) AllReadyH.nil
          go_simp
          go_at_call 42
          have hp := hHeld
          refine (HOi2.out _ hp).mono ?_
          rintro e wd ⟨rfl, hbd⟩
          have hbw := hp.2.2.2.trans (hbd.mono hp.2.2.2.size)
          clear hp hbd hHeld
          go_wp2_with fail
          refine hK.out _ _ (HSb.out _ hbw) (fun hHeld => ?_)
          clear hK K hbw
          refine wpAnyH_take (i := 10) (v := ?_) rfl (by kernel_rfl) (by kernel_rfl) (by kernel_rfl) (fun _ _ _ h => h) (Or.inl ⟨by rfl, ?_⟩) (by assumption) ?_
          rotate_left
          · (intro w hSw; (try dsimp only at hSw); go_simp; try with_reducible rfl)
          simp only [Act.put, List.getElem_toArray, List.getElem_cons_zero, List.getElem_cons_succ, List.setIfInBounds_toArray, List.set_cons_zero, List.set_cons_succ]
          refine wpAnyH_take (i := 11) (v := ?_) rfl (by kernel_rfl) (by kernel_rfl) (by kernel_rfl) (fun _ _ _ h => h) (Or.inl ⟨by rfl, ?_⟩) (by assumption) ?_
          rotate_left
          · (intro w hSw; (try dsimp only at hSw); go_simp; try with_reducible rfl)
          simp only [Act.put, List.getElem_toArray, List.getElem_cons_zero, List.getElem_cons_succ, List.setIfInBounds_toArray, List.set_cons_zero, List.set_cons_succ]
          refine wpAnyH_take (i := 12) (v := ?_) rfl (by kernel_rfl) (by kernel_rfl) (by kernel_rfl) (fun _ _ _ h => h) (Or.inl ⟨by rfl, ?_⟩) (by assumption) ?_
          rotate_left
          · (intro w hSw; (try dsimp only at hSw); go_simp; try with_reducible rfl)
          simp only [Act.put, List.getElem_toArray, List.getElem_cons_zero, List.getElem_cons_succ, List.setIfInBounds_toArray, List.set_cons_zero, List.set_cons_succ]
          refine wpAnyH_take (i := 13) (v := undef) rfl (by kernel_rfl) (by kernel_rfl) (by kernel_rfl) (fun _ _ _ h => h) (Or.inr ⟨by kernel_rfl, rfl⟩) (by assumption) ?_
          simp only [Act.put, List.getElem_toArray, List.getElem_cons_zero, List.getElem_cons_succ, List.setIfInBounds_toArray, List.set_cons_zero, List.set_cons_succ]
          refine wpAnyH_take (i := 14) (v := undef) rfl (by kernel_rfl) (by kernel_rfl) (by kernel_rfl) (fun _ _ _ h => h) (Or.inr ⟨by kernel_rfl, rfl⟩) (by assumption) ?_
          simp only [Act.put, List.getElem_toArray, List.getElem_cons_zero, List.getElem_cons_succ, List.setIfInBounds_toArray, List.set_cons_zero, List.set_cons_succ]
          refine wpAnyH_take (i := 15) (v := undef) rfl (by kernel_rfl) (by kernel_rfl) (by kernel_rfl) (fun _ _ _ h => h) (Or.inr ⟨by kernel_rfl, rfl⟩) (by assumption) ?_
          simp only [Act.put, List.getElem_toArray, List.getElem_cons_zero, List.getElem_cons_succ, List.setIfInBounds_toArray, List.set_cons_zero, List.set_cons_succ]
          refine wpAnyH_take (i := 16) (v := ?_) rfl (by kernel_rfl) (by kernel_rfl) (by kernel_rfl) (fun _ _ _ h => h) (Or.inl ⟨by rfl, ?_⟩) (by assumption) ?_
          rotate_left
          · (intro w hSw; (try dsimp only at hSw); go_simp; try with_reducible rfl)
          simp only [Act.put, List.getElem_toArray, List.getElem_cons_zero, List.getElem_cons_succ, List.setIfInBounds_toArray, List.set_cons_zero, List.set_cons_succ]
          refine wpAnyH_take (i := 17) (v := ?_) rfl (by kernel_rfl) (by kernel_rfl) (by kernel_rfl) (fun _ _ _ h => h) (Or.inl ⟨by rfl, ?_⟩) (by assumption) ?_
          rotate_left
          · (intro w hSw; (try dsimp only at hSw); go_simp; try with_reducible rfl)
          simp only [Act.put, List.getElem_toArray, List.getElem_cons_zero, List.getElem_cons_succ, List.setIfInBounds_toArray, List.set_cons_zero, List.set_cons_succ]
          refine wpAnyH_take (i := 18) (v := undef) rfl (by kernel_rfl) (by kernel_rfl) (by kernel_rfl) (fun _ _ _ h => h) (Or.inr ⟨by kernel_rfl, rfl⟩) (by assumption) ?_
          simp only [Act.put, List.getElem_toArray, List.getElem_cons_zero, List.getElem_cons_succ, List.setIfInBounds_toArray, List.set_cons_zero, List.set_cons_succ]
          refine wpAnyH_take (i := 19) (v := undef) rfl (by kernel_rfl) (by kernel_rfl) (by kernel_rfl) (fun _ _ _ h => h) (Or.inr ⟨by kernel_rfl, rfl⟩) (by assumption) ?_
          simp only [Act.put, List.getElem_toArray, List.getElem_cons_zero, List.getElem_cons_succ, List.setIfInBounds_toArray, List.set_cons_zero, List.set_cons_succ]
          refine wpAnyH_take (i := 20) (v := undef) rfl (by kernel_rfl) (by kernel_rfl) (by kernel_rfl) (fun _ _ _ h => h) (Or.inr ⟨by kernel_rfl, rfl⟩) (by assumption) ?_
          simp only [Act.put, List.getElem_toArray, List.getElem_cons_zero, List.getElem_cons_succ, List.setIfInBounds_toArray, List.set_cons_zero, List.set_cons_succ]
          refine wpAnyH_take (i := 21) (v := undef) rfl (by kernel_rfl) (by kernel_rfl) (by kernel_rfl) (fun _ _ _ h => h) (Or.inr ⟨by kernel_rfl, rfl⟩) (by assumption) ?_
          simp only [Act.put, List.getElem_toArray, List.getElem_cons_zero, List.getElem_cons_succ, List.setIfInBounds_toArray, List.set_cons_zero, List.set_cons_succ]
          refine wpAnyH_take (i := 22) (v := undef) rfl (by kernel_rfl) (by kernel_rfl) (by kernel_rfl) (fun _ _ _ h => h) (Or.inr ⟨by kernel_rfl, rfl⟩) (by assumption) ?_
          simp only [Act.put, List.getElem_toArray, List.getElem_cons_zero, List.getElem_cons_succ, List.setIfInBounds_toArray, List.set_cons_zero, List.set_cons_succ]
          refine wpAnyH_take (i := 23) (v := ?_) rfl (by kernel_rfl) (by kernel_rfl) (by kernel_rfl) (fun _ _ _ h => h) (Or.inl ⟨by rfl, ?_⟩) (by assumption) ?_
          rotate_left
          · (intro w hSw; (try dsimp only at hSw); go_simp; try with_reducible rfl)
          simp only [Act.put, List.getElem_toArray, List.getElem_cons_zero, List.getElem_cons_succ, List.setIfInBounds_toArray, List.set_cons_zero, List.set_cons_succ]
          refine wpAnyH_done (by kernel_rfl) ?_ _
          have HB9 := Lib.hid hHeld.2.2.2
          clear hHeld
          go_wp2
          go_roundw
          case rel => exact ⟨k + 1, by omega, by go_num, HXn.out _ HB9.out, by have h := HN.out; rw [HOI.out] at h; exact h⟩
          case measure => simp [intOf]; omega
        | true =>
          have HH2 : Hid (holdsI s come oi bn p = (true && (true && (m && !q)))) := by
            show _ = _
            rw [HH1.out, decide_eq_true (by simpa using b2)]
          clear HH1
          cases m with
          | false =>
            have HH : Hid (holdsI s come oi bn p = (true && (true && (false && !q)))) := HH2.out
            clear HH2
            have HN : Hid (noneTo (holdsI s come oi bn) s.first (k + 1)) := noneTo_next HT.out HPk.out (by rw [HH.out]; rfl)
            clear HT HH
            have HSb : Hid (∀ W', Below W5.heap.size W5 W' → W'.cell? ⟨pb, 0, none⟩ = some (.slice A s.to_.length c) ∧ W'.cell? ⟨pb, 1, none⟩ = some (.slice (some ⟨b, off, none⟩) s.first.length fc) ∧ W'.cell? ⟨gb, an, none⟩ = some (.bool q) ∧ Below W5.heap.size W5 W') := fun W' hb => ⟨(HXs.out W' hb).1, (HXs.out W' hb).2.1, (HXs.out W' hb).2.2, hb⟩
            have HOa2 := Lib.hid (fun W (h : W.cell? ⟨pb, 0, none⟩ = some (.slice A s.to_.length c) ∧ W.cell? ⟨pb, 1, none⟩ = some (.slice (some ⟨b, off, none⟩) s.first.length fc) ∧ W.cell? ⟨gb, an, none⟩ = some (.bool q) ∧ Below W5.heap.size W5 W) => HOa.out W h.2.2.2)
            have HOi2 := Lib.hid (fun W (h : W.cell? ⟨pb, 0, none⟩ = some (.slice A s.to_.length c) ∧ W.cell? ⟨pb, 1, none⟩ = some (.slice (some ⟨b, off, none⟩) s.first.length fc) ∧ W.cell? ⟨gb, an, none⟩ = some (.bool q) ∧ Below W5.heap.size W5 W) => HOi.out W h.2.2.2)
            have HMa2 := Lib.hid (fun W (h : W.cell? ⟨pb, 0, none⟩ = some (.slice A s.to_.length c) ∧ W.cell? ⟨pb, 1, none⟩ = some (.slice (some ⟨b, off, none⟩) s.first.length fc) ∧ W.cell? ⟨gb, an, none⟩ = some (.bool q) ∧ Below W5.heap.size W5 W) => HMa.out W h.2.2.2)
            clear c0 c1 cq
            refine wp_region_held_drew (S := fun W' => W'.cell? ⟨pb, 0, none⟩ = some (.slice A s.to_.length c) ∧ W'.cell? ⟨pb, 1, none⟩ = some (.slice (some ⟨b, off, none⟩) s.first.length fc) ∧ W'.cell? ⟨gb, an, none⟩ = some (.bool q) ∧ Below W5.heap.size W5 W') (by kernel_rfl) (HSb.out _ (Below.drew (Below.refl _ _))) (fun hHeld => ?_)
            refine wpAnyH_take (i := 0) (v := ?_) rfl (by kernel_rfl) (by kernel_rfl) (by kernel_rfl) (fun _ _ _ h => h) (Or.inl ⟨by rfl, ?_⟩) (by assumption) ?_
            rotate_left
            · (intro w hSw; (try dsimp only at hSw); go_simp; try with_reducible rfl)
            simp only [Act.put, List.getElem_toArray, List.getElem_cons_zero, List.setIfInBounds_toArray, List.set_cons_zero, List.set_cons_succ]
            refine wpAnyH_take (i := 1) (v := ?_) rfl (by kernel_rfl) (by kernel_rfl) (by kernel_rfl) (fun _ _ _ h => h) (Or.inl ⟨by rfl, ?_⟩) (by assumption) ?_
            rotate_left
            · (intro w hSw; (try dsimp only at hSw); go_simp; try with_reducible rfl)
            simp only [Act.put, List.getElem_toArray, List.getElem_cons_zero, List.getElem_cons_succ, List.setIfInBounds_toArray, List.set_cons_zero, List.set_cons_succ]
            refine wpAnyH_take (i := 2) (v := ?_) rfl (by kernel_rfl) (by kernel_rfl) (by kernel_rfl) (fun _ _ _ h => h) (Or.inl ⟨by rfl, ?_⟩) (by assumption) ?_
            rotate_left
            · (intro w hSw; (try dsimp only at hSw); go_simp; try with_reducible rfl)
            simp only [Act.put, List.getElem_toArray, List.getElem_cons_zero, List.getElem_cons_succ, List.setIfInBounds_toArray, List.set_cons_zero, List.set_cons_succ]
            refine wpAnyH_take (i := 3) (v := ?_) rfl (by kernel_rfl) (by kernel_rfl) (by kernel_rfl) (fun _ _ _ h => h) (Or.inl ⟨by rfl, ?_⟩) (by assumption) ?_
            rotate_left
            · (intro w hSw; (try dsimp only at hSw); go_simp; try with_reducible rfl)
            simp only [Act.put, List.getElem_toArray, List.getElem_cons_zero, List.getElem_cons_succ, List.setIfInBounds_toArray, List.set_cons_zero, List.set_cons_succ]
            refine wpAnyH_take (i := 4) (v := ?_) rfl (by kernel_rfl) (by kernel_rfl) (by kernel_rfl) (fun _ _ _ h => h) (Or.inl ⟨by rfl, ?_⟩) (by assumption) ?_
            rotate_left
            · (intro w hSw; (try dsimp only at hSw); go_simp; try with_reducible rfl)
            simp only [Act.put, List.getElem_toArray, List.getElem_cons_zero, List.getElem_cons_succ, List.setIfInBounds_toArray, List.set_cons_zero, List.set_cons_succ]
            refine wpAnyH_take (i := 5) (v := ?_) rfl (by kernel_rfl) (by kernel_rfl) (by kernel_rfl) (fun _ _ _ h => h) (Or.inl ⟨by rfl, ?_⟩) (by assumption) ?_
            rotate_left
            · (intro w hSw; (try dsimp only at hSw); go_simp; try with_reducible rfl)
            simp only [Act.put, List.getElem_toArray, List.getElem_cons_zero, List.getElem_cons_succ, List.setIfInBounds_toArray, List.set_cons_zero, List.set_cons_succ]
            refine wpAnyH_take (i := 7) (v := ?_) rfl (by kernel_rfl) (by kernel_rfl) (by kernel_rfl) (fun _ _ _ h => h) (Or.inl ⟨by rfl, ?_⟩) (by assumption) ?_
            rotate_left
            · (intro w hSw; (try dsimp only at hSw); go_simp; try with_reducible rfl)
            simp only [Act.put, List.getElem_toArray, List.getElem_cons_zero, List.getElem_cons_succ, List.setIfInBounds_toArray, List.set_cons_zero, List.set_cons_succ]
            refine wpAnyH_take (i := 8) (v := ?_) rfl (by kernel_rfl) (by kernel_rfl) (by kernel_rfl) (fun _ _ _ h => h) (Or.inl ⟨by rfl, ?_⟩) (by assumption) ?_
            rotate_left
            · (intro w hSw; (try dsimp only at hSw); go_simp; try with_reducible rfl)
            simp only [Act.put, List.getElem_toArray, List.getElem_cons_zero, List.getElem_cons_succ, List.setIfInBounds_toArray, List.set_cons_zero, List.set_cons_succ]
            refine wpAnyH_ready (rs := [6]) (by kernel_rfl) (by simp) ?_
            refine AllReadyH.cons rfl (fun K hK => ?_) AllReadyH.nil
            go_simp
            go_at_call 42
            have hp := hHeld
            refine (HOa2.out _ hp).mono ?_
            rintro e wd ⟨rfl, hbd⟩
            have hbw := hp.2.2.2.trans (hbd.mono hp.2.2.2.size)
            clear hp hbd hHeld
            go_wp2_with fail
            refine hK.out _ _ (HSb.out _ hbw) (fun hHeld => ?_)
            clear hK K hbw
            refine wpAnyH_ready (rs := [9]) (by kernel_rfl) (by simp) ?_
            refine AllReadyH.cons rfl (fun K hK => ?_) AllReadyH.nil
            go_simp
            go_at_call 42
            have hp := hHeld
            refine (HOi2.out _ hp).mono ?_
            rintro e wd ⟨rfl, hbd⟩
            have hbw := hp.2.2.2.trans (hbd.mono hp.2.2.2.size)
            clear hp hbd hHeld
            go_wp2_with fail
            refine hK.out _ _ (HSb.out _ hbw) (fun hHeld => ?_)
            clear hK K hbw
            refine wpAnyH_take (i := 10) (v := ?_) rfl (by kernel_rfl) (by kernel_rfl) (by kernel_rfl) (fun _ _ _ h => h) (Or.inl ⟨by rfl, ?_⟩) (by assumption) ?_
            rotate_left
            · (intro w hSw; (try dsimp only at hSw); go_simp; try with_reducible rfl)
            simp only [Act.put, List.getElem_toArray, List.getElem_cons_zero, List.getElem_cons_succ, List.setIfInBounds_toArray, List.set_cons_zero, List.set_cons_succ]
            refine wpAnyH_take (i := 11) (v := ?_) rfl (by kernel_rfl) (by kernel_rfl) (by kernel_rfl) (fun _ _ _ h => h) (Or.inl ⟨by rfl, ?_⟩) (by assumption) ?_
            rotate_left
            · (intro w hSw; (try dsimp only at hSw); go_simp; try with_reducible rfl)
            simp only [Act.put, List.getElem_toArray, List.getElem_cons_zero, List.getElem_cons_succ, List.setIfInBounds_toArray, List.set_cons_zero, List.set_cons_succ]
            refine wpAnyH_take (i := 12) (v := ?_) rfl (by kernel_rfl) (by kernel_rfl) (by kernel_rfl) (fun _ _ _ h => h) (Or.inl ⟨by rfl, ?_⟩) (by assumption) ?_
            rotate_left
            · (intro w hSw; (try dsimp only at hSw); go_simp; try with_reducible rfl)
            simp only [Act.put, List.getElem_toArray, List.getElem_cons_zero, List.getElem_cons_succ, List.setIfInBounds_toArray, List.set_cons_zero, List.set_cons_succ]
            refine wpAnyH_take (i := 13) (v := ?_) rfl (by kernel_rfl) (by kernel_rfl) (by kernel_rfl) (fun _ _ _ h => h) (Or.inl ⟨by rfl, ?_⟩) (by assumption) ?_
            rotate_left
            · (intro w hSw; (try dsimp only at hSw); go_simp; try with_reducible rfl)
            simp only [Act.put, List.getElem_toArray, List.getElem_cons_zero, List.getElem_cons_succ, List.setIfInBounds_toArray, List.set_cons_zero, List.set_cons_succ]
            refine wpAnyH_take (i := 14) (v := ?_) rfl (by kernel_rfl) (by kernel_rfl) (by kernel_rfl) (fun _ _ _ h => h) (Or.inl ⟨by rfl, ?_⟩) (by assumption) ?_
            rotate_left
            · (intro w hSw; (try dsimp only at hSw); go_simp; try with_reducible rfl)
            simp only [Act.put, List.getElem_toArray, List.getElem_cons_zero, List.getElem_cons_succ, List.setIfInBounds_toArray, List.set_cons_zero, List.set_cons_succ]
            refine wpAnyH_ready (rs := [15]) (by kernel_rfl) (by simp) ?_
            refine AllReadyH.cons rfl (fun K hK => ?_) AllReadyH.nil
            go_simp
            go_at_call 27
            have hp := hHeld
            refine (HMa2.out _ hp).mono ?_
            rintro e wd ⟨rfl, hbd⟩
            have hbw := hp.2.2.2.trans (hbd.mono hp.2.2.2.size)
            clear hp hbd hHeld
            go_wp2_with fail
            refine hK.out _ _ (HSb.out _ hbw) (fun hHeld => ?_)
            clear hK K hbw
            refine wpAnyH_take (i := 16) (v := ?_) rfl (by kernel_rfl) (by kernel_rfl) (by kernel_rfl) (fun _ _ _ h => h) (Or.inl ⟨by rfl, ?_⟩) (by assumption) ?_
            rotate_left
            · (intro w hSw; (try dsimp only at hSw); go_simp; try with_reducible rfl)
            simp only [Act.put, List.getElem_toArray, List.getElem_cons_zero, List.getElem_cons_succ, List.setIfInBounds_toArray, List.set_cons_zero, List.set_cons_succ]
            refine wpAnyH_take (i := 17) (v := ?_) rfl (by kernel_rfl) (by kernel_rfl) (by kernel_rfl) (fun _ _ _ h => h) (Or.inl ⟨by rfl, ?_⟩) (by assumption) ?_
            rotate_left
            · (intro w hSw; (try dsimp only at hSw); go_simp; try with_reducible rfl)
            simp only [Act.put, List.getElem_toArray, List.getElem_cons_zero, List.getElem_cons_succ, List.setIfInBounds_toArray, List.set_cons_zero, List.set_cons_succ]
            refine wpAnyH_take (i := 18) (v := undef) rfl (by kernel_rfl) (by kernel_rfl) (by kernel_rfl) (fun _ _ _ h => h) (Or.inr ⟨by kernel_rfl, rfl⟩) (by assumption) ?_
            simp only [Act.put, List.getElem_toArray, List.getElem_cons_zero, List.getElem_cons_succ, List.setIfInBounds_toArray, List.set_cons_zero, List.set_cons_succ]
            refine wpAnyH_take (i := 19) (v := undef) rfl (by kernel_rfl) (by kernel_rfl) (by kernel_rfl) (fun _ _ _ h => h) (Or.inr ⟨by kernel_rfl, rfl⟩) (by assumption) ?_
            simp only [Act.put, List.getElem_toArray, List.getElem_cons_zero, List.getElem_cons_succ, List.setIfInBounds_toArray, List.set_cons_zero, List.set_cons_succ]
            refine wpAnyH_take (i := 20) (v := undef) rfl (by kernel_rfl) (by kernel_rfl) (by kernel_rfl) (fun _ _ _ h => h) (Or.inr ⟨by kernel_rfl, rfl⟩) (by assumption) ?_
            simp only [Act.put, List.getElem_toArray, List.getElem_cons_zero, List.getElem_cons_succ, List.setIfInBounds_toArray, List.set_cons_zero, List.set_cons_succ]
            refine wpAnyH_take (i := 21) (v := undef) rfl (by kernel_rfl) (by kernel_rfl) (by kernel_rfl) (fun _ _ _ h => h) (Or.inr ⟨by kernel_rfl, rfl⟩) (by assumption) ?_
            simp only [Act.put, List.getElem_toArray, List.getElem_cons_zero, List.getElem_cons_succ, List.setIfInBounds_toArray, List.set_cons_zero, List.set_cons_succ]
            refine wpAnyH_take (i := 22) (v := undef) rfl (by kernel_rfl) (by kernel_rfl) (by kernel_rfl) (fun _ _ _ h => h) (Or.inr ⟨by kernel_rfl, rfl⟩) (by assumption) ?_
            simp only [Act.put, List.getElem_toArray, List.getElem_cons_zero, List.getElem_cons_succ, List.setIfInBounds_toArray, List.set_cons_zero, List.set_cons_succ]
            refine wpAnyH_take (i := 23) (v := ?_) rfl (by kernel_rfl) (by kernel_rfl) (by kernel_rfl) (fun _ _ _ h => h) (Or.inl ⟨by rfl, ?_⟩) (by assumption) ?_
            rotate_left
            · (intro w hSw; (try dsimp only at hSw); go_simp; try with_reducible rfl)
            simp only [Act.put, List.getElem_toArray, List.getElem_cons_zero, List.getElem_cons_succ, List.setIfInBounds_toArray, List.set_cons_zero, List.set_cons_succ]
            refine wpAnyH_done (by kernel_rfl) ?_ _
            have HB9 := Lib.hid hHeld.2.2.2
            clear hHeld
            go_wp2
            go_roundw
            case rel => exact ⟨k + 1, by omega, by go_num, HXn.out _ HB9.out, by have h := HN.out; rw [HOI.out] at h; exact h⟩
            case measure => simp [intOf]; omega
          | true =>
            cases q with
            | true =>
              have HH : Hid (holdsI s come oi bn p = (true && (true && (true && !true)))) := HH2.out
              clear HH2
              have HK : Hid (∀ W W', (W.cell? ⟨pb, 0, none⟩ = some (.slice A s.to_.length c) ∧ W.cell? ⟨pb, 1, none⟩ = some (.slice (some ⟨b, off, none⟩) s.first.length fc) ∧ W.cell? ⟨gb, an, none⟩ = some (.bool true) ∧ Below W5.heap.size W5 W) → Below W.heap.size W W' → (W'.cell? ⟨pb, 0, none⟩ = some (.slice A s.to_.length c) ∧ W'.cell? ⟨pb, 1, none⟩ = some (.slice (some ⟨b, off, none⟩) s.first.length fc) ∧ W'.cell? ⟨gb, an, none⟩ = some (.bool true) ∧ Below W5.heap.size W5 W')) := fun W W' h1 h2 => ⟨(HXs.out W' (h1.2.2.2.trans (h2.mono h1.2.2.2.size))).1, (HXs.out W' (h1.2.2.2.trans (h2.mono h1.2.2.2.size))).2.1, (HXs.out W' (h1.2.2.2.trans (h2.mono h1.2.2.2.size))).2.2, h1.2.2.2.trans (h2.mono h1.2.2.2.size)⟩
              have HOa2 := Lib.hid (fun W (h : W.cell? ⟨pb, 0, none⟩ = some (.slice A s.to_.length c) ∧ W.cell? ⟨pb, 1, none⟩ = some (.slice (some ⟨b, off, none⟩) s.first.length fc) ∧ W.cell? ⟨gb, an, none⟩ = some (.bool true) ∧ Below W5.heap.size W5 W) => HOa.out W h.2.2.2)
              have HOi2 := Lib.hid (fun W (h : W.cell? ⟨pb, 0, none⟩ = some (.slice A s.to_.length c) ∧ W.cell? ⟨pb, 1, none⟩ = some (.slice (some ⟨b, off, none⟩) s.first.length fc) ∧ W.cell? ⟨gb, an, none⟩ = some (.bool true) ∧ Below W5.heap.size W5 W) => HOi.out W h.2.2.2)
              have HMa2 := Lib.hid (fun W (h : W.cell? ⟨pb, 0, none⟩ = some (.slice A s.to_.length c) ∧ W.cell? ⟨pb, 1, none⟩ = some (.slice (some ⟨b, off, none⟩) s.first.length fc) ∧ W.cell? ⟨gb, an, none⟩ = some (.bool true) ∧ Below W5.heap.size W5 W) => HMa.out W h.2.2.2)
              have HS0 : Hid (W5.cell? ⟨pb, 0, none⟩ = some (.slice A s.to_.length c) ∧ W5.cell? ⟨pb, 1, none⟩ = some (.slice (some ⟨b, off, none⟩) s.first.length fc) ∧ W5.cell? ⟨gb, an, none⟩ = some (.bool true) ∧ Below W5.heap.size W5 W5) := ⟨c0, c1, cq, Below.refl _ _⟩
              go_region_held3 (fun W' => W'.cell? ⟨pb, 0, none⟩ = some (.slice A s.to_.length c) ∧ W'.cell? ⟨pb, 1, none⟩ = some (.slice (some ⟨b, off, none⟩) s.first.length fc) ∧ W'.cell? ⟨gb, an, none⟩ = some (.bool true) ∧ Below W5.heap.size W5 W')
                (first | exact HK.out _ _ HS0.out (Below.drew (Below.refl _ _)) | exact HK.out _ _ (by assumption) (by assumption) | fail)
                (first
                  | (go_at_call_of 42 an; refine (HOa2.out _ (by assumption)).mono ?_; rintro e w' ⟨rfl, hb1⟩)
                  | (go_at_call_of 42 bn; refine (HOi2.out _ (by assumption)).mono ?_; rintro e w' ⟨rfl, hb1⟩)
                  | (go_at_call 27; refine (HMa2.out _ (by assumption)).mono ?_; rintro e w' ⟨rfl, hb1⟩))
              rename_i hS1
              have HB9 := Lib.hid hS1.2.2.2
              clear hS1 HS0 HK c0 c1 cq

              have HN : Hid (noneTo (holdsI s come oi bn) s.first (k + 1)) := noneTo_next HT.out HPk.out (by rw [HH.out]; rfl)
              clear HT HH
              go_wp2
              go_roundw
              case rel => exact ⟨k + 1, by omega, by go_num, HXn.out _ HB9.out, by have h := HN.out; rw [HOI.out] at h; exact h⟩
              case measure => simp [intOf]; omega
            | false =>
              have HH : Hid (holdsI s come oi bn p = (true && (true && (true && !false)))) := HH2.out
              clear HH2
              have HK : Hid (∀ W W', (W.cell? ⟨pb, 0, none⟩ = some (.slice A s.to_.length c) ∧ W.cell? ⟨pb, 1, none⟩ = some (.slice (some ⟨b, off, none⟩) s.first.length fc) ∧ W.cell? ⟨gb, an, none⟩ = some (.bool false) ∧ Below W5.heap.size W5 W) → Below W.heap.size W W' → (W'.cell? ⟨pb, 0, none⟩ = some (.slice A s.to_.length c) ∧ W'.cell? ⟨pb, 1, none⟩ = some (.slice (some ⟨b, off, none⟩) s.first.length fc) ∧ W'.cell? ⟨gb, an, none⟩ = some (.bool false) ∧ Below W5.heap.size W5 W')) := fun W W' h1 h2 => ⟨(HXs.out W' (h1.2.2.2.trans (h2.mono h1.2.2.2.size))).1, (HXs.out W' (h1.2.2.2.trans (h2.mono h1.2.2.2.size))).2.1, (HXs.out W' (h1.2.2.2.trans (h2.mono h1.2.2.2.size))).2.2, h1.2.2.2.trans (h2.mono h1.2.2.2.size)⟩
              have HOa2 := Lib.hid (fun W (h : W.cell? ⟨pb, 0, none⟩ = some (.slice A s.to_.length c) ∧ W.cell? ⟨pb, 1, none⟩ = some (.slice (some ⟨b, off, none⟩) s.first.length fc) ∧ W.cell? ⟨gb, an, none⟩ = some (.bool false) ∧ Below W5.heap.size W5 W) => HOa.out W h.2.2.2)
              have HOi2 := Lib.hid (fun W (h : W.cell? ⟨pb, 0, none⟩ = some (.slice A s.to_.length c) ∧ W.cell? ⟨pb, 1, none⟩ = some (.slice (some ⟨b, off, none⟩) s.first.length fc) ∧ W.cell? ⟨gb, an, none⟩ = some (.bool false) ∧ Below W5.heap.size W5 W) => HOi.out W h.2.2.2)
              have HMa2 := Lib.hid (fun W (h : W.cell? ⟨pb, 0, none⟩ = some (.slice A s.to_.length c) ∧ W.cell? ⟨pb, 1, none⟩ = some (.slice (some ⟨b, off, none⟩) s.first.length fc) ∧ W.cell? ⟨gb, an, none⟩ = some (.bool false) ∧ Below W5.heap.size W5 W) => HMa.out W h.2.2.2)
              have HS0 : Hid (W5.cell? ⟨pb, 0, none⟩ = some (.slice A s.to_.length c) ∧ W5.cell? ⟨pb, 1, none⟩ = some (.slice (some ⟨b, off, none⟩) s.first.length fc) ∧ W5.cell? ⟨gb, an, none⟩ = some (.bool false) ∧ Below W5.heap.size W5 W5) := ⟨c0, c1, cq, Below.refl _ _⟩
              go_region_held3 (fun W' => W'.cell? ⟨pb, 0, none⟩ = some (.slice A s.to_.length c) ∧ W'.cell? ⟨pb, 1, none⟩ = some (.slice (some ⟨b, off, none⟩) s.first.length fc) ∧ W'.cell? ⟨gb, an, none⟩ = some (.bool false) ∧ Below W5.heap.size W5 W')
                (first | exact HK.out _ _ HS0.out (Below.drew (Below.refl _ _)) | exact HK.out _ _ (by assumption) (by assumption) | fail)
                (first
                  | (go_at_call_of 42 an; refine (HOa2.out _ (by assumption)).mono ?_; rintro e w' ⟨rfl, hb1⟩)
                  | (go_at_call_of 42 bn; refine (HOi2.out _ (by assumption)).mono ?_; rintro e w' ⟨rfl, hb1⟩)
                  | (go_at_call 27; refine (HMa2.out _ (by assumption)).mono ?_; rintro e w' ⟨rfl, hb1⟩))
              rename_i hS1
              have HB9 := Lib.hid hS1.2.2.2
              clear hS1 HS0 HK c0 c1 cq

              have HR2 : Hid (r = false) := by
                show _ = _
                rw [HR.out]
                exact freeN_false HPk.out (by rw [HH.out]; rfl)
              clear HT HH
              go_wp2
              go_ret
              exact ⟨ret_bool HR2.out.symm, (HXn.out _ HB9.out).2.2⟩
end Go.Proofs.Ytflpikickbellaa
