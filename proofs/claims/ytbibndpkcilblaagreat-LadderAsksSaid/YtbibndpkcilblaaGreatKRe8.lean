/- Layer 28, the reference: Ends. -/
import Derived.Test.YtbibndpkcilblaaGreatKRh9
import Derived.Deep.RegionHeld3
import Derived.Deep.RegionHeld
namespace Go.Proofs.YtbibndpkcilblaaGreat
open Go.RowKit Go.Shelf Go.Sort
set_option maxRecDepth 100000

theorem keepE (lv : Nat) (bd : List Int) (x : Int) : (!dropE lv bd x) = (decide ((lv : Int) ≤ x) || bd.any fun y => decide (y = x)) := by
  unfold dropE
  have e : bd.contains x = bd.any fun y => decide (y = x) := by
    rw [Bool.eq_iff_iff, List.contains_iff_mem, List.any_eq_true]
    constructor
    · exact fun h => ⟨x, h, decide_eq_true rfl⟩
    · rintro ⟨y, h1, h2⟩; rw [← of_decide_eq_true h2]; exact h1
  rw [e]
  by_cases h : x < (lv : Int)
  · rw [decide_eq_true h, decide_eq_false (by omega), Bool.true_and, Bool.not_not, Bool.false_or]
  · rw [decide_eq_false h, decide_eq_true (by omega)]; rfl
theorem filt_yes {l : List Int} {k : Nat} {x : Int} {P : Int → Bool} (h : l[k]? = some x) (hp : P x = true) : (l.take (k + 1)).filter P = (l.take k).filter P ++ [x] := by
  rw [List.take_add_one, h, List.filter_append]
  simp [hp]
theorem filt_no {l : List Int} {k : Nat} {x : Int} {P : Int → Bool} (h : l[k]? = some x) (hp : P x = false) : (l.take (k + 1)).filter P = (l.take k).filter P := by
  rw [List.take_add_one, h, List.filter_append]
  simp [hp]
set_option maxHeartbeats 4000000 in
theorem Rends_err (start : Int) (A : Option Addr) (c : Nat) (p : List RowC) (i : Int) (w : World) (hs : SlC w w.heap.size A p) (x : Int) (l : List Int) (hx : x ≠ 0)
    (hh : ∀ W, SlC W W.heap.size A p → Calls Tryz.prog 6 #[.agg #[.int .i64 start, .slice A p.length c], .int .i64 i] W fun e w' => BoPost x l W e w') :
    Calls Tryz.prog 8 #[.agg #[.int .i64 start, .slice A p.length c], .int .i64 i] w fun e w' => BoPost x [] w e w' := by
  have hF := rf_front start A c p w hs
  have c0 := hF.cb0
  have c1 := hF.cb1
  have HC := Lib.hid (hh _ hF.sl)
  have HB := Lib.hid hF.bel
  have hne : (x != 0) = true := by simp [hx]
  clear hF hs hh hx
  go_enter Tryz.func8, Tryz.ntmps8
  go_wp2_with fail
  refine HC.out.mono ?_
  rintro e w2 ⟨v, rfl, -, hb2⟩
  have HB2 := Lib.hid (HB.out.trans (hb2.mono HB.out.size))
  clear hb2
  go_wp2
  go_ret2
  exact ⟨_, rfl, World.ownsRow_nil _ _ _ _, HB2.out⟩
set_option maxHeartbeats 16000000 in
theorem Rends_ok (start : Int) (A : Option Addr) (c : Nat) (p : List RowC) (h12 : p.length ≤ 12) (he : chartE start p = 0) (i : Nat) (hi : i < (workX start p).lp.length) (w : World) (hs : SlC w w.heap.size A p) :
    Calls Tryz.prog 8 #[.agg #[.int .i64 start, .slice A p.length c], .int .i64 (i : Int)] w fun e w' => BoPost 0 (listN (workX start p).lp.length (endF (workX start p) i)) w e w' := by
  have hF := rf_front start A c p w hs
  have c0 := hF.cb0
  have c1 := hF.cb1
  have HHg := Lib.hid (Rhangs_ok start A c p h12 he i hi _ hF.sl)
  have HWk : Hid (∀ W, RfF start A c p w.heap.size w W → Calls Tryz.prog 18 #[.agg #[.int .i64 start, .slice A p.length c]] W fun e w' => RwkPost (workX start p) W e w') := fun W h => rwk_ch start A c p he h12 W h.sl
  have hG := chart_grd he h12
  have hrl := rows_len he h12
  obtain ⟨t, ht⟩ : ∃ t, t = workX start p := ⟨_, rfl⟩
  rw [← ht] at HWk hi hG HHg hrl ⊢
  have HG := Lib.hid hG
  have HF := Lib.hid hF
  obtain ⟨nr, hnr⟩ : ∃ nr, nr = t.rows.length := ⟨_, rfl⟩
  have HNe := Lib.hid hnr
  have HNr : Hid (nr = p.length + 2) := hnr.trans hrl
  obtain ⟨P, hP⟩ : ∃ P : Int → Bool, P = fun x => !dropE t.next t.bound x := ⟨_, rfl⟩
  have HPe := Lib.hid hP
  have HR := Lib.hid (endF_list t i t.lp.length)
  rw [← hP] at HR
  rw [← HR.out]
  obtain ⟨l, hl⟩ : ∃ l, l = listN t.lp.length (hangF t.lp i) := ⟨_, rfl⟩
  have hl26 : l.length ≤ 2600 := by rw [hl]; exact Nat.le_trans (listN_len _ _) hG.ll
  rw [← hl] at HHg ⊢
  obtain ⟨M, hM⟩ : ∃ M, M = t.lp.length := ⟨_, rfl⟩
  have HMe := Lib.hid hM
  have H12 := Lib.hid h12
  clear hF hs he hG ht hnr hM hi hl hP HR hrl h12
  go_enter Tryz.func8, Tryz.ntmps8
  go_wp2_with fail
  refine HHg.out.mono ?_
  rintro e w2 ⟨v, rfl, hv, hb2⟩
  obtain ⟨al, cl, rfl⟩ := pxJ_is hv rfl
  have hF2 := HF.out.to hb2
  have c0' := hF2.cb0
  have c1' := hF2.cb1
  have HS2 := Lib.hid (pxJ_lies hv)
  have HW2 := Lib.hid (HWk.out w2 hF2)
  have HF2 := Lib.hid hF2
  obtain ⟨N, hN⟩ : ∃ N, N = l.length := ⟨_, rfl⟩
  have HN := Lib.hid hN
  rw [← hN] at hl26 ⊢
  clear hF2 hb2 c0 c1 HF HWk hv HHg hN
  go_upto_region 5 with (go_at_call 18; refine HW2.out.mono ?_; rintro e w3 ⟨a, b, x, r, ca, cb, cx, cr, rfl, hr, hb3⟩; have HB3 := Lib.hid (And.intro (HF2.out.behind (x := x) (ca := ca) (cb' := cb) (cx := cx) (cr := cr) hr hb3) (((HS2.out.below hb3).more hb3.size))); clear hr hb3)
  obtain ⟨qb, hqb⟩ : ∃ qb, qb = w3.heap.size := ⟨_, rfl⟩
  refine abs_world (Q := fun W => Code.wp _ _ _ _ W) (F := fun W => RwB qb a b x r ca cb cx nr cr t w W ∧ SlI W W.heap.size al l) _ (by rw [hqb, HNe.out]; exact ⟨HB3.out.1, (HB3.out.2.below (al_t w3 _)).more (al_t w3 _).size⟩) ?_
  rw [← hqb]
  try rw [← HNe.out]
  clear hqb HB3 HW2 c0' c1' HF2 HS2
  clear w3
  clear w2
  rintro W ⟨h, hsl⟩
  have HTo : Hid (∀ W', Below W.heap.size W W' → RwB qb a b x r ca cb cx nr cr t w W') := fun W' hb => h.to hb
  have HSl : Hid (∀ W', Below W.heap.size W W' → SlI W' W'.heap.size al l) := fun W' hb => (hsl.below hb).more hb.size
  have HB0 := Lib.hid h.bel
  have HX0 : Hid (Owns W W.heap.size [pxJ (.slice none 0 0) ((l.take 0).filter P)] ∧ Below W.heap.size W W) := ⟨Owns.nil.none 3 1, Below.refl _ _⟩
  obtain ⟨lv, hlv⟩ : ∃ lv, lv = t.next := ⟨_, rfl⟩
  obtain ⟨nb, hnb⟩ : ∃ nb, nb = t.bound.length := ⟨_, rfl⟩
  obtain ⟨nx, hnx⟩ : ∃ nx, nx = t.cross.length := ⟨_, rfl⟩
  have HLv0 : Hid (∀ W', Below W.heap.size W W' → Calls Tryz.prog 24 #[rcV a b x r M ca nb cb nx cx nr cr] W' fun e w' => e = .returned (.int .i64 (lv : Int)) ∧ Below W'.heap.size W' w') := fun W' hb => by
    have h1 := rlive_any a b x r t.lp.length ca t.bound.length cb t.cross.length cx cr p.length (by have := H12.out; omega) (t.next : Int) t.lp t.bound t.rows HG.out.g.lv_ W' (HTo.out W' hb).bx.at_
    rw [← HNr.out, ← HMe.out, ← hlv, ← hnb, ← hnx] at h1
    exact h1
  have HHs0 : Hid (∀ W' (y : Int), Below W.heap.size W W' → Calls Tryz.prog 25 #[.slice b nb cb, .int .i64 y] W' fun e w' => e = .returned (.bool (t.bound.any fun z => decide (z = y))) ∧ W' = w') := fun W' y hb => by
    have h1 := rhas_any b cb t.bound y (by have := HG.out.bl; omega) W' (HTo.out W' hb).bx.at_.bd
    rw [← hnb] at h1
    exact h1
  have HPx : Hid (∀ y, P y = (decide ((lv : Int) ≤ y) || t.bound.any fun z => decide (z = y))) := fun y => by
    rw [HPe.out, hlv]; exact keepE _ _ _
  have HBx : Hid (∀ W', Below W.heap.size W W' → W'.cell? ⟨qb, 0, none⟩ = some (.slice a M ca) ∧ W'.cell? ⟨qb, 1, none⟩ = some (.slice b nb cb) ∧ W'.cell? ⟨qb, 2, none⟩ = some (.slice x nx cx) ∧ W'.cell? ⟨qb, 3, none⟩ = some (.slice r nr cr)) := fun W' hb => by
    have h1 := (HTo.out W' hb).bx
    rw [hnb, hnx, HMe.out]
    exact ⟨h1.c0, h1.c1, h1.c2, h1.c3⟩
  clear h hsl hlv hnb hnx HPe HG HNe HNr HMe HTo
  go_wp2
  go_loopw [9, 10] (fun s9 s10 wr => ∃ (k : Nat) (A2 : Option Addr) (q c2 : Nat), k ≤ N ∧ s10 = .int .i64 (k : Int) ∧ s9 = .slice A2 q c2 ∧ Hid (q = ((l.take k).filter P).length) ∧ Hid (Owns wr W.heap.size [pxJ (.slice A2 q c2) ((l.take k).filter P)] ∧ Below W.heap.size W wr)) (fun _ s10 _ => N - (intOf s10).toNat)
  case atStart => exact ⟨0, none, 0, 0, Nat.zero_le _, rfl, rfl, rfl, HX0.out⟩
  case round =>
    obtain ⟨k, A2, q, c2, hk, rfl, rfl, Hq, HX⟩ := hrel
    clear HX0
    obtain ⟨W2, hW2⟩ : ∃ x : World, x = wr := ⟨_, rfl⟩
    rw [← hW2] at HX ⊢
    clear hW2
    by_cases hlt : k < N
    case neg =>
      have hkl : l.take k = l := by have := HN.out; exact List.take_of_length_le (by omega)
      have hX := HX.out
      rw [hkl] at hX
      have HQ : Hid (BoPost 0 (l.filter P) w (.returned (.tuple #[.slice A2 q c2, .int .i64 0])) W2) := ⟨_, rfl, own_more hX.1.head HB0.out.size, HB0.out.trans (hX.2.mono HB0.out.size)⟩
      clear hX HX hkl Hq
      go_wp2
      go_ret2
      exact HQ.out
    case pos =>
      obtain ⟨hb, ho, y, ea, -, hx, x0⟩ := (HSl.out W2 HX.out.2).at_ (k := k) (by have := HN.out; omega)
      subst ea
      have hkI : (k : Int) < (N : Int) := by omega
      have hk0 : (0 : Int) ≤ (k : Int) := by omega
      have HJ : Hid (k + 1 ≤ N ∧ k < N) := by show _ ∧ _; omega
      have HBm : Hid (∀ W', Below W2.heap.size W2 W' → Below W2.heap.size W2 W') := fun _ h => h
      have HBt : Hid (∀ W', Below W2.heap.size W2 W' → Below W.heap.size W W') := fun W' h => HX.out.2.trans (h.mono HX.out.2.size)
      have HLv : Hid (∀ W', Below W2.heap.size W2 W' → Calls Tryz.prog 24 #[rcV a b x r M ca nb cb nx cx nr cr] W' fun e w' => e = .returned (.int .i64 (lv : Int)) ∧ Below W'.heap.size W' w') := fun W' h => HLv0.out W' (HBt.out W' h)
      have HHs1 : Hid (∀ W', Below W2.heap.size W2 W' → Calls Tryz.prog 25 #[.slice b nb cb, .int .i64 y] W' fun e w' => e = .returned (.bool (t.bound.any fun z => decide (z = y))) ∧ W' = w') := fun W' h => HHs0.out W' y (HBt.out W' h)
      have hpx := HPx.out y
      obtain ⟨hz, hhz⟩ : ∃ hz, hz = t.bound.any fun z => decide (z = y) := ⟨_, rfl⟩
      rw [← hhz] at hpx
      have HHs : Hid (∀ W', Below W2.heap.size W2 W' → Calls Tryz.prog 25 #[.slice b nb cb, .int .i64 y] W' fun e w' => e = .returned (.bool hz) ∧ W' = w') := by
        have h1 := HHs1
        rw [← hhz] at h1
        exact h1
      have HSb : Hid (∀ W', Below W2.heap.size W2 W' → (W'.cell? ⟨qb, 0, none⟩ = some (.slice a M ca) ∧ W'.cell? ⟨qb, 1, none⟩ = some (.slice b nb cb) ∧ W'.cell? ⟨qb, 2, none⟩ = some (.slice x nx cx) ∧ W'.cell? ⟨qb, 3, none⟩ = some (.slice r nr cr) ∧ W'.cell? ⟨hb, ho + k, none⟩ = some (.int .i64 y) ∧ Below W2.heap.size W2 W')) := fun W' hb => ⟨(HBx.out W' (HBt.out W' hb)).1, (HBx.out W' (HBt.out W' hb)).2.1, (HBx.out W' (HBt.out W' hb)).2.2.1, (HBx.out W' (HBt.out W' hb)).2.2.2, (bcell hb (lt_of_cell x0) _).trans x0, hb⟩
      clear HHs1 hhz x0 HBt
      by_cases h1 : (lv : Int) ≤ y
      case pos =>
        have e1 : decide ((lv : Int) ≤ y) = true := decide_eq_true h1
        have e1' : decide (y ≥ (lv : Int)) = true := decide_eq_true h1
        have HNx : Hid ((l.take (k + 1)).filter P = (l.take k).filter P ++ [y]) := filt_yes hx (by rw [hpx, e1]; rfl)
        clear h1 hx hpx
        go_upto_region 9 with fail
        refine wp_region_held_drew (S := fun W' => W'.cell? ⟨qb, 0, none⟩ = some (.slice a M ca) ∧ W'.cell? ⟨qb, 1, none⟩ = some (.slice b nb cb) ∧ W'.cell? ⟨qb, 2, none⟩ = some (.slice x nx cx) ∧ W'.cell? ⟨qb, 3, none⟩ = some (.slice r nr cr) ∧ W'.cell? ⟨hb, ho + k, none⟩ = some (.int .i64 y) ∧ Below W2.heap.size W2 W') (by kernel_rfl) (HSb.out _ (Below.drew (Below.refl _ _))) (fun hHeld => ?_)
        refine wpAnyH_take (i := 0) (v := ?_) rfl (by kernel_rfl) (by kernel_rfl) (by kernel_rfl) (fun _ _ _ h => h) (Or.inl ⟨by rfl, ?_⟩) (by assumption) ?_
        rotate_left
        · (intro w hSw; (try dsimp only at hSw); go_simp; try with_reducible rfl)
        simp only [Act.put, List.getElem_toArray, List.getElem_cons_zero, List.setIfInBounds_toArray, List.set_cons_zero, List.set_cons_succ]
        refine wpAnyH_take (i := 1) (v := ?_) rfl (by kernel_rfl) (by kernel_rfl) (by kernel_rfl) (fun _ _ _ h => h) (Or.inl ⟨by rfl, ?_⟩) (by assumption) ?_
        rotate_left
        · (intro w hSw; (try dsimp only at hSw); go_simp; try with_reducible rfl)
        simp only [Act.put, List.getElem_toArray, List.getElem_cons_zero, List.getElem_cons_succ, List.setIfInBounds_toArray, List.set_cons_zero, List.set_cons_succ]
        refine wpAnyH_take (i := 2) (v := ?_) rfl (by kernel_rfl) (by kernel_rfl) (by kernel_rfl) (fun _ _ _ h => h) (Or.inl ⟨by rfl, ?_⟩) (by assumption) ?_
        rotate_left
        · (intro w hSw; (try dsimp only at hSw); go_simp; try with_reducible rfl)
        simp only [Act.put, List.getElem_toArray, List.getElem_cons_zero, List.getElem_cons_succ, List.setIfInBounds_toArray, List.set_cons_zero, List.set_cons_succ]
        refine wpAnyH_take (i := 3) (v := ?_) rfl (by kernel_rfl) (by kernel_rfl) (by kernel_rfl) (fun _ _ _ h => h) (Or.inl ⟨by rfl, ?_⟩) (by assumption) ?_
        rotate_left
        · (intro w hSw; (try dsimp only at hSw); go_simp; try with_reducible rfl)
        simp only [Act.put, List.getElem_toArray, List.getElem_cons_zero, List.getElem_cons_succ, List.setIfInBounds_toArray, List.set_cons_zero, List.set_cons_succ]
        refine wpAnyH_take (i := 4) (v := ?_) rfl (by kernel_rfl) (by kernel_rfl) (by kernel_rfl) (fun _ _ _ h => h) (Or.inl ⟨by rfl, ?_⟩) (by assumption) ?_
        rotate_left
        · (intro w hSw; (try dsimp only at hSw); go_simp; try with_reducible rfl)
        simp only [Act.put, List.getElem_toArray, List.getElem_cons_zero, List.getElem_cons_succ, List.setIfInBounds_toArray, List.set_cons_zero, List.set_cons_succ]
        refine wpAnyH_ready (rs := [5]) (by kernel_rfl) (by simp) ?_
        refine AllReadyH.cons rfl (fun K hK => ?_) AllReadyH.nil
        go_simp
        go_at_call 24
        have hp := hHeld
        refine (HLv.out _ hp.2.2.2.2.2).mono ?_
        rintro e wd ⟨rfl, hbd⟩
        have hbw := hp.2.2.2.2.2.trans (hbd.mono hp.2.2.2.2.2.size)
        clear hbd
        clear hp hHeld
        go_wp2_with fail
        refine hK.out _ _ (HSb.out _ hbw) (fun hHeld => ?_)
        clear hK K hbw
        refine wpAnyH_take (i := 6) (v := ?_) rfl (by kernel_rfl) (by kernel_rfl) (by kernel_rfl) (fun _ _ _ h => h) (Or.inl ⟨by rfl, ?_⟩) (by assumption) ?_
        rotate_left
        · (intro w hSw; (try dsimp only at hSw); go_simp; try with_reducible rfl)
        simp only [Act.put, List.getElem_toArray, List.getElem_cons_zero, List.getElem_cons_succ, List.setIfInBounds_toArray, List.set_cons_zero, List.set_cons_succ]
        refine wpAnyH_take (i := 7) (v := ?_) rfl (by kernel_rfl) (by kernel_rfl) (by kernel_rfl) (fun _ _ _ h => h) (Or.inl ⟨by rfl, ?_⟩) (by assumption) ?_
        rotate_left
        · (intro w hSw; (try dsimp only at hSw); go_simp; try with_reducible rfl)
        simp only [Act.put, List.getElem_toArray, List.getElem_cons_zero, List.getElem_cons_succ, List.setIfInBounds_toArray, List.set_cons_zero, List.set_cons_succ]
        refine wpAnyH_take (i := 8) (v := undef) rfl (by kernel_rfl) (by kernel_rfl) (by kernel_rfl) (fun _ _ _ h => h) (Or.inr ⟨by kernel_rfl, rfl⟩) (by assumption) ?_
        simp only [Act.put, List.getElem_toArray, List.getElem_cons_zero, List.getElem_cons_succ, List.setIfInBounds_toArray, List.set_cons_zero, List.set_cons_succ]
        refine wpAnyH_take (i := 9) (v := undef) rfl (by kernel_rfl) (by kernel_rfl) (by kernel_rfl) (fun _ _ _ h => h) (Or.inr ⟨by kernel_rfl, rfl⟩) (by assumption) ?_
        simp only [Act.put, List.getElem_toArray, List.getElem_cons_zero, List.getElem_cons_succ, List.setIfInBounds_toArray, List.set_cons_zero, List.set_cons_succ]
        refine wpAnyH_take (i := 10) (v := undef) rfl (by kernel_rfl) (by kernel_rfl) (by kernel_rfl) (fun _ _ _ h => h) (Or.inr ⟨by kernel_rfl, rfl⟩) (by assumption) ?_
        simp only [Act.put, List.getElem_toArray, List.getElem_cons_zero, List.getElem_cons_succ, List.setIfInBounds_toArray, List.set_cons_zero, List.set_cons_succ]
        refine wpAnyH_take (i := 11) (v := undef) rfl (by kernel_rfl) (by kernel_rfl) (by kernel_rfl) (fun _ _ _ h => h) (Or.inr ⟨by kernel_rfl, rfl⟩) (by assumption) ?_
        simp only [Act.put, List.getElem_toArray, List.getElem_cons_zero, List.getElem_cons_succ, List.setIfInBounds_toArray, List.set_cons_zero, List.set_cons_succ]
        refine wpAnyH_take (i := 12) (v := undef) rfl (by kernel_rfl) (by kernel_rfl) (by kernel_rfl) (fun _ _ _ h => h) (Or.inr ⟨by kernel_rfl, rfl⟩) (by assumption) ?_
        simp only [Act.put, List.getElem_toArray, List.getElem_cons_zero, List.getElem_cons_succ, List.setIfInBounds_toArray, List.set_cons_zero, List.set_cons_succ]
        refine wpAnyH_take (i := 13) (v := undef) rfl (by kernel_rfl) (by kernel_rfl) (by kernel_rfl) (fun _ _ _ h => h) (Or.inr ⟨by kernel_rfl, rfl⟩) (by assumption) ?_
        simp only [Act.put, List.getElem_toArray, List.getElem_cons_zero, List.getElem_cons_succ, List.setIfInBounds_toArray, List.set_cons_zero, List.set_cons_succ]
        refine wpAnyH_take (i := 14) (v := undef) rfl (by kernel_rfl) (by kernel_rfl) (by kernel_rfl) (fun _ _ _ h => h) (Or.inr ⟨by kernel_rfl, rfl⟩) (by assumption) ?_
        simp only [Act.put, List.getElem_toArray, List.getElem_cons_zero, List.getElem_cons_succ, List.setIfInBounds_toArray, List.set_cons_zero, List.set_cons_succ]
        refine wpAnyH_take (i := 15) (v := ?_) rfl (by kernel_rfl) (by kernel_rfl) (by kernel_rfl) (fun _ _ _ h => h) (Or.inl ⟨by rfl, ?_⟩) (by assumption) ?_
        rotate_left
        · (intro w hSw; (try dsimp only at hSw); go_simp; try with_reducible rfl)
        simp only [Act.put, List.getElem_toArray, List.getElem_cons_zero, List.getElem_cons_succ, List.setIfInBounds_toArray, List.set_cons_zero, List.set_cons_succ]
        refine wpAnyH_done (by kernel_rfl) ?_ _
        have hq := hHeld
        clear hHeld
        have hb' := hq.2.2.2.2.2
        have x0 := hq.2.2.2.2.1
        have HX2 := Lib.hid (And.intro (HX.out.1.to (HBm.out _ hb')) (HX.out.2.trans (hb'.mono HX.out.2.size)))
        obtain ⟨A3, c3, w8, hr9, h8, hb8⟩ := pxJ_app (a := A2) (c := c2) (l := (l.take k).filter P) (by rw [← Hq.out]; exact HX2.out.1) HX2.out.2.size (by have := List.length_filter_le P (l.take k); have := List.length_take_le k l; omega) y
        rw [← Hq.out] at hr9 h8
        have HQ : Hid (q + 1 = ((l.take (k + 1)).filter P).length ∧ (Owns w8 W.heap.size [pxJ (.slice A3 (q + 1) c3) ((l.take (k + 1)).filter P)] ∧ Below W.heap.size W w8)) := by
          rw [HNx.out]
          exact ⟨by rw [List.length_append, ← Hq.out]; rfl, h8, HX2.out.2.trans hb8⟩
        clear HX HX2 Hq h8 hb8 hb' hq HSb
        go_wp2_with (at_builtin; refine wpList_append_run _ rfl _ _ _ _ rfl _ _ (by rfl) (by rfl) hr9 ?_)
        go_roundw
        case rel => exact ⟨k + 1, _, _, _, HJ.out.1, by go_num, rfl, HQ.out.1, HQ.out.2⟩
        case measure => simp [intOf]; have := HJ.out; omega
      case neg =>
        have e1 : decide ((lv : Int) ≤ y) = false := decide_eq_false h1
        have e1' : decide (y ≥ (lv : Int)) = false := decide_eq_false h1
        rw [e1, Bool.false_or] at hpx
        cases hz with
        | true =>
          have HNx : Hid ((l.take (k + 1)).filter P = (l.take k).filter P ++ [y]) := filt_yes hx hpx
          clear h1 hx hpx
          go_upto_region 9 with fail
          refine wp_region_held_drew (S := fun W' => W'.cell? ⟨qb, 0, none⟩ = some (.slice a M ca) ∧ W'.cell? ⟨qb, 1, none⟩ = some (.slice b nb cb) ∧ W'.cell? ⟨qb, 2, none⟩ = some (.slice x nx cx) ∧ W'.cell? ⟨qb, 3, none⟩ = some (.slice r nr cr) ∧ W'.cell? ⟨hb, ho + k, none⟩ = some (.int .i64 y) ∧ Below W2.heap.size W2 W') (by kernel_rfl) (HSb.out _ (Below.drew (Below.refl _ _))) (fun hHeld => ?_)
          refine wpAnyH_take (i := 0) (v := ?_) rfl (by kernel_rfl) (by kernel_rfl) (by kernel_rfl) (fun _ _ _ h => h) (Or.inl ⟨by rfl, ?_⟩) (by assumption) ?_
          rotate_left
          · (intro w hSw; (try dsimp only at hSw); go_simp; try with_reducible rfl)
          simp only [Act.put, List.getElem_toArray, List.getElem_cons_zero, List.setIfInBounds_toArray, List.set_cons_zero, List.set_cons_succ]
          refine wpAnyH_take (i := 1) (v := ?_) rfl (by kernel_rfl) (by kernel_rfl) (by kernel_rfl) (fun _ _ _ h => h) (Or.inl ⟨by rfl, ?_⟩) (by assumption) ?_
          rotate_left
          · (intro w hSw; (try dsimp only at hSw); go_simp; try with_reducible rfl)
          simp only [Act.put, List.getElem_toArray, List.getElem_cons_zero, List.getElem_cons_succ, List.setIfInBounds_toArray, List.set_cons_zero, List.set_cons_succ]
          refine wpAnyH_take (i := 2) (v := ?_) rfl (by kernel_rfl) (by kernel_rfl) (by kernel_rfl) (fun _ _ _ h => h) (Or.inl ⟨by rfl, ?_⟩) (by assumption) ?_
          rotate_left
          · (intro w hSw; (try dsimp only at hSw); go_simp; try with_reducible rfl)
          simp only [Act.put, List.getElem_toArray, List.getElem_cons_zero, List.getElem_cons_succ, List.setIfInBounds_toArray, List.set_cons_zero, List.set_cons_succ]
          refine wpAnyH_take (i := 3) (v := ?_) rfl (by kernel_rfl) (by kernel_rfl) (by kernel_rfl) (fun _ _ _ h => h) (Or.inl ⟨by rfl, ?_⟩) (by assumption) ?_
          rotate_left
          · (intro w hSw; (try dsimp only at hSw); go_simp; try with_reducible rfl)
          simp only [Act.put, List.getElem_toArray, List.getElem_cons_zero, List.getElem_cons_succ, List.setIfInBounds_toArray, List.set_cons_zero, List.set_cons_succ]
          refine wpAnyH_take (i := 4) (v := ?_) rfl (by kernel_rfl) (by kernel_rfl) (by kernel_rfl) (fun _ _ _ h => h) (Or.inl ⟨by rfl, ?_⟩) (by assumption) ?_
          rotate_left
          · (intro w hSw; (try dsimp only at hSw); go_simp; try with_reducible rfl)
          simp only [Act.put, List.getElem_toArray, List.getElem_cons_zero, List.getElem_cons_succ, List.setIfInBounds_toArray, List.set_cons_zero, List.set_cons_succ]
          refine wpAnyH_ready (rs := [5]) (by kernel_rfl) (by simp) ?_
          refine AllReadyH.cons rfl (fun K hK => ?_) AllReadyH.nil
          go_simp
          go_at_call 24
          have hp := hHeld
          refine (HLv.out _ hp.2.2.2.2.2).mono ?_
          rintro e wd ⟨rfl, hbd⟩
          have hbw := hp.2.2.2.2.2.trans (hbd.mono hp.2.2.2.2.2.size)
          clear hbd
          clear hp hHeld
          go_wp2_with fail
          refine hK.out _ _ (HSb.out _ hbw) (fun hHeld => ?_)
          clear hK K hbw
          refine wpAnyH_take (i := 6) (v := ?_) rfl (by kernel_rfl) (by kernel_rfl) (by kernel_rfl) (fun _ _ _ h => h) (Or.inl ⟨by rfl, ?_⟩) (by assumption) ?_
          rotate_left
          · (intro w hSw; (try dsimp only at hSw); go_simp; try with_reducible rfl)
          simp only [Act.put, List.getElem_toArray, List.getElem_cons_zero, List.getElem_cons_succ, List.setIfInBounds_toArray, List.set_cons_zero, List.set_cons_succ]
          refine wpAnyH_take (i := 7) (v := ?_) rfl (by kernel_rfl) (by kernel_rfl) (by kernel_rfl) (fun _ _ _ h => h) (Or.inl ⟨by rfl, ?_⟩) (by assumption) ?_
          rotate_left
          · (intro w hSw; (try dsimp only at hSw); go_simp; try with_reducible rfl)
          simp only [Act.put, List.getElem_toArray, List.getElem_cons_zero, List.getElem_cons_succ, List.setIfInBounds_toArray, List.set_cons_zero, List.set_cons_succ]
          refine wpAnyH_take (i := 8) (v := ?_) rfl (by kernel_rfl) (by kernel_rfl) (by kernel_rfl) (fun _ _ _ h => h) (Or.inl ⟨by rfl, ?_⟩) (by assumption) ?_
          rotate_left
          · (intro w hSw; (try dsimp only at hSw); go_simp; try with_reducible rfl)
          simp only [Act.put, List.getElem_toArray, List.getElem_cons_zero, List.getElem_cons_succ, List.setIfInBounds_toArray, List.set_cons_zero, List.set_cons_succ]
          refine wpAnyH_take (i := 9) (v := ?_) rfl (by kernel_rfl) (by kernel_rfl) (by kernel_rfl) (fun _ _ _ h => h) (Or.inl ⟨by rfl, ?_⟩) (by assumption) ?_
          rotate_left
          · (intro w hSw; (try dsimp only at hSw); go_simp; try with_reducible rfl)
          simp only [Act.put, List.getElem_toArray, List.getElem_cons_zero, List.getElem_cons_succ, List.setIfInBounds_toArray, List.set_cons_zero, List.set_cons_succ]
          refine wpAnyH_take (i := 10) (v := ?_) rfl (by kernel_rfl) (by kernel_rfl) (by kernel_rfl) (fun _ _ _ h => h) (Or.inl ⟨by rfl, ?_⟩) (by assumption) ?_
          rotate_left
          · (intro w hSw; (try dsimp only at hSw); go_simp; try with_reducible rfl)
          simp only [Act.put, List.getElem_toArray, List.getElem_cons_zero, List.getElem_cons_succ, List.setIfInBounds_toArray, List.set_cons_zero, List.set_cons_succ]
          refine wpAnyH_take (i := 11) (v := ?_) rfl (by kernel_rfl) (by kernel_rfl) (by kernel_rfl) (fun _ _ _ h => h) (Or.inl ⟨by rfl, ?_⟩) (by assumption) ?_
          rotate_left
          · (intro w hSw; (try dsimp only at hSw); go_simp; try with_reducible rfl)
          simp only [Act.put, List.getElem_toArray, List.getElem_cons_zero, List.getElem_cons_succ, List.setIfInBounds_toArray, List.set_cons_zero, List.set_cons_succ]
          refine wpAnyH_take (i := 12) (v := ?_) rfl (by kernel_rfl) (by kernel_rfl) (by kernel_rfl) (fun _ _ _ h => h) (Or.inl ⟨by rfl, ?_⟩) (by assumption) ?_
          rotate_left
          · (intro w hSw; (try dsimp only at hSw); go_simp; try with_reducible rfl)
          simp only [Act.put, List.getElem_toArray, List.getElem_cons_zero, List.getElem_cons_succ, List.setIfInBounds_toArray, List.set_cons_zero, List.set_cons_succ]
          refine wpAnyH_take (i := 13) (v := ?_) rfl (by kernel_rfl) (by kernel_rfl) (by kernel_rfl) (fun _ _ _ h => h) (Or.inl ⟨by rfl, ?_⟩) (by assumption) ?_
          rotate_left
          · (intro w hSw; (try dsimp only at hSw); go_simp; try with_reducible rfl)
          simp only [Act.put, List.getElem_toArray, List.getElem_cons_zero, List.getElem_cons_succ, List.setIfInBounds_toArray, List.set_cons_zero, List.set_cons_succ]
          refine wpAnyH_ready (rs := [14]) (by kernel_rfl) (by simp) ?_
          refine AllReadyH.cons rfl (fun K hK => ?_) AllReadyH.nil
          go_simp
          go_at_call 25
          have hp := hHeld
          refine (HHs.out _ hp.2.2.2.2.2).mono ?_
          rintro e wd ⟨rfl, rfl⟩
          have hbw := hp.2.2.2.2.2
          clear hp hHeld
          go_wp2_with fail
          refine hK.out _ _ (HSb.out _ hbw) (fun hHeld => ?_)
          clear hK K hbw
          refine wpAnyH_take (i := 15) (v := ?_) rfl (by kernel_rfl) (by kernel_rfl) (by kernel_rfl) (fun _ _ _ h => h) (Or.inl ⟨by rfl, ?_⟩) (by assumption) ?_
          rotate_left
          · (intro w hSw; (try dsimp only at hSw); go_simp; try with_reducible rfl)
          simp only [Act.put, List.getElem_toArray, List.getElem_cons_zero, List.getElem_cons_succ, List.setIfInBounds_toArray, List.set_cons_zero, List.set_cons_succ]
          refine wpAnyH_done (by kernel_rfl) ?_ _
          have hq := hHeld
          clear hHeld
          have hb' := hq.2.2.2.2.2
          have x0 := hq.2.2.2.2.1
          have HX2 := Lib.hid (And.intro (HX.out.1.to (HBm.out _ hb')) (HX.out.2.trans (hb'.mono HX.out.2.size)))
          obtain ⟨A3, c3, w8, hr9, h8, hb8⟩ := pxJ_app (a := A2) (c := c2) (l := (l.take k).filter P) (by rw [← Hq.out]; exact HX2.out.1) HX2.out.2.size (by have := List.length_filter_le P (l.take k); have := List.length_take_le k l; omega) y
          rw [← Hq.out] at hr9 h8
          have HQ : Hid (q + 1 = ((l.take (k + 1)).filter P).length ∧ (Owns w8 W.heap.size [pxJ (.slice A3 (q + 1) c3) ((l.take (k + 1)).filter P)] ∧ Below W.heap.size W w8)) := by
            rw [HNx.out]
            exact ⟨by rw [List.length_append, ← Hq.out]; rfl, h8, HX2.out.2.trans hb8⟩
          clear HX HX2 Hq h8 hb8 hb' hq HSb
          go_wp2_with (at_builtin; refine wpList_append_run _ rfl _ _ _ _ rfl _ _ (by rfl) (by rfl) hr9 ?_)
          go_roundw
          case rel => exact ⟨k + 1, _, _, _, HJ.out.1, by go_num, rfl, HQ.out.1, HQ.out.2⟩
          case measure => simp [intOf]; have := HJ.out; omega
        | false =>
          have HNx : Hid ((l.take (k + 1)).filter P = (l.take k).filter P) := filt_no hx hpx
          clear h1 hx hpx
          go_upto_region 9 with fail
          refine wp_region_held_drew (S := fun W' => W'.cell? ⟨qb, 0, none⟩ = some (.slice a M ca) ∧ W'.cell? ⟨qb, 1, none⟩ = some (.slice b nb cb) ∧ W'.cell? ⟨qb, 2, none⟩ = some (.slice x nx cx) ∧ W'.cell? ⟨qb, 3, none⟩ = some (.slice r nr cr) ∧ W'.cell? ⟨hb, ho + k, none⟩ = some (.int .i64 y) ∧ Below W2.heap.size W2 W') (by kernel_rfl) (HSb.out _ (Below.drew (Below.refl _ _))) (fun hHeld => ?_)
          refine wpAnyH_take (i := 0) (v := ?_) rfl (by kernel_rfl) (by kernel_rfl) (by kernel_rfl) (fun _ _ _ h => h) (Or.inl ⟨by rfl, ?_⟩) (by assumption) ?_
          rotate_left
          · (intro w hSw; (try dsimp only at hSw); go_simp; try with_reducible rfl)
          simp only [Act.put, List.getElem_toArray, List.getElem_cons_zero, List.setIfInBounds_toArray, List.set_cons_zero, List.set_cons_succ]
          refine wpAnyH_take (i := 1) (v := ?_) rfl (by kernel_rfl) (by kernel_rfl) (by kernel_rfl) (fun _ _ _ h => h) (Or.inl ⟨by rfl, ?_⟩) (by assumption) ?_
          rotate_left
          · (intro w hSw; (try dsimp only at hSw); go_simp; try with_reducible rfl)
          simp only [Act.put, List.getElem_toArray, List.getElem_cons_zero, List.getElem_cons_succ, List.setIfInBounds_toArray, List.set_cons_zero, List.set_cons_succ]
          refine wpAnyH_take (i := 2) (v := ?_) rfl (by kernel_rfl) (by kernel_rfl) (by kernel_rfl) (fun _ _ _ h => h) (Or.inl ⟨by rfl, ?_⟩) (by assumption) ?_
          rotate_left
          · (intro w hSw; (try dsimp only at hSw); go_simp; try with_reducible rfl)
          simp only [Act.put, List.getElem_toArray, List.getElem_cons_zero, List.getElem_cons_succ, List.setIfInBounds_toArray, List.set_cons_zero, List.set_cons_succ]
          refine wpAnyH_take (i := 3) (v := ?_) rfl (by kernel_rfl) (by kernel_rfl) (by kernel_rfl) (fun _ _ _ h => h) (Or.inl ⟨by rfl, ?_⟩) (by assumption) ?_
          rotate_left
          · (intro w hSw; (try dsimp only at hSw); go_simp; try with_reducible rfl)
          simp only [Act.put, List.getElem_toArray, List.getElem_cons_zero, List.getElem_cons_succ, List.setIfInBounds_toArray, List.set_cons_zero, List.set_cons_succ]
          refine wpAnyH_take (i := 4) (v := ?_) rfl (by kernel_rfl) (by kernel_rfl) (by kernel_rfl) (fun _ _ _ h => h) (Or.inl ⟨by rfl, ?_⟩) (by assumption) ?_
          rotate_left
          · (intro w hSw; (try dsimp only at hSw); go_simp; try with_reducible rfl)
          simp only [Act.put, List.getElem_toArray, List.getElem_cons_zero, List.getElem_cons_succ, List.setIfInBounds_toArray, List.set_cons_zero, List.set_cons_succ]
          refine wpAnyH_ready (rs := [5]) (by kernel_rfl) (by simp) ?_
          refine AllReadyH.cons rfl (fun K hK => ?_) AllReadyH.nil
          go_simp
          go_at_call 24
          have hp := hHeld
          refine (HLv.out _ hp.2.2.2.2.2).mono ?_
          rintro e wd ⟨rfl, hbd⟩
          have hbw := hp.2.2.2.2.2.trans (hbd.mono hp.2.2.2.2.2.size)
          clear hbd
          clear hp hHeld
          go_wp2_with fail
          refine hK.out _ _ (HSb.out _ hbw) (fun hHeld => ?_)
          clear hK K hbw
          refine wpAnyH_take (i := 6) (v := ?_) rfl (by kernel_rfl) (by kernel_rfl) (by kernel_rfl) (fun _ _ _ h => h) (Or.inl ⟨by rfl, ?_⟩) (by assumption) ?_
          rotate_left
          · (intro w hSw; (try dsimp only at hSw); go_simp; try with_reducible rfl)
          simp only [Act.put, List.getElem_toArray, List.getElem_cons_zero, List.getElem_cons_succ, List.setIfInBounds_toArray, List.set_cons_zero, List.set_cons_succ]
          refine wpAnyH_take (i := 7) (v := ?_) rfl (by kernel_rfl) (by kernel_rfl) (by kernel_rfl) (fun _ _ _ h => h) (Or.inl ⟨by rfl, ?_⟩) (by assumption) ?_
          rotate_left
          · (intro w hSw; (try dsimp only at hSw); go_simp; try with_reducible rfl)
          simp only [Act.put, List.getElem_toArray, List.getElem_cons_zero, List.getElem_cons_succ, List.setIfInBounds_toArray, List.set_cons_zero, List.set_cons_succ]
          refine wpAnyH_take (i := 8) (v := ?_) rfl (by kernel_rfl) (by kernel_rfl) (by kernel_rfl) (fun _ _ _ h => h) (Or.inl ⟨by rfl, ?_⟩) (by assumption) ?_
          rotate_left
          · (intro w hSw; (try dsimp only at hSw); go_simp; try with_reducible rfl)
          simp only [Act.put, List.getElem_toArray, List.getElem_cons_zero, List.getElem_cons_succ, List.setIfInBounds_toArray, List.set_cons_zero, List.set_cons_succ]
          refine wpAnyH_take (i := 9) (v := ?_) rfl (by kernel_rfl) (by kernel_rfl) (by kernel_rfl) (fun _ _ _ h => h) (Or.inl ⟨by rfl, ?_⟩) (by assumption) ?_
          rotate_left
          · (intro w hSw; (try dsimp only at hSw); go_simp; try with_reducible rfl)
          simp only [Act.put, List.getElem_toArray, List.getElem_cons_zero, List.getElem_cons_succ, List.setIfInBounds_toArray, List.set_cons_zero, List.set_cons_succ]
          refine wpAnyH_take (i := 10) (v := ?_) rfl (by kernel_rfl) (by kernel_rfl) (by kernel_rfl) (fun _ _ _ h => h) (Or.inl ⟨by rfl, ?_⟩) (by assumption) ?_
          rotate_left
          · (intro w hSw; (try dsimp only at hSw); go_simp; try with_reducible rfl)
          simp only [Act.put, List.getElem_toArray, List.getElem_cons_zero, List.getElem_cons_succ, List.setIfInBounds_toArray, List.set_cons_zero, List.set_cons_succ]
          refine wpAnyH_take (i := 11) (v := ?_) rfl (by kernel_rfl) (by kernel_rfl) (by kernel_rfl) (fun _ _ _ h => h) (Or.inl ⟨by rfl, ?_⟩) (by assumption) ?_
          rotate_left
          · (intro w hSw; (try dsimp only at hSw); go_simp; try with_reducible rfl)
          simp only [Act.put, List.getElem_toArray, List.getElem_cons_zero, List.getElem_cons_succ, List.setIfInBounds_toArray, List.set_cons_zero, List.set_cons_succ]
          refine wpAnyH_take (i := 12) (v := ?_) rfl (by kernel_rfl) (by kernel_rfl) (by kernel_rfl) (fun _ _ _ h => h) (Or.inl ⟨by rfl, ?_⟩) (by assumption) ?_
          rotate_left
          · (intro w hSw; (try dsimp only at hSw); go_simp; try with_reducible rfl)
          simp only [Act.put, List.getElem_toArray, List.getElem_cons_zero, List.getElem_cons_succ, List.setIfInBounds_toArray, List.set_cons_zero, List.set_cons_succ]
          refine wpAnyH_take (i := 13) (v := ?_) rfl (by kernel_rfl) (by kernel_rfl) (by kernel_rfl) (fun _ _ _ h => h) (Or.inl ⟨by rfl, ?_⟩) (by assumption) ?_
          rotate_left
          · (intro w hSw; (try dsimp only at hSw); go_simp; try with_reducible rfl)
          simp only [Act.put, List.getElem_toArray, List.getElem_cons_zero, List.getElem_cons_succ, List.setIfInBounds_toArray, List.set_cons_zero, List.set_cons_succ]
          refine wpAnyH_ready (rs := [14]) (by kernel_rfl) (by simp) ?_
          refine AllReadyH.cons rfl (fun K hK => ?_) AllReadyH.nil
          go_simp
          go_at_call 25
          have hp := hHeld
          refine (HHs.out _ hp.2.2.2.2.2).mono ?_
          rintro e wd ⟨rfl, rfl⟩
          have hbw := hp.2.2.2.2.2
          clear hp hHeld
          go_wp2_with fail
          refine hK.out _ _ (HSb.out _ hbw) (fun hHeld => ?_)
          clear hK K hbw
          refine wpAnyH_take (i := 15) (v := ?_) rfl (by kernel_rfl) (by kernel_rfl) (by kernel_rfl) (fun _ _ _ h => h) (Or.inl ⟨by rfl, ?_⟩) (by assumption) ?_
          rotate_left
          · (intro w hSw; (try dsimp only at hSw); go_simp; try with_reducible rfl)
          simp only [Act.put, List.getElem_toArray, List.getElem_cons_zero, List.getElem_cons_succ, List.setIfInBounds_toArray, List.set_cons_zero, List.set_cons_succ]
          refine wpAnyH_done (by kernel_rfl) ?_ _
          have hq := hHeld
          clear hHeld
          have hb' := hq.2.2.2.2.2
          have hE : q = ((l.take (k + 1)).filter P).length := by rw [HNx.out]; exact Hq.out
          have hO := HX.out.1.to hb'
          rw [← HNx.out] at hO
          have HQ := Lib.hid (And.intro hE (And.intro hO (HX.out.2.trans (hb'.mono HX.out.2.size))))
          clear HX Hq hb' hq HSb hE hO
          go_wp2
          go_roundw
          case rel => exact ⟨k + 1, _, _, _, HJ.out.1, by go_num, rfl, HQ.out.1, HQ.out.2⟩
          case measure => simp [intOf]; have := HJ.out; omega
/-- Ends of the reference for every chart and number. -/
theorem Rends_x (start : Int) (A : Option Addr) (c : Nat) (p : List RowC) (h12 : chartE start p = 0 → p.length ≤ 12) (i : Int) (w : World) (hs : SlC w w.heap.size A p) :
    Calls Tryz.prog 8 #[.agg #[.int .i64 start, .slice A p.length c], .int .i64 i] w fun e w' => BoPost (endS start p i).1 (endS start p i).2 w e w' := by
  have hx := fun W hs => Rhangs_x start A c p h12 i W hs
  by_cases he : chartE start p = 0
  · unfold endS
    unfold hangS at hx
    rw [if_neg (by rw [he]; decide)] at hx ⊢
    by_cases hi : i < 0 ∨ ((workX start p).lp.length : Int) ≤ i
    · rw [if_pos hi] at hx ⊢
      exact Rends_err start A c p i w hs 2 [] (by decide) hx
    · rw [if_neg hi]
      obtain ⟨n, rfl⟩ : ∃ n : Nat, i = (n : Int) := ⟨i.toNat, by omega⟩
      exact Rends_ok start A c p (h12 he) he n (by omega) w hs
  · unfold endS
    unfold hangS at hx
    rw [if_pos he] at hx ⊢
    exact Rends_err start A c p i w hs _ [] he hx
end Go.Proofs.YtbibndpkcilblaaGreat
