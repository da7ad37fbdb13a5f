/- HandExact, walked: a braid that some moves make has a right plan. -/
import Derived.Test.YtodjkifcbgmckaaHlw
import Derived.Test.YtodjkifcbgmckaaHrck
import Derived.Test.YtodjkifcbgmckaaHy
import Derived.Test.YtodjkifcbgmckaaHs2
namespace Go.Proofs.Ytodjkifcbgmckaa
open Go.RowKit Go.Shelf Go.Sort
set_option maxRecDepth 100000

theorem fits_take {k : Nat} {P : List Int → Bool} : ∀ {r pre : List Int}, fitsL k P pre r → (∀ a ∈ r, -1 ≤ a ∧ a < (k : Int)) ∧ ∀ i, i < r.length → P (pre ++ r.take (i + 1)) = true
  | [], pre, _ => ⟨fun a h => absurd h List.not_mem_nil, fun i h => absurd h (Nat.not_lt_zero i)⟩
  | a :: r, pre, h => by
    obtain ⟨h1, h2, h3, h4⟩ := h
    obtain ⟨i1, i2⟩ := fits_take h4
    refine ⟨fun x hx => ?_, fun i hi => ?_⟩
    · rcases List.mem_cons.1 hx with rfl | hx
      · exact ⟨h1, h2⟩
      · exact i1 x hx
    · cases i with
      | zero => exact h3
      | succ j =>
        have := i2 j (by simpa using hi)
        rw [List.append_assoc] at this
        exact this
/-- The plan that is found is right. -/
theorem sea_right {b : Brd} {ns p : List Int} (hE : brdE b = 0) (hc : cabB ns = true) (hs : sea ns.length (okL b ns) b.to_.length [] = some p) : rightE b ns p = (true, 0) ∧ p.length = b.to_.length := by
  obtain ⟨q, e, hl, hf⟩ := sea_sound hs
  rw [List.nil_append] at e
  subst e
  obtain ⟨h1, h2⟩ := fits_take hf
  refine ⟨right_run hE hc (by unfold planOk; rw [decide_eq_true hl, Bool.true_and]; exact decide_eq_true h1) ⟨fun _ => rfl, fun _ x hx => ?_⟩, hl⟩
  have := h2 x hx
  rw [List.nil_append] at this
  unfold okL at this
  rw [List.length_take, Nat.min_eq_left (by omega), Nat.add_sub_cancel] at this
  exact this
theorem exact_plain {n : Int} {ns : List Int} {l : List Mv} (h : (rpE n ns l).2 = 0) : brdE (rpE n ns l).1 = 0 ∧ ((rpE n ns l).1.to_.length : Int) = n ∧ cabB ns = true ∧ ∃ p, planE (rpE n ns l).1 ns = (p, 0) ∧ rightE (rpE n ns l).1 ns p = (true, 0) ∧ p.length ≤ 8 := by
  by_cases h0 : n < 0 ∨ 8 < n ∨ cabB ns = false
  · rw [rpE_arg h0] at h; cases h
  have h1 : ¬ n < 0 := fun e => h0 (Or.inl e)
  have h8 : ¬ 8 < n := fun e => h0 (Or.inr (Or.inl e))
  have hc : cabB ns = true := by
    cases e : cabB ns with
    | true => rfl
    | false => exact absurd (Or.inr (Or.inr e)) h0
  obtain ⟨N, rfl⟩ : ∃ N : Nat, n = (N : Int) := ⟨n.toNat, by omega⟩
  by_cases hm : ∀ m ∈ l, mvOk ns.length m = true
  · rw [rpE_run (by omega) hc hm] at h ⊢
    cases hr : rpRun N ns (rp0 N ns.length) l with
    | none => rw [hr] at h; cases h
    | some s =>
      rw [hr] at h
      by_cases hd : s.done = N
      · simp only [hd, if_true]
        obtain ⟨ho, pl, wk, hpl⟩ := RpPl.run (RpPl.new N ns) (RpOk.new N ns.length) hm hr
        have hE : brdE ⟨s.to_, rpFronts N s.to_ s.deep⟩ = 0 := by
          rw [brdE_fr (b := ⟨s.to_, rpFronts N s.to_ s.deep⟩) (by show ¬ 8 < s.to_.length; rw [ho.lto]; omega) (made_perm hpl ho hd) (made_fronts ho)]
          rfl
        obtain ⟨p, hp, -⟩ := made_plan hpl ho hd
        have hp' : sea ns.length (okL ⟨s.to_, rpFronts N s.to_ s.deep⟩ ns) (Brd.to_ ⟨s.to_, rpFronts N s.to_ s.deep⟩).length [] = some p := by
          show sea ns.length _ s.to_.length [] = some p
          rw [ho.lto]; exact hp
        obtain ⟨hR, hl⟩ := sea_right hE hc hp'
        refine ⟨hE, by show (s.to_.length : Int) = N; rw [ho.lto], hc, p, plan_some hE hc hp', hR, ?_⟩
        rw [hl]
        show s.to_.length ≤ 8
        rw [ho.lto]; omega
      · simp only [hd, if_false] at h; cases h
  · have hx : ∃ m ∈ l, mvOk ns.length m = false := by
      apply Classical.byContradiction
      intro hx
      exact hm fun m hm' => by
        cases e : mvOk ns.length m with
        | true => rfl
        | false => exact absurd ⟨m, hm', e⟩ hx
    obtain ⟨m, hm', e⟩ := hx
    obtain ⟨i, hi, e2⟩ := List.getElem_of_mem hm'
    rw [rpE_bad h1 h8 hc (i := i) (m := m) (by rw [List.getElem?_eq_getElem hi, e2]) e] at h
    cases h
set_option maxHeartbeats 16000000 in
theorem exact_walk (n : Int) (A : Option Addr) (c : Nat) (ns : List Int) (M : Option Addr) (cm : Nat) (l : List Mv) (w : World) (hs : SlI w w.heap.size A ns) (hm : SlMv w w.heap.size M l) :
    Calls Try.prog 9 #[.int .i64 n, .slice A ns.length c, .slice M l.length cm] w fun e w' => e = .returned (.bool true) ∧ Below w.heap.size w w' := by
  have HS := Lib.hid hs
  have HM := Lib.hid hm
  have HAv := Lib.hid (alive29_any w)
  clear hs hm
  by_cases h1 : 20 < ns.length
  · have d1 : decide (20 < ns.length) = true := decide_eq_true h1
    have d2 : decide ((20 : Int) < (ns.length : Int)) = true := decide_eq_true (by omega)
    go_enter Try.func9, Try.ntmps9
    go_wp2_with ((go_at_call 29; refine HAv.out.mono ?_; rintro e w1 ⟨rfl, hb1⟩))
    go_ret
    exact ⟨rfl, hb1⟩
  have d1 : decide (20 < ns.length) = false := decide_eq_false h1
  have d2 : decide ((20 : Int) < (ns.length : Int)) = false := decide_eq_false (by omega)
  by_cases h2 : 60 < l.length
  · have d3 : decide (60 < l.length) = true := decide_eq_true h2
    have d4 : decide ((60 : Int) < (l.length : Int)) = true := decide_eq_true (by omega)
    go_enter Try.func9, Try.ntmps9
    go_wp2_with ((go_at_call 29; refine HAv.out.mono ?_; rintro e w1 ⟨rfl, hb1⟩))
    go_ret
    exact ⟨rfl, hb1⟩
  have d3 : decide (60 < l.length) = false := decide_eq_false h2
  have d4 : decide ((60 : Int) < (l.length : Int)) = false := decide_eq_false (by omega)
  have HA : Hid (∀ W, Below w.heap.size w W → Calls Try.prog 11 #[.int .i64 n, .slice A ns.length c, .slice M l.length cm] W fun e w' => brdOut (rpE n ns l) W e w') := fun W hb => hrep_any n A c ns (by omega) M cm l (by omega) W ((HS.out.below hb).more hb.size) (SlS.more (HM.out.below hb) hb.size)
  have HL := Lib.hid (rp_lens n ns l)
  have HE := Lib.hid (fun h => exact_plain (n := n) (ns := ns) (l := l) h)
  obtain ⟨r, hr⟩ : ∃ r, r = rpE n ns l := ⟨_, rfl⟩
  rw [← hr] at HA HL HE
  have hn20 : ns.length ≤ 1000000 := by omega
  clear hr h1 h2 HM
  obtain ⟨b, x⟩ := r
  go_enter Try.func9, Try.ntmps9
  go_upto_region 4 with ((go_at_call 29; refine HAv.out.mono ?_; rintro e w1 ⟨rfl, hb1⟩))
  have HB1 := Lib.hid hb1
  clear hb1 HAv d1 d2 d3 d4
  go_upto_region 5 with ((go_at_call 11; refine (HA.out _ HB1.out).mono ?_; intro e w2 ho; obtain ⟨A1, F1, c1, fc1, rfl, hs2, hp2, hb2⟩ := brd_open ho; clear ho))
  have hba := (Below.refl _ w2).alloc (Nat.le_refl _) (.cells #[.slice A1 b.to_.length c1, .slice F1 b.fronts.length fc1] 26)
  have hbw := HB1.out.trans (hb2.mono HB1.out.size)
  have HX : Hid (_ ∧ _ ∧ _ ∧ _ ∧ _) := ⟨hbw.trans (hba.mono hbw.size), (cell_new rfl rfl rfl : (w2.alloc (.cells #[.slice A1 b.to_.length c1, .slice F1 b.fronts.length fc1] 26)).cell? ⟨w2.heap.size, 0, none⟩ = some (.slice A1 b.to_.length c1)), (cell_new rfl rfl rfl : (w2.alloc (.cells #[.slice A1 b.to_.length c1, .slice F1 b.fronts.length fc1] 26)).cell? ⟨w2.heap.size, 1, none⟩ = some (.slice F1 b.fronts.length fc1)), (hs2.below hba).more hba.size, (hp2.below hba).more hba.size⟩
  refine abs_world (Q := fun W => Code.wp _ _ _ _ W) (F := fun W => Below w.heap.size w W ∧ W.cell? ⟨w2.heap.size, 0, none⟩ = some (.slice A1 b.to_.length c1) ∧ W.cell? ⟨w2.heap.size, 1, none⟩ = some (.slice F1 b.fronts.length fc1) ∧ SlI W W.heap.size A1 b.to_ ∧ SlPr W W.heap.size F1 b.fronts) _ HX.out ?_
  clear HX hba hbw hb2 hs2 hp2 HA HB1
  obtain ⟨pb, hpb⟩ : ∃ pb, pb = w2.heap.size := ⟨_, rfl⟩
  rw [← hpb]
  clear hpb
  rintro W3 ⟨hb3, g0, g1, hs3, hp3⟩
  have HB3 := Lib.hid hb3
  by_cases hx : x = 0
  case neg =>
    have e1 : (x != 0) = true := by simpa using hx
    clear hx HE
    go_wp2
    go_ret
    exact ⟨rfl, HB3.out⟩
  subst hx
  obtain ⟨hE, hln, hcb, p, hP, hR, hp8⟩ := HE.out rfl
  replace hE : brdE b = 0 := hE
  replace hln : (b.to_.length : Int) = n := hln
  replace hP : planE b ns = (p, 0) := hP
  replace hR : rightE b ns p = (true, 0) := hR
  have hfl : b.fronts.length ≤ 4611686018427387904 := Nat.le_trans HL.out.2 (by decide)
  have HG := Lib.hid (fun W (h : Below W3.heap.size W3 W) => And.intro ((bcell h (lt_of_cell g0) _).trans g0) ((bcell h (lt_of_cell g1) _).trans g1))
  have HCk := Lib.hid (rcheck_any A1 F1 c1 fc1 b hfl W3 hs3 hp3)
  have HPl : Hid (∀ W, Below W3.heap.size W3 W → Calls Try.prog 21 #[.agg #[.slice A1 b.to_.length c1, .slice F1 b.fronts.length fc1], .slice A ns.length c] W fun e w' => ∃ A' c', e = .returned (.tuple #[.slice A' p.length c', .int .i64 0]) ∧ rowL w' W.heap.size A' c' p ∧ Below W.heap.size W w') := fun W hb => by
    have hbb := HB3.out.trans (hb.mono HB3.out.size)
    have h := hplan_any A1 F1 c1 fc1 b hfl A c ns hn20 W ((hs3.below hb).more hb.size) ((hp3.below hb).more hb.size) ((HS.out.below hbb).more hbb.size)
    rw [hP] at h
    exact h
  have HRi : Hid (∀ W, Below W3.heap.size W3 W → ∀ A' c', p.length ≤ c' → SlI W W.heap.size A' p → Calls Try.prog 17 #[.agg #[.slice A1 b.to_.length c1, .slice F1 b.fronts.length fc1], .slice A ns.length c, .slice A' p.length c'] W fun e w' => e = .returned (.tuple #[.bool true, .int .i64 0]) ∧ Below W.heap.size W w') := fun W hb A' c' hc' hpp => by
    have hbb := HB3.out.trans (hb.mono HB3.out.size)
    have h := hright_any A1 F1 c1 fc1 b hfl A c ns hn20 A' c' p hc' (Nat.le_trans hp8 (by decide)) W ((hs3.below hb).more hb.size) ((hp3.below hb).more hb.size) ((HS.out.below hbb).more hbb.size) hpp
    rw [hR] at h
    exact h
  rw [hE] at HCk
  have e2 : ((b.to_.length : Int) != n) = false := by simp [hln]
  have e3 : ((b.to_.length : Int) == n) = true := by simp [hln]
  clear hE hcb hP hR hp8 HE HL hs3 hp3 hb3 hfl hln HS
  go_upto_region 9 with ((go_at_call 20; refine HCk.out.mono ?_; rintro e w4 ⟨rfl, hb4⟩; obtain ⟨y0, y1⟩ := HG.out w4 hb4))
  refine abs_world (Q := fun W => Code.wp _ _ _ _ W) (F := fun W => Below W3.heap.size W3 W) _ hb4 ?_
  clear hb4 y0 y1 g0 g1 HCk e2 e3
  intro W5 hb5
  obtain ⟨g0, g1⟩ := HG.out W5 hb5
  have HB5 := Lib.hid hb5
  clear hb5
  go_upto_region 10 with ((go_at_call 21; refine (HPl.out _ HB5.out).mono ?_; rintro e w6 ⟨A6, c6, rfl, hr6, hb6⟩))
  have hb36 := HB5.out.trans (hb6.mono HB5.out.size)
  refine abs_world (Q := fun W => Code.wp _ _ _ _ W) (F := fun W => Below W3.heap.size W3 W ∧ SlI W W.heap.size A6 p) _ ⟨hb36, rowL_sl hr6⟩ ?_
  have hcap := rowL_cap hr6
  clear hr6 hb6 hb36 g0 g1 HPl HB5
  rintro W7 ⟨hb7, hs7⟩
  obtain ⟨g0, g1⟩ := HG.out W7 hb7
  have HRi7 := Lib.hid (HRi.out W7 hb7 A6 c6 hcap hs7)
  have HB7 := Lib.hid hb7
  clear hb7 hs7 HRi
  go_wp2_with ((go_at_call 17; refine HRi7.out.mono ?_; rintro e w8 ⟨rfl, hb8⟩))
  go_ret
  exact ⟨rfl, HB3.out.trans ((HB7.out.trans (hb8.mono HB7.out.size)).mono HB3.out.size)⟩
end Go.Proofs.Ytodjkifcbgmckaa
