/- HandExact, walked: a braid that some moves make has a right plan. HandFirst, walked: no right plan comes before the one that is returned. -/
import Derived.Test.YtodjkifcbgmckaaHlw
import Derived.Test.YtodjkifcbgmckaaHrck
import Derived.Test.YtodjkifcbgmckaaHy
import Derived.Test.YtodjkifcbgmckaaHs2
namespace Go.Proofs.Ytodjkifcbgmckaa
open Go.RowKit Go.Shelf Go.Sort
set_option maxRecDepth 100000

theorem fits_take {k : Nat} {P : List Int → Bool} : ∀ {r pre : List Int}, fitsL k P pre r → (∀ a ∈ r, -1 ≤ a ∧ a < (k : Int)) ∧ ∀ i, i < r.length → P (pre ++ r.take (i + 1)) = true
  | [], pre, _ => ⟨fun a h => absurd h List.not_mem_nil, fun i h => absurd h (Nat.not_lt_zero i)⟩
  | a :: r, pre, h => by
    obtain ⟨h1, h2, h3, h4⟩ := h
    obtain ⟨i1, i2⟩ := fits_take h4
    refine ⟨fun x hx => ?_, fun i hi => ?_⟩
    · rcases List.mem_cons.1 hx with rfl | hx
      · exact ⟨h1, h2⟩
      · exact i1 x hx
    · cases i with
      | zero => exact h3
      | succ j =>
        have := i2 j (by simpa using hi)
        rw [List.append_assoc] at this
        exact this
/-- The plan that is found is right. -/
theorem sea_right {b : Brd} {ns p : List Int} (hE : brdE b = 0) (hc : cabB ns = true) (hs : sea ns.length (okL b ns) b.to_.length [] = some p) : rightE b ns p = (true, 0) ∧ p.length = b.to_.length := by
  obtain ⟨q, e, hl, hf⟩ := sea_sound hs
  rw [List.nil_append] at e
  subst e
  obtain ⟨h1, h2⟩ := fits_take hf
  refine ⟨right_run hE hc (by unfold planOk; rw [decide_eq_true hl, Bool.true_and]; exact decide_eq_true h1) ⟨fun _ => rfl, fun _ x hx => ?_⟩, hl⟩
  have := h2 x hx
  rw [List.nil_append] at this
  unfold okL at this
  rw [List.length_take, Nat.min_eq_left (by omega), Nat.add_sub_cancel] at this
  exact this
theorem exact_plain {n : Int} {ns : List Int} {l : List Mv} (h : (rpE n ns l).2 = 0) : brdE (rpE n ns l).1 = 0 ∧ ((rpE n ns l).1.to_.length : Int) = n ∧ cabB ns = true ∧ ∃ p, planE (rpE n ns l).1 ns = (p, 0) ∧ rightE (rpE n ns l).1 ns p = (true, 0) ∧ p.length ≤ 8 := by
  by_cases h0 : n < 0 ∨ 8 < n ∨ cabB ns = false
  · rw [rpE_arg h0] at h; cases h
  have h1 : ¬ n < 0 := fun e => h0 (Or.inl e)
  have h8 : ¬ 8 < n := fun e => h0 (Or.inr (Or.inl e))
  have hc : cabB ns = true := by
    cases e : cabB ns with
    | true => rfl
    | false => exact absurd (Or.inr (Or.inr e)) h0
  obtain ⟨N, rfl⟩ : ∃ N : Nat, n = (N : Int) := ⟨n.toNat, by omega⟩
  by_cases hm : ∀ m ∈ l, mvOk ns.length m = true
  · rw [rpE_run (by omega) hc hm] at h ⊢
    cases hr : rpRun N ns (rp0 N ns.length) l with
    | none => rw [hr] at h; cases h
    | some s =>
      rw [hr] at h
      by_cases hd : s.done = N
      · simp only [hd, if_true]
        obtain ⟨ho, pl, wk, hpl⟩ := RpPl.run (RpPl.new N ns) (RpOk.new N ns.length) hm hr
        have hE : brdE ⟨s.to_, rpFronts N s.to_ s.deep⟩ = 0 := by
          rw [brdE_fr (b := ⟨s.to_, rpFronts N s.to_ s.deep⟩) (by show ¬ 8 < s.to_.length; rw [ho.lto]; omega) (made_perm hpl ho hd) (made_fronts ho)]
          rfl
        obtain ⟨p, hp, -⟩ := made_plan hpl ho hd
        have hp' : sea ns.length (okL ⟨s.to_, rpFronts N s.to_ s.deep⟩ ns) (Brd.to_ ⟨s.to_, rpFronts N s.to_ s.deep⟩).length [] = some p := by
          show sea ns.length _ s.to_.length [] = some p
          rw [ho.lto]; exact hp
        obtain ⟨hR, hl⟩ := sea_right hE hc hp'
        refine ⟨hE, by show (s.to_.length : Int) = N; rw [ho.lto], hc, p, plan_some hE hc hp', hR, ?_⟩
        rw [hl]
        show s.to_.length ≤ 8
        rw [ho.lto]; omega
      · simp only [hd, if_false] at h; cases h
  · have hx : ∃ m ∈ l, mvOk ns.length m = false := by
      apply Classical.byContradiction
      intro hx
      exact hm fun m hm' => by
        cases e : mvOk ns.length m with
        | true => rfl
        | false => exact absurd ⟨m, hm', e⟩ hx
    obtain ⟨m, hm', e⟩ := hx
    obtain ⟨i, hi, e2⟩ := List.getElem_of_mem hm'
    rw [rpE_bad h1 h8 hc (i := i) (m := m) (by rw [List.getElem?_eq_getElem hi, e2]) e] at h
    cases h
set_option maxHeartbeats 16000000 in
theorem exact_walk (n : Int) (A : Option Addr) (c : Nat) (ns : List Int) (M : Option Addr) (cm : Nat) (l : List Mv) (w : World) (hs : SlI w w.heap.size A ns) (hm : SlMv w w.heap.size M l) :
    Calls Try.prog 9 #[.int .i64 n, .slice A ns.length c, .slice M l.length cm] w fun e w' => e = .returned (.bool true) ∧ Below w.heap.size w w' := by
  have HS := Lib.hid hs
  have HM := Lib.hid hm
  have HAv := Lib.hid (alive29_any w)
  clear hs hm
  by_cases h1 : 20 < ns.length
  · have d1 : decide (20 < ns.length) = true := decide_eq_true h1
    have d2 : decide ((20 : Int) < (ns.length : Int)) = true := decide_eq_true (by omega)
    go_enter Try.func9, Try.ntmps9
    go_wp2_with ((go_at_call 29; refine HAv.out.mono ?_; rintro e w1 ⟨rfl, hb1⟩))
    go_ret
    exact ⟨rfl, hb1⟩
  have d1 : decide (20 < ns.length) = false := decide_eq_false h1
  have d2 : decide ((20 : Int) < (ns.length : Int)) = false := decide_eq_false (by omega)
  by_cases h2 : 60 < l.length
  · have d3 : decide (60 < l.length) = true := decide_eq_true h2
    have d4 : decide ((60 : Int) < (l.length : Int)) = true := decide_eq_true (by omega)
    go_enter Try.func9, Try.ntmps9
    go_wp2_with ((go_at_call 29; refine HAv.out.mono ?_; rintro e w1 ⟨rfl, hb1⟩))
    go_ret
    exact ⟨rfl, hb1⟩
  have d3 : decide (60 < l.length) = false := decide_eq_false h2
  have d4 : decide ((60 : Int) < (l.length : Int)) = false := decide_eq_false (by omega)
  have HA : Hid (∀ W, Below w.heap.size w W → Calls Try.prog 11 #[.int .i64 n, .slice A ns.length c, .slice M l.length cm] W fun e w' => brdOut (rpE n ns l) W e w') := fun W hb => hrep_any n A c ns (by omega) M cm l (by omega) W ((HS.out.below hb).more hb.size) (SlS.more (HM.out.below hb) hb.size)
  have HL := Lib.hid (rp_lens n ns l)
  have HE := Lib.hid (fun h => exact_plain (n := n) (ns := ns) (l := l) h)
  obtain ⟨r, hr⟩ : ∃ r, r = rpE n ns l := ⟨_, rfl⟩
  rw [← hr] at HA HL HE
  have hn20 : ns.length ≤ 1000000 := by omega
  clear hr h1 h2 HM
  obtain ⟨b, x⟩ := r
  go_enter Try.func9, Try.ntmps9
  go_upto_region 4 with ((go_at_call 29; refine HAv.out.mono ?_; rintro e w1 ⟨rfl, hb1⟩))
  have HB1 := Lib.hid hb1
  clear hb1 HAv d1 d2 d3 d4
  go_upto_region 5 with ((go_at_call 11; refine (HA.out _ HB1.out).mono ?_; intro e w2 ho; obtain ⟨A1, F1, c1, fc1, rfl, hs2, hp2, hb2⟩ := brd_open ho; clear ho))
  have hba := (Below.refl _ w2).alloc (Nat.le_refl _) (.cells #[.slice A1 b.to_.length c1, .slice F1 b.fronts.length fc1] 26)
  have hbw := HB1.out.trans (hb2.mono HB1.out.size)
  have HX : Hid (_ ∧ _ ∧ _ ∧ _ ∧ _) := ⟨hbw.trans (hba.mono hbw.size), (cell_new rfl rfl rfl : (w2.alloc (.cells #[.slice A1 b.to_.length c1, .slice F1 b.fronts.length fc1] 26)).cell? ⟨w2.heap.size, 0, none⟩ = some (.slice A1 b.to_.length c1)), (cell_new rfl rfl rfl : (w2.alloc (.cells #[.slice A1 b.to_.length c1, .slice F1 b.fronts.length fc1] 26)).cell? ⟨w2.heap.size, 1, none⟩ = some (.slice F1 b.fronts.length fc1)), (hs2.below hba).more hba.size, (hp2.below hba).more hba.size⟩
  refine abs_world (Q := fun W => Code.wp _ _ _ _ W) (F := fun W => Below w.heap.size w W ∧ W.cell? ⟨w2.heap.size, 0, none⟩ = some (.slice A1 b.to_.length c1) ∧ W.cell? ⟨w2.heap.size, 1, none⟩ = some (.slice F1 b.fronts.length fc1) ∧ SlI W W.heap.size A1 b.to_ ∧ SlPr W W.heap.size F1 b.fronts) _ HX.out ?_
  clear HX hba hbw hb2 hs2 hp2 HA HB1
  obtain ⟨pb, hpb⟩ : ∃ pb, pb = w2.heap.size := ⟨_, rfl⟩
  rw [← hpb]
  clear hpb
  rintro W3 ⟨hb3, g0, g1, hs3, hp3⟩
  have HB3 := Lib.hid hb3
  by_cases hx : x = 0
  case neg =>
    have e1 : (x != 0) = true := by simpa using hx
    clear hx HE
    go_wp2
    go_ret
    exact ⟨rfl, HB3.out⟩
  subst hx
  obtain ⟨hE, hln, hcb, p, hP, hR, hp8⟩ := HE.out rfl
  replace hE : brdE b = 0 := hE
  replace hln : (b.to_.length : Int) = n := hln
  replace hP : planE b ns = (p, 0) := hP
  replace hR : rightE b ns p = (true, 0) := hR
  have hfl : b.fronts.length ≤ 4611686018427387904 := Nat.le_trans HL.out.2 (by decide)
  have HG := Lib.hid (fun W (h : Below W3.heap.size W3 W) => And.intro ((bcell h (lt_of_cell g0) _).trans g0) ((bcell h (lt_of_cell g1) _).trans g1))
  have HCk := Lib.hid (rcheck_any A1 F1 c1 fc1 b hfl W3 hs3 hp3)
  have HPl : Hid (∀ W, Below W3.heap.size W3 W → Calls Try.prog 21 #[.agg #[.slice A1 b.to_.length c1, .slice F1 b.fronts.length fc1], .slice A ns.length c] W fun e w' => ∃ A' c', e = .returned (.tuple #[.slice A' p.length c', .int .i64 0]) ∧ rowL w' W.heap.size A' c' p ∧ Below W.heap.size W w') := fun W hb => by
    have hbb := HB3.out.trans (hb.mono HB3.out.size)
    have h := hplan_any A1 F1 c1 fc1 b hfl A c ns hn20 W ((hs3.below hb).more hb.size) ((hp3.below hb).more hb.size) ((HS.out.below hbb).more hbb.size)
    rw [hP] at h
    exact h
  have HRi : Hid (∀ W, Below W3.heap.size W3 W → ∀ A' c', p.length ≤ c' → SlI W W.heap.size A' p → Calls Try.prog 17 #[.agg #[.slice A1 b.to_.length c1, .slice F1 b.fronts.length fc1], .slice A ns.length c, .slice A' p.length c'] W fun e w' => e = .returned (.tuple #[.bool true, .int .i64 0]) ∧ Below W.heap.size W w') := fun W hb A' c' hc' hpp => by
    have hbb := HB3.out.trans (hb.mono HB3.out.size)
    have h := hright_any A1 F1 c1 fc1 b hfl A c ns hn20 A' c' p hc' (Nat.le_trans hp8 (by decide)) W ((hs3.below hb).more hb.size) ((hp3.below hb).more hb.size) ((HS.out.below hbb).more hbb.size) hpp
    rw [hR] at h
    exact h
  rw [hE] at HCk
  have e2 : ((b.to_.length : Int) != n) = false := by simp [hln]
  have e3 : ((b.to_.length : Int) == n) = true := by simp [hln]
  clear hE hcb hP hR hp8 HE HL hs3 hp3 hb3 hfl hln HS
  go_upto_region 9 with ((go_at_call 20; refine HCk.out.mono ?_; rintro e w4 ⟨rfl, hb4⟩; obtain ⟨y0, y1⟩ := HG.out w4 hb4))
  refine abs_world (Q := fun W => Code.wp _ _ _ _ W) (F := fun W => Below W3.heap.size W3 W) _ hb4 ?_
  clear hb4 y0 y1 g0 g1 HCk e2 e3
  intro W5 hb5
  obtain ⟨g0, g1⟩ := HG.out W5 hb5
  have HB5 := Lib.hid hb5
  clear hb5
  go_upto_region 10 with ((go_at_call 21; refine (HPl.out _ HB5.out).mono ?_; rintro e w6 ⟨A6, c6, rfl, hr6, hb6⟩))
  have hb36 := HB5.out.trans (hb6.mono HB5.out.size)
  refine abs_world (Q := fun W => Code.wp _ _ _ _ W) (F := fun W => Below W3.heap.size W3 W ∧ SlI W W.heap.size A6 p) _ ⟨hb36, rowL_sl hr6⟩ ?_
  have hcap := rowL_cap hr6
  clear hr6 hb6 hb36 g0 g1 HPl HB5
  rintro W7 ⟨hb7, hs7⟩
  obtain ⟨g0, g1⟩ := HG.out W7 hb7
  have HRi7 := Lib.hid (HRi.out W7 hb7 A6 c6 hcap hs7)
  have HB7 := Lib.hid hb7
  clear hb7 hs7 HRi
  go_wp2_with ((go_at_call 17; refine HRi7.out.mono ?_; rintro e w8 ⟨rfl, hb8⟩))
  go_ret
  exact ⟨rfl, HB3.out.trans ((HB7.out.trans (hb8.mono HB7.out.size)).mono HB3.out.size)⟩
end Go.Proofs.Ytodjkifcbgmckaa
namespace Go.Proofs.Ytodjkifcbgmckaa
open Go.RowKit Go.Shelf Go.Sort
set_option maxRecDepth 100000

theorem rcables_all (A : Option Addr) (c : Nat) (l : List Int) (w : World) (hs : SlI w w.heap.size A l) :
    Calls Try.prog 30 #[.slice A l.length c] w fun e w' => e = .returned (.bool (cabB l)) ∧ Below w.heap.size w w' := by
  by_cases h4 : 4 < l.length
  · have HF : Hid (cabB l = false) := cab_long h4
    have e4 : decide (4 < l.length) = true := decide_eq_true h4
    have e4' : decide ((4 : Int) < (l.length : Int)) = true := decide_eq_true (by omega)
    clear hs h4
    go_enter Try.func30, Try.ntmps30
    go_wp2
    go_ret
    exact ⟨ret_bool HF.out.symm, Below.refl _ _⟩
  · exact rcables_any A c l (by omega) w hs
theorem cab_len {l : List Int} (h : cabB l = true) : l.length ≤ 4 := by
  rcases Nat.lt_or_ge 4 l.length with h4 | h4
  · rw [cab_long h4] at h; cases h
  · exact h4
theorem right_true {b : Brd} {ns plan : List Int} (h : (rightE b ns plan).2 = 0) (h2 : (rightE b ns plan).1 = true) : (∀ a ∈ plan, -1 ≤ a ∧ a < (ns.length : Int)) ∧ ∀ x, x < plan.length → okP b ns (plan.take (x + 1)) x = true := by
  unfold rightE at h h2
  split at h
  · rename_i hc; exact absurd h hc
  · rename_i hc
    rw [if_neg hc] at h2
    split at h
    · cases h
    · rename_i h4
      rw [if_neg h4] at h2
      have h5 : planOk ns.length b.to_.length plan = true := by
        cases e : planOk ns.length b.to_.length plan with
        | true => rfl
        | false => exact absurd (Or.inr e) h4
      unfold planOk at h5
      rw [Bool.and_eq_true, decide_eq_true_iff, decide_eq_true_iff] at h5
      exact ⟨h5.2, of_decide_eq_true h2⟩
theorem first_plain {b : Brd} {ns plan : List Int} (hE : brdE b = 0) (hc : cabB ns = true) (hl : plan.length = b.to_.length) (h : (rightE b ns plan).2 = 0) (h2 : (rightE b ns plan).1 = true) : ∃ p, planE b ns = (p, 0) ∧ p.length = plan.length ∧ notBehind p plan := by
  obtain ⟨h3, h4⟩ := right_true h h2
  have hf : fitsL ns.length (okL b ns) [] plan := fits_of h3 (fun i hi => by
    rw [List.nil_append]
    unfold okL
    rw [List.length_take, Nat.min_eq_left (by omega), Nat.add_sub_cancel]
    exact h4 i hi)
  obtain ⟨p, hp, hpl, hb⟩ := sea_first hl hf
  rw [List.nil_append] at hp
  exact ⟨p, plan_some hE hc hp, by omega, hb⟩
theorem nb_at : ∀ {p q : List Int} {i : Nat}, notBehind p q → (∀ j, j < i → p.getD j 0 = q.getD j 0) → i < p.length → p.getD i 0 ≠ q.getD i 0 → p.getD i 0 < q.getD i 0
  | [], _, _, _, _, h, _ => absurd h (Nat.not_lt_zero _)
  | _ :: _, [], _, h, _, _, _ => absurd h (fun h => h)
  | a :: p, b :: q, 0, h, _, _, hn => by
    rcases h with h | ⟨h, _⟩
    · exact h
    · exact absurd h hn
  | a :: p, b :: q, i + 1, h, he, hl, hn => by
    have e0 : a = b := he 0 (by omega)
    rcases h with h | ⟨_, h⟩
    · omega
    · exact nb_at (p := p) (q := q) h (fun j hj => he (j + 1) (by omega)) (by simpa using hl) hn
set_option maxHeartbeats 16000000 in
theorem first_walk (A F : Option Addr) (c fc : Nat) (b : Brd) (hf : b.fronts.length ≤ maxLen) (An : Option Addr) (cn : Nat) (ns : List Int) (Ap : Option Addr) (cp : Nat) (plan : List Int) (hpc : plan.length ≤ cp) (w : World) (hs : SlI w w.heap.size A b.to_) (hp : SlPr w w.heap.size F b.fronts) (hns : SlI w w.heap.size An ns) (hpn : SlI w w.heap.size Ap plan) :
    Calls Try.prog 6 #[.agg #[.slice A b.to_.length c, .slice F b.fronts.length fc], .slice An ns.length cn, .slice Ap plan.length cp] w fun e w' => e = .returned (.bool true) ∧ Below w.heap.size w w' := by
  have hb0 := (Below.refl w.heap.size w).alloc (Nat.le_refl _) (.cells #[.slice A b.to_.length c, .slice F b.fronts.length fc] 26)
  have g0 : (w.alloc (.cells #[.slice A b.to_.length c, .slice F b.fronts.length fc] 26)).cell? ⟨w.heap.size, 0, none⟩ = some (.slice A b.to_.length c) := cell_new rfl rfl rfl
  have g1 : (w.alloc (.cells #[.slice A b.to_.length c, .slice F b.fronts.length fc] 26)).cell? ⟨w.heap.size, 1, none⟩ = some (.slice F b.fronts.length fc) := cell_new rfl rfl rfl
  have HB0 := Lib.hid hb0
  have HG := Lib.hid (fun W (h : Below (w.alloc (.cells #[.slice A b.to_.length c, .slice F b.fronts.length fc] 26)).heap.size (w.alloc (.cells #[.slice A b.to_.length c, .slice F b.fronts.length fc] 26)) W) => And.intro ((bcell h (lt_of_cell g0) _).trans g0) ((bcell h (lt_of_cell g1) _).trans g1))
  have HAv := Lib.hid (alive29_any (w.alloc (.cells #[.slice A b.to_.length c, .slice F b.fronts.length fc] 26)))
  have HS := Lib.hid hs
  have HPr := Lib.hid hp
  have HNs := Lib.hid hns
  have HPn := Lib.hid hpn
  have hf' : b.fronts.length ≤ 9223372036854775807 := by unfold maxLen at hf; omega
  clear hs hp hns hpn hb0 hf
  go_enter Try.func6, Try.ntmps6
  go_upto_region 2 with ((go_at_call 29; refine HAv.out.mono ?_; rintro e w1 ⟨rfl, hb1⟩))
  obtain ⟨y0, y1⟩ := HG.out w1 hb1
  have HX := Lib.hid (And.intro (HB0.out.trans (hb1.mono HB0.out.size)) (And.intro y0 y1))
  refine abs_world (Q := fun W => Code.wp _ _ _ _ W) (F := fun W => Below w.heap.size w W ∧ W.cell? ⟨w.heap.size, 0, none⟩ = some (.slice A b.to_.length c) ∧ W.cell? ⟨w.heap.size, 1, none⟩ = some (.slice F b.fronts.length fc)) _ HX.out ?_
  clear HX y0 y1 hb1 HAv HG g0 g1 HB0
  rintro W2 ⟨hb2, g0, g1⟩
  have HB2 := Lib.hid hb2
  have HG := Lib.hid (fun W (h : Below W2.heap.size W2 W) => And.intro ((bcell h (lt_of_cell g0) _).trans g0) ((bcell h (lt_of_cell g1) _).trans g1))
  have HSl := Lib.hid (fun W (h : Below W2.heap.size W2 W) => (And.intro ((HS.out.below (hb2.trans (h.mono hb2.size))).more (hb2.trans (h.mono hb2.size)).size) (And.intro ((HPr.out.below (hb2.trans (h.mono hb2.size))).more (hb2.trans (h.mono hb2.size)).size) (And.intro ((HNs.out.below (hb2.trans (h.mono hb2.size))).more (hb2.trans (h.mono hb2.size)).size) ((HPn.out.below (hb2.trans (h.mono hb2.size))).more (hb2.trans (h.mono hb2.size)).size)))))
  have HCk := Lib.hid (rcheck_big A F c fc b hf' W2 (HSl.out W2 (Below.refl _ _)).1 (HSl.out W2 (Below.refl _ _)).2.1)
  have HCb := Lib.hid (fun W hb => rcables_all An cn ns W (HSl.out W hb).2.2.1)
  clear hb2 HS HPr HNs HPn
  by_cases hE : brdE b = 0
  case neg =>
    have e1 : (brdE b != 0) = true := by simpa using hE
    clear hE
    go_wp2_with ((go_at_call 20; refine HCk.out.mono ?_; rintro e w3 ⟨rfl, hb3⟩))
    go_ret
    exact ⟨rfl, HB2.out.trans (hb3.mono HB2.out.size)⟩
  rw [hE] at HCk
  have HE := Lib.hid hE
  clear hE
  cases hcb : cabB ns with
  | false =>
    rw [hcb] at HCb
    clear hcb
    go_wp2_with (first
      | (go_at_call 20; refine HCk.out.mono ?_; rintro e w3 ⟨rfl, hb3⟩)
      | (go_at_call 30; refine (HCb.out _ hb3).mono ?_; rintro e w4 ⟨rfl, hb4⟩))
    go_ret
    exact ⟨rfl, HB2.out.trans ((hb3.trans (hb4.mono hb3.size)).mono HB2.out.size)⟩
  | true =>
    rw [hcb] at HCb
    by_cases hlen : plan.length = b.to_.length
    case neg =>
      have e1 : ((plan.length : Int) != (b.to_.length : Int)) = true := by simp; omega
      have e2 : (plan.length != b.to_.length) = true := by simp; omega
      have e3 : ((plan.length : Int) == (b.to_.length : Int)) = false := beq_eq_false_iff_ne.2 (by omega)
      have e4 : (plan.length == b.to_.length) = false := beq_eq_false_iff_ne.2 hlen
      clear hcb hlen
      go_wp2_with (first
        | (go_at_call 20; refine HCk.out.mono ?_; rintro e w3 ⟨rfl, hb3⟩)
        | (go_at_call 30; refine (HCb.out _ hb3).mono ?_; rintro e w4 ⟨rfl, hb4⟩; obtain ⟨y0, y1⟩ := HG.out w4 (hb3.trans (hb4.mono hb3.size))))
      go_ret
      exact ⟨rfl, HB2.out.trans ((hb3.trans (hb4.mono hb3.size)).mono HB2.out.size)⟩
    have e1 : ((plan.length : Int) != (b.to_.length : Int)) = false := by simp; omega
    have e2 : (plan.length != b.to_.length) = false := by simp; omega
    have e3 : ((plan.length : Int) == (b.to_.length : Int)) = true := beq_iff_eq.2 (by omega)
    have e4 : (plan.length == b.to_.length) = true := beq_iff_eq.2 hlen
    obtain ⟨k8, kp, kf⟩ := brdE_zero HE.out
    have hfl : b.fronts.length ≤ 4611686018427387904 := Nat.le_trans (fr_len k8 kf) (by decide)
    have hns4 := cab_len hcb
    have HRi := Lib.hid (fun W hb => hright_any A F c fc b hfl An cn ns (by omega) Ap cp plan hpc (by omega) W (HSl.out W hb).1 (HSl.out W hb).2.1 (HSl.out W hb).2.2.1 (HSl.out W hb).2.2.2)
    have HPl := Lib.hid (fun W hb => hplan_any A F c fc b hfl An cn ns (by omega) W (HSl.out W hb).1 (HSl.out W hb).2.1 (HSl.out W hb).2.2.1)
    have HFp := Lib.hid (fun h h2 => first_plain (plan := plan) HE.out hcb hlen h h2)
    have hp8 : plan.length ≤ 8 := by omega
    clear hcb kp kf hfl hns4 k8 hf' hlen
    go_upto_region 4 with (first
      | (go_at_call 20; refine HCk.out.mono ?_; rintro e w3 ⟨rfl, hb3⟩)
      | (go_at_call 30; refine (HCb.out _ hb3).mono ?_; rintro e w4 ⟨rfl, hb4⟩; obtain ⟨y0, y1⟩ := HG.out w4 (hb3.trans (hb4.mono hb3.size))))
    refine abs_world (Q := fun W => Code.wp _ _ _ _ W) (F := fun W => Below W2.heap.size W2 W) _ (hb3.trans (hb4.mono hb3.size)) ?_
    clear y0 y1 hb3 hb4 HCk HCb g0 g1 e1 e2 e3 e4 HE
    intro W4 hb4
    obtain ⟨g0, g1⟩ := HG.out W4 hb4
    have HRi4 := Lib.hid (HRi.out W4 hb4)
    have HB4 := Lib.hid hb4
    have HBw4 := Lib.hid (HB2.out.trans (hb4.mono HB2.out.size))
    obtain ⟨r, hr⟩ : ∃ r, r = rightE b ns plan := ⟨_, rfl⟩
    rw [← hr] at HRi4 HFp
    obtain ⟨q, x⟩ := r
    clear hr hb4 HRi
    by_cases hx : x = 0
    case neg =>
      have d1 : (x != 0) = true := by simpa using hx
      clear hx HFp
      go_wp2_with ((go_at_call 17; refine HRi4.out.mono ?_; rintro e w5 ⟨rfl, hb5⟩))
      go_ret
      exact ⟨rfl, HBw4.out.trans (hb5.mono HBw4.out.size)⟩
    subst hx
    cases q with
    | false =>
      clear HFp
      go_wp2_with ((go_at_call 17; refine HRi4.out.mono ?_; rintro e w5 ⟨rfl, hb5⟩))
      go_ret
      exact ⟨rfl, HBw4.out.trans (hb5.mono HBw4.out.size)⟩
    | true =>
      obtain ⟨p, hP, hpl, hnb⟩ := HFp.out rfl rfl
      have HP := Lib.hid hP
      have HNb := Lib.hid hnb
      have HPl' : Hid (∀ W, Below W2.heap.size W2 W → Calls Try.prog 21 #[.agg #[.slice A b.to_.length c, .slice F b.fronts.length fc], .slice An ns.length cn] W fun e w' => ∃ A' c', e = .returned (.tuple #[.slice A' p.length c', .int .i64 0]) ∧ rowL w' W.heap.size A' c' p ∧ Below W.heap.size W w') := fun W hb => by
        have h := HPl.out W hb
        rw [hP] at h
        exact h
      have HLn := Lib.hid hpl
      rw [hpl] at HPl'
      clear hP hnb HPl HFp hpl
      go_upto_region 7 with ((go_at_call 17; refine HRi4.out.mono ?_; rintro e w5 ⟨rfl, hb5⟩))
      have hb25 := HB4.out.trans (hb5.mono HB4.out.size)
      obtain ⟨y0, y1⟩ := HG.out w5 hb25
      have HB5 := Lib.hid hb25
      clear hb5 hb25 HRi4 g0 g1
      go_upto_region 8 with ((go_at_call 21; refine (HPl'.out _ HB5.out).mono ?_; rintro e w6 ⟨A6, c6, rfl, hr6, hb6⟩))
      have hb26 := HB5.out.trans (hb6.mono HB5.out.size)
      have hs6 := rowL_sl hr6
      have HS6 := Lib.hid hs6
      have HB6 := Lib.hid hb26
      have HPn6 := Lib.hid (HSl.out w6 hb26).2.2.2
      clear hr6 hb6 hb26 hs6 HPl' y0 y1 HG HSl HB5
      have e1 : ((plan.length : Int) != (plan.length : Int)) = false := by simp
      have e2 : (plan.length != plan.length) = false := by simp
      go_upto_region 10 with fail
      go_wp2
      go_loopw [12] (fun s12 wr => ∃ i : Nat, i ≤ plan.length ∧ s12 = .int .i64 (i : Int) ∧ Hid (∀ j, j < i → p.getD j 0 = plan.getD j 0) ∧ Hid (Below w6.heap.size w6 wr)) (fun s12 _ => plan.length - (intOf s12).toNat)
      case atStart => exact ⟨0, Nat.zero_le _, rfl, fun j hj => absurd hj (Nat.not_lt_zero j), Below.refl _ _⟩
      case round =>
        obtain ⟨i, hi, rfl, HT, HB⟩ := hrel
        have HBw := Lib.hid (HB2.out.trans ((HB6.out.trans (HB.out.mono HB6.out.size)).mono HB2.out.size))
        by_cases hlt : i < plan.length
        case pos =>
          obtain ⟨ba, oa, hA6, hBa, ha⟩ := sl_getD HS6.out (k := i) (by rw [HLn.out]; exact hlt)
          obtain ⟨bp, op, hAp, hBp, hpp⟩ := sl_getD HPn6.out hlt
          subst hA6 hAp
          have c0 := (bcell HB.out hBa _).trans (ha i (by rw [HLn.out]; exact hlt))
          have c1 := (bcell HB.out hBp _).trans (hpp i hlt)
          have hnx : p.getD i 0 ≠ plan.getD i 0 → p.getD i 0 < plan.getD i 0 := nb_at HNb.out HT.out (by rw [HLn.out]; exact hlt)
          obtain ⟨u, hu⟩ : ∃ u, u = p.getD i 0 := ⟨_, rfl⟩
          obtain ⟨v, hv⟩ : ∃ v, v = plan.getD i 0 := ⟨_, rfl⟩
          rw [← hu] at c0
          rw [← hv] at c1
          rw [← hu, ← hv] at hnx
          have HT2 : Hid (u = v → ∀ j, j < i + 1 → p.getD j 0 = plan.getD j 0) := fun e j hj => by
            by_cases ej : j = i
            · subst ej; rw [← hu, ← hv]; exact e
            · exact HT.out j (by omega)
          have hiI : (i : Int) < (plan.length : Int) := by omega
          have hi0 : (0 : Int) ≤ (i : Int) := by omega
          clear hBa hBp ha hpp hu hv HT
          by_cases huv : u = v
          · have HT3 := Lib.hid (HT2.out huv)
            have d1 : (u != v) = false := by simp [huv]
            clear hnx HT2 huv
            go_upto_region 13 with fail
            go_quiet (fail)
            go_wp2
            go_roundw
            case rel => exact ⟨i + 1, by omega, by go_num, HT3.out, below_drewP HB.out _⟩
            case measure => simp [intOf]; omega
          · have hltv := hnx huv
            have d1 : (u != v) = true := by simpa using huv
            have d2 : decide (u < v) = true := decide_eq_true hltv
            clear hnx HT2 huv hltv
            go_upto_region 13 with fail
            go_quiet (fail)
            go_upto_region 14 with fail
            go_quiet (fail)
            go_wp2
            go_ret
            exact ⟨rfl, below_drewP (below_drewP HBw.out _) _⟩
        case neg =>
          clear HT
          go_wp2
          go_ret
          exact ⟨rfl, HBw.out⟩
end Go.Proofs.Ytodjkifcbgmckaa
