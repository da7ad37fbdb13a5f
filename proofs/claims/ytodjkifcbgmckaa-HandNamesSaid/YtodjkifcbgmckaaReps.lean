/- HandReplays, walked: both replays answer the same. -/
import Derived.Test.YtodjkifcbgmckaaHrrep
import Derived.Test.YtodjkifcbgmckaaHsm
namespace Go.Proofs.Ytodjkifcbgmckaa
open Go.RowKit Go.Shelf
set_option maxRecDepth 100000

/-- What a replay hands back, as slices. -/
theorem brd_open {r : Brd × Int} {w w' : World} {e : Ending} (h : brdOut r w e w') : ∃ A F c fc, e = .returned (.tuple #[.agg #[.slice A r.1.to_.length c, .slice F r.1.fronts.length fc], .int .i64 r.2]) ∧ SlI w' w'.heap.size A r.1.to_ ∧ SlPr w' w'.heap.size F r.1.fronts ∧ Below w.heap.size w w' := by
  obtain ⟨v, f, rfl, ho, hb⟩ := h
  have h1 : w'.ownsRow w.heap.size 3 1 v r.1.to_.length (intV r.1.to_) := ho.head
  have h2 : w'.ownsRow w.heap.size 66 2 f r.1.fronts.length (prCells r.1.fronts) := ho.tail.head
  obtain ⟨A, c, rfl, -⟩ := own_slice h1
  obtain ⟨F, fc, rfl, -⟩ := own_slice h2
  exact ⟨A, F, c, fc, rfl, (own_sli h1).2, (rowP_sl (l := r.1.fronts) h2).2, hb⟩
theorem run_keep {n k : Nat} {ns : List Int} : ∀ (l : List Mv) (s t : RpS), RpOk n k s → (∀ m ∈ l, mvOk k m = true) → rpRun n ns s l = some t → RpOk n k t
  | [], s, t, h, _, e => by cases e; exact h
  | m :: l, s, t, h, hm, e => by
    unfold rpRun at e
    cases hs : rpStep n ns s m with
    | none => rw [hs] at e; cases e
    | some u =>
      rw [hs] at e
      exact run_keep l u t (h.step (hm m List.mem_cons_self) hs) (fun x hx => hm x (List.mem_cons_of_mem _ hx)) e
theorem rp_lens (n : Int) (ns : List Int) (l : List Mv) : (rpE n ns l).1.to_.length ≤ 8 ∧ (rpE n ns l).1.fronts.length ≤ 64 := by
  by_cases h : n < 0 ∨ 8 < n ∨ cabB ns = false
  · rw [rpE_arg h]; simp
  · have h0 : ¬ n < 0 := fun h1 => h (Or.inl h1)
    have h8 : ¬ 8 < n := fun h1 => h (Or.inr (Or.inl h1))
    have hc : cabB ns = true := by
      cases e : cabB ns with
      | true => rfl
      | false => exact absurd (Or.inr (Or.inr e)) h
    obtain ⟨N, rfl⟩ : ∃ N : Nat, n = (N : Int) := ⟨n.toNat, by omega⟩
    by_cases hm : ∀ m ∈ l, mvOk ns.length m = true
    · rw [rpE_run (by omega) hc hm]
      cases hr : rpRun N ns (rp0 N ns.length) l with
      | none => simp
      | some s =>
        have hk := run_keep l _ _ (RpOk.new N ns.length) hm hr
        by_cases hd : s.done = N
        · simp only [hd, if_true]
          rw [hk.lto, fr_all]
          have h1 := frA_len N s.to_ s.deep N
          have h2 : N * N ≤ 8 * 8 := Nat.mul_le_mul (by omega) (by omega)
          exact ⟨by omega, by omega⟩
        · simp [hd]
    · have hx : ∃ m ∈ l, mvOk ns.length m = false := by
        apply Classical.byContradiction
        intro hx
        exact hm fun m hm' => by
          cases e : mvOk ns.length m with
          | true => rfl
          | false => exact absurd ⟨m, hm', e⟩ hx
      obtain ⟨m, hm', e⟩ := hx
      obtain ⟨i, hi, e2⟩ := List.getElem_of_mem hm'
      rw [rpE_bad h0 h8 hc (i := i) (m := m) (by rw [List.getElem?_eq_getElem hi, e2]) e]
      simp
set_option maxHeartbeats 8000000 in
theorem reps_walk (n : Int) (A : Option Addr) (c : Nat) (ns : List Int) (M : Option Addr) (cm : Nat) (l : List Mv) (w : World) (hs : SlI w w.heap.size A ns) (hm : SlMv w w.heap.size M l) :
    Calls Try.prog 3 #[.int .i64 n, .slice A ns.length c, .slice M l.length cm] w fun e w' => e = .returned (.bool true) ∧ Below w.heap.size w w' := by
  have HS := Lib.hid hs
  have HM := Lib.hid hm
  clear hs hm
  by_cases h1 : 20 < ns.length
  · have d1 : decide (20 < ns.length) = true := decide_eq_true h1
    have d2 : decide ((20 : Int) < (ns.length : Int)) = true := decide_eq_true (by omega)
    go_enter Try.func3, Try.ntmps3
    go_wp2
    go_ret
    exact ⟨rfl, Below.refl _ _⟩
  have d1 : decide (20 < ns.length) = false := decide_eq_false h1
  have d2 : decide ((20 : Int) < (ns.length : Int)) = false := decide_eq_false (by omega)
  by_cases h2 : 60 < l.length
  · have d3 : decide (60 < l.length) = true := decide_eq_true h2
    have d4 : decide ((60 : Int) < (l.length : Int)) = true := decide_eq_true (by omega)
    go_enter Try.func3, Try.ntmps3
    go_wp2
    go_ret
    exact ⟨rfl, Below.refl _ _⟩
  have d3 : decide (60 < l.length) = false := decide_eq_false h2
  have d4 : decide ((60 : Int) < (l.length : Int)) = false := decide_eq_false (by omega)
  have HA := Lib.hid (hrep_any n A c ns (by omega) M cm l (by omega) w HS.out HM.out)
  have HB : Hid (∀ W, Below w.heap.size w W → Calls Try.prog 12 #[.int .i64 n, .slice A ns.length c, .slice M l.length cm] W fun e w' => brdOut (rpE n ns l) W e w') := fun W hb => hrrep_any n A c ns (by omega) M cm l (by omega) W ((HS.out.below hb).more hb.size) (SlS.more (HM.out.below hb) hb.size)
  have HL := Lib.hid (rp_lens n ns l)
  obtain ⟨r, hr⟩ : ∃ r, r = rpE n ns l := ⟨_, rfl⟩
  rw [← hr] at HA HB HL
  clear hr h1 h2 HS HM
  obtain ⟨⟨to_, fr⟩, x⟩ := r
  go_enter Try.func3, Try.ntmps3
  go_upto_region 4 with ((go_at_call 11; refine HA.out.mono ?_; intro e w1 ho; obtain ⟨A1, F1, c1, fc1, rfl, hs1, hp1, hb1⟩ := brd_open ho; clear ho))
  have HS1 := Lib.hid hs1
  have HP1 := Lib.hid hp1
  have HB1 := Lib.hid (hb1.alloc hb1.size (.cells #[.slice A1 to_.length c1, .slice F1 fr.length fc1] 26))
  have HBa := Lib.hid ((Below.refl _ w1).alloc (Nat.le_refl _) (.cells #[.slice A1 to_.length c1, .slice F1 fr.length fc1] 26))
  clear hs1 hp1 hb1 HA d1 d2 d3 d4
  go_upto_region 5 with ((go_at_call 12; refine (HB.out _ HB1.out).mono ?_; intro e w2 ho; obtain ⟨A2, F2, c2, fc2, rfl, hs2, hp2, hb2⟩ := brd_open ho; clear ho))
  have HS2 := Lib.hid hs2
  have HP2 := Lib.hid hp2
  have HB2 := Lib.hid hb2
  have g0 : (w2.alloc (.cells #[.slice A2 to_.length c2, .slice F2 fr.length fc2] 26)).cell? ⟨w1.heap.size, 0, none⟩ = some (.slice A1 to_.length c1) := cell_al ((bcell hb2 (by simp) _).trans (cell_new rfl rfl rfl)) _
  have g1 : (w2.alloc (.cells #[.slice A2 to_.length c2, .slice F2 fr.length fc2] 26)).cell? ⟨w1.heap.size, 1, none⟩ = some (.slice F1 fr.length fc1) := cell_al ((bcell hb2 (by simp) _).trans (cell_new rfl rfl rfl)) _
  have HC : Hid (Below (w1.alloc (.cells #[.slice A1 to_.length c1, .slice F1 fr.length fc1] 26)).heap.size (w1.alloc (.cells #[.slice A1 to_.length c1, .slice F1 fr.length fc1] 26)) (w2.alloc (.cells #[.slice A2 to_.length c2, .slice F2 fr.length fc2] 26))) := hb2.alloc hb2.size _
  have HD : Hid (Below w2.heap.size w2 (w2.alloc (.cells #[.slice A2 to_.length c2, .slice F2 fr.length fc2] 26))) := (Below.refl _ w2).alloc (Nat.le_refl _) _
  have HE : Hid (Below w.heap.size w (w2.alloc (.cells #[.slice A2 to_.length c2, .slice F2 fr.length fc2] 26))) := HB1.out.trans (HC.out.mono HB1.out.size)
  have HF : Hid (Below w1.heap.size w1 (w2.alloc (.cells #[.slice A2 to_.length c2, .slice F2 fr.length fc2] 26))) := HBa.out.trans (HC.out.mono HBa.out.size)
  have HG := Lib.hid (rsame29_any A1 A2 F1 F2 c1 c2 fc1 fc2 to_ fr (Nat.le_trans HL.out.1 (by decide)) (Nat.le_trans HL.out.2 (by decide)) (w2.alloc (.cells #[.slice A2 to_.length c2, .slice F2 fr.length fc2] 26)) ((HS1.out.below HF.out).more HF.out.size) ((HS2.out.below HD.out).more HD.out.size) ((HP1.out.below HF.out).more HF.out.size) ((HP2.out.below HD.out).more HD.out.size))
  clear hs2 hp2 hb2 HS1 HP1 HB1 HBa HS2 HP2 HB2 HB HC HD HF HL
  go_wp2_with ((go_at_call 13; refine HG.out.mono ?_; rintro e w3 ⟨rfl, hb3⟩))
  go_ret
  exact ⟨by simp, HE.out.trans (hb3.mono HE.out.size)⟩
end Go.Proofs.Ytodjkifcbgmckaa
