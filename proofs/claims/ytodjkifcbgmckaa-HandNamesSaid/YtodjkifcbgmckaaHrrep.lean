/- Layer 29: the reference's Replay, walked. -/
import Derived.Test.YtodjkifcbgmckaaHrep
import Derived.BigQuiet
namespace Go.Proofs.Ytodjkifcbgmckaa
open Go.RowKit Go.Shelf Go.Sort
set_option maxRecDepth 100000

theorem rrep_close {W : World} {tmps : Array Value} {v f : Value} {x : Int} {b : Nat} {R : Ending → World → Prop} (c0 : W.cell? ⟨b, 0, none⟩ = some v) (c1 : W.cell? ⟨b, 1, none⟩ = some f) (h6 : tmps[6]?.getD undef = .pointer (some ⟨b, 0, none⟩)) (h7 : tmps[7]?.getD undef = .int .i64 x) (hR : R (.returned (.tuple #[.agg #[v, f], .int .i64 x])) W) :
    bodyPost Try.prog Try.f12 R .ret { tmps := tmps, defers := [] } W := by
  refine bodyPost_ret (v := .tuple #[.agg #[v, f], .int .i64 x]) ?_ rfl hR
  simp [results, Try.results12, go_sem, h6, h7, c0, c1]
theorem rq_at {n k : Nat} {s : RpS} (h : RpOk n k s) {a : Nat} (ha : a < k) : (s.on.map natL)[a]? = some (natL (s.on.getD a [])) := by
  have hl : a < s.on.length := by rw [h.ons]; exact ha
  rw [List.getElem?_map, List.getElem?_eq_getElem hl, List.getD_eq_getElem?_getD, List.getElem?_eq_getElem hl]
  rfl
theorem rq_slip {s : RpS} {a : Nat} : (s.on.map natL).set a (natL (s.on.getD a []) ++ [(s.left : Int)]) = (s.on.set a (s.on.getD a [] ++ [s.left])).map natL := by
  rw [List.map_set]
  congr 1
  unfold natL
  rw [List.map_append]
  rfl
theorem rq_take {s : RpS} {a : Nat} {r : List Nat} : (s.on.map natL).set a (natL r) = (s.on.set a r).map natL := by rw [List.map_set]
/-- What holds at a round of the reference's replay. -/
structure RrI (W1 : World) (g tb db k n : Nat) (s : RpS) (vs : List (Value × List Int)) (X : List Own) (W : World) : Prop where
  qx : QX W1.heap.size g k vs (rowN tb n s.to_ :: rowN db n s.deep :: X) W
  rd : vs.map Prod.snd = s.on.map natL
  lo : Below W1.heap.size W1 W
theorem RrI.to {W1 W W' : World} {g tb db k n : Nat} {s : RpS} {vs : List (Value × List Int)} {X : List Own} (h : RrI W1 g tb db k n s vs X W) (hb : Below W.heap.size W W') : RrI W1 g tb db k n s vs X W' := ⟨h.qx.to hb, h.rd, h.lo.trans (hb.mono h.lo.size)⟩
theorem rr_new (k n : Nat) : (List.replicate k ((Value.slice none 0 0, []) : Value × List Int)).map Prod.snd = (rp0 n k).on.map natL := by
  unfold rp0
  rw [List.map_replicate, List.map_replicate]
  rfl
theorem rr_two {w2 W w3 w4 : World} {k n : Nat} (hq : QX w2.heap.size w2.heap.size k (List.replicate k (.slice none 0 0, [])) [] W) (hb : Below w2.heap.size w2 W) {tb db : Nat} (e1 : tb = W.heap.size) (e2 : db = w3.heap.size) (hr1 : (rowN tb n (List.replicate n 0)).lies w3 W.heap.size) (hb1 : Below W.heap.size W w3) (hr2 : (rowN db n (List.replicate n 0)).lies w4 w3.heap.size) (hb2 : Below w3.heap.size w3 w4) :
    RrI w2 w2.heap.size db tb k n (rp0 n k) (List.replicate k (.slice none 0 0, [])) [] w4 ∧ RrI w2 w2.heap.size tb db k n (rp0 n k) (List.replicate k (.slice none 0 0, [])) [] w4 := by
  subst e1 e2
  have h1 := (hq.add hb1 hb.size hr1).add hb2 (Nat.le_trans hb.size hb1.size) hr2
  have h2 := (hb.trans (hb1.mono hb.size)).trans (hb2.mono (Nat.le_trans hb.size hb1.size))
  exact ⟨⟨h1, rr_new k n, h2⟩, ⟨h1.swap, rr_new k n, h2⟩⟩
theorem RrI.fr {W1 W : World} {g tb db k n : Nat} {s : RpS} {vs : List (Value × List Int)} (h : RrI W1 g tb db k n s vs [] W) : FrI W1 tb db W.heap.size n s.to_ s.deep (.slice none 0 0) [] (W.alloc (.cells #[.slice (some ⟨tb, 0, none⟩) n n, .slice none 0 0] 26)) :=
  ⟨(h.qx.add ((Below.refl _ W).alloc (Nat.le_refl _) _) h.lo.size (box_new W (.slice (some ⟨tb, 0, none⟩) n n) (.slice none 0 0))).own.none 66 2, h.lo.alloc h.lo.size _⟩

set_option maxHeartbeats 64000000 in
theorem hrrep_any (n : Int) (A : Option Addr) (c : Nat) (ns : List Int) (hn : ns.length ≤ 1000000) (M : Option Addr) (cm : Nat) (l : List Mv) (hl : l.length ≤ 1000000) (w : World) (hs : SlI w w.heap.size A ns) (hm : SlMv w w.heap.size M l) :
    Calls Try.prog 12 #[.int .i64 n, .slice A ns.length c, .slice M l.length cm] w fun e w' => brdOut (rpE n ns l) w e w' := by
  have HR1 := Lib.hid (RsB.new w)
  have HS := Lib.hid hs
  have HM := Lib.hid hm
  clear hs hm
  go_enter Try.func12, Try.ntmps12
  go_upto_region 1 with fail
  refine abs_world (Q := fun W => Code.wp _ _ _ _ W) (F := RsB w) _ HR1.out ?_
  clear HR1
  intro W0 hR1
  have HR1 := Lib.hid hR1
  clear hR1
  by_cases h0 : n < 0
  · have e1 : decide (n < 0) = true := decide_eq_true h0
    have HF : Hid (rpE n ns l = (⟨[], []⟩, 2)) := rpE_arg (Or.inl h0)
    clear h0
    obtain ⟨r0, r1⟩ : _ ∧ _ := ⟨HR1.out.c0, HR1.out.c1⟩
    have rf := HR1.out.fz
    have hlt' := lt_of_cell r0
    have HP := Lib.hid (HR1.out.put (.slice none 0 0) (.slice none 0 0))
    have HO := Lib.hid (HR1.out.stop HF.out)
    clear HR1 HF 
    go_wp2
    exact rrep_close HP.out.1 HP.out.2.1 rfl rfl HO.out
  have e1 : decide (n < 0) = false := decide_eq_false h0
  by_cases h8 : 8 < n
  · have e2 : decide (8 < n) = true := decide_eq_true h8
    have HF : Hid (rpE n ns l = (⟨[], []⟩, 2)) := rpE_arg (Or.inr (Or.inl h8))
    clear h0 h8
    obtain ⟨r0, r1⟩ : _ ∧ _ := ⟨HR1.out.c0, HR1.out.c1⟩
    have rf := HR1.out.fz
    have hlt' := lt_of_cell r0
    have HP := Lib.hid (HR1.out.put (.slice none 0 0) (.slice none 0 0))
    have HO := Lib.hid (HR1.out.stop HF.out)
    clear HR1 HF 
    go_wp2
    exact rrep_close HP.out.1 HP.out.2.1 rfl rfl HO.out
  have e2 : decide (8 < n) = false := decide_eq_false h8
  have HC : Hid (∀ W, Below w.heap.size w W → Calls Try.prog 30 #[.slice A ns.length c] W fun e w' => e = .returned (.bool (cabB ns)) ∧ Below W.heap.size W w') := fun W hb => rcables_any A c ns hn W ((HS.out.below hb).more hb.size)
  cases hcb : cabB ns with
  | false =>
    have HF : Hid (rpE n ns l = (⟨[], []⟩, 2)) := rpE_arg (Or.inr (Or.inr hcb))
    rw [hcb] at HC
    clear h0 h8 hcb
    go_upto_region 2 with ((go_at_call 30; refine (HC.out _ HR1.out.lo).mono ?_; rintro e w2 ⟨rfl, hb2⟩))
    have HR2 := Lib.hid (HR1.out.to hb2)
    clear hb2 HR1 HC
    obtain ⟨r0, r1⟩ : _ ∧ _ := ⟨HR2.out.c0, HR2.out.c1⟩
    have rf := HR2.out.fz
    have hlt' := lt_of_cell r0
    have HP := Lib.hid (HR2.out.put (.slice none 0 0) (.slice none 0 0))
    have HO := Lib.hid (HR2.out.stop HF.out)
    clear HR2 HF 
    go_wp2
    exact rrep_close HP.out.1 HP.out.2.1 rfl rfl HO.out
  | true =>
    rw [hcb] at HC
    obtain ⟨N, rfl⟩ : ∃ N : Nat, n = (N : Int) := ⟨n.toNat, by omega⟩
    have hN : N ≤ 8 := by omega
    obtain ⟨k, hk⟩ : ∃ k, k = ns.length := ⟨_, rfl⟩
    have hk4 : k ≤ 1000000 := by omega
    have HBad : Hid (∀ (i : Nat) (m : Mv), l[i]? = some m → mvOk k m = false → rpE (N : Int) ns l = (⟨[], []⟩, 8)) := fun i m hi hm => by subst hk; exact rpE_bad h0 h8 hcb hi hm
    have HRun : Hid ((∀ m ∈ l, mvOk k m = true) → rpE (N : Int) ns l = match rpRun N ns (rp0 N k) l with
      | none => (⟨[], []⟩, 36)
      | some s => if s.done = N then (⟨s.to_, rpFronts N s.to_ s.deep⟩, 0) else (⟨[], []⟩, 36)) := fun h => by subst hk; exact rpE_run hN hcb h
    have HKn := Lib.hid hk
    rw [← hk] at HC ⊢
    clear h0 h8 hcb hk hn
    go_upto_region 3 with ((go_at_call 30; refine (HC.out _ HR1.out.lo).mono ?_; rintro e W1 ⟨rfl, hb2⟩))
    have HR := Lib.hid (HR1.out.to hb2)
    clear hb2 HR1 HC e1 e2
    go_wp2
    go_loopw [8] (fun s8 wr => ∃ i : Nat, i ≤ l.length ∧ s8 = .int .i64 (i : Int) ∧ Hid (mvTo k l i) ∧ Hid (Below W1.heap.size W1 wr)) (fun s8 _ => l.length - (intOf s8).toNat)
    case atStart => exact ⟨0, Nat.zero_le _, rfl, mvTo.zero _ _, Below.refl _ _⟩
    case round =>
      obtain ⟨i, hi, rfl, HT, HB⟩ := hrel
      by_cases hlt : i < l.length
      case pos =>
        obtain ⟨b, off, m, hA, hBb, him, q0, q1⟩ := HM.out.at_ hlt
        subst hA
        have hb' := HR.out.lo.trans (HB.out.mono HR.out.lo.size)
        have c0 := (bcell hb' hBb _).trans q0
        have c1 := (bcell hb' hBb _).trans q1
        have HI := Lib.hid him
        clear q0 q1 hb' hBb him
        by_cases hok : mvOk k m = true
        case pos =>
          have HT2 := Lib.hid (HT.out.next HI.out hok)
          have hmk : -1 ≤ m.nd ∧ m.nd < (k : Int) ∧ (m.slip = true → 0 ≤ m.nd) := mvOk_parts hok
          have d1 : decide (m.nd < -1) = false := decide_eq_false (by omega)
          have d2 : decide ((k : Int) ≤ m.nd) = false := decide_eq_false (by omega)
          clear hok HI HT
          obtain ⟨sl, nd⟩ := m
          cases sl with
          | true =>
            have d3 : decide (nd < 0) = false := decide_eq_false (by have := hmk.2.2 rfl; simp only at this; omega)
            clear hmk
            go_wp2
            go_roundw
            case rel => exact ⟨i + 1, by omega, by go_num, HT2.out, HB.out⟩
            case measure => simp [intOf]; omega
          | false =>
            clear hmk
            go_wp2
            go_roundw
            case rel => exact ⟨i + 1, by omega, by go_num, HT2.out, HB.out⟩
            case measure => simp [intOf]; omega
        case neg =>
          have hok : mvOk k m = false := by simpa using hok
          have HF := Lib.hid (HBad.out i m HI.out hok)
          have HR2 := Lib.hid (HR.out.to HB.out)
          have hmk := mvOk_not hok
          clear hok HI HT HBad HRun HB
          obtain ⟨sl, nd⟩ := m
          by_cases g1 : nd < -1
          · have d1 : decide (nd < -1) = true := decide_eq_true g1
            clear hmk g1
            obtain ⟨r0, r1⟩ : _ ∧ _ := ⟨HR2.out.c0, HR2.out.c1⟩
            have rf := HR2.out.fz
            have hlt' := lt_of_cell r0
            have HP := Lib.hid (HR2.out.put (.slice none 0 0) (.slice none 0 0))
            have HO := Lib.hid (HR2.out.stop HF.out)
            clear HR2 HF 
            go_wp2
            exact rrep_close HP.out.1 HP.out.2.1 rfl rfl HO.out
          · have d1 : decide (nd < -1) = false := decide_eq_false g1
            by_cases g2 : (k : Int) ≤ nd
            · have d2 : decide ((k : Int) ≤ nd) = true := decide_eq_true g2
              clear hmk g1 g2
              obtain ⟨r0, r1⟩ : _ ∧ _ := ⟨HR2.out.c0, HR2.out.c1⟩
              have rf := HR2.out.fz
              have hlt' := lt_of_cell r0
              have HP := Lib.hid (HR2.out.put (.slice none 0 0) (.slice none 0 0))
              have HO := Lib.hid (HR2.out.stop HF.out)
              clear HR2 HF 
              go_wp2
              exact rrep_close HP.out.1 HP.out.2.1 rfl rfl HO.out
            · have d2 : decide ((k : Int) ≤ nd) = false := decide_eq_false g2
              obtain ⟨hsl, g3⟩ : sl = true ∧ nd < 0 := by
                rcases hmk with h | h | h
                · exact absurd h g1
                · exact absurd h g2
                · exact h
              have d3 : decide (nd < 0) = true := decide_eq_true g3
              subst hsl
              clear hmk g1 g2 g3
              obtain ⟨r0, r1⟩ : _ ∧ _ := ⟨HR2.out.c0, HR2.out.c1⟩
              have rf := HR2.out.fz
              have hlt' := lt_of_cell r0
              have HP := Lib.hid (HR2.out.put (.slice none 0 0) (.slice none 0 0))
              have HO := Lib.hid (HR2.out.stop HF.out)
              clear HR2 HF 
              go_wp2
              exact rrep_close HP.out.1 HP.out.2.1 rfl rfl HO.out
      case neg =>
        have HOk := Lib.hid (HT.out.all hlt)
        have HRn := Lib.hid (HRun.out HOk.out)
        clear HT HBad HRun
        have HR2 := Lib.hid (HR.out.to HB.out)
        obtain ⟨w2, rfl⟩ : ∃ x : World, x = wr := ⟨_, rfl⟩
        have HLo := Lib.hid (HR.out.lo.trans (HB.out.mono HR.out.lo.size))
        obtain ⟨w3, hq, hqx, hb3⟩ := mk_qs w2 k (by omega)
        have HQ0 : Hid (QX w2.heap.size w2.heap.size k (List.replicate k (.slice none 0 0, [])) [] w3 ∧ Below w2.heap.size w2 w3) := ⟨hqx, hb3⟩
        clear hqx HB HR hb3
        go_upto_region 9 with fail
        refine abs_world (Q := fun W => Code.wp _ _ _ _ W) (F := fun W => QX w2.heap.size w2.heap.size k (List.replicate k (.slice none 0 0, [])) [] W ∧ Below w2.heap.size w2 W) _ HQ0.out ?_
        clear hq HQ0 hi hlt
        intro w4 hw4
        have HQ4 := Lib.hid hw4
        clear hw4
        obtain ⟨w5, hm1, hr1, hb5⟩ := mk_ints w4.drew N (by omega)
        obtain ⟨w6, hm2, hr2, hb6⟩ := mk_ints w5 N (by omega)
        have HTw := Lib.hid (rr_two (HQ4.out.1.to (Below.refl _ w4).drew) HQ4.out.2.drew rfl rfl hr1 hb5 hr2 hb6)
        clear hr1 hr2 hb5 hb6 HQ4
        go_cut [10, 11] (fun s10 s11 wr => ∃ tb db, s10 = .slice (some ⟨tb, 0, none⟩) N N ∧ s11 = .slice (some ⟨db, 0, none⟩) N N ∧ Hid (RrI w2 w2.heap.size tb db k N (rp0 N k) (List.replicate k (.slice none 0 0, [])) [] wr))
        case first =>
          go_region
          all_goals
            go_wp2_with fail
            go_meet
            first
              | exact ⟨_, _, rfl, rfl, HTw.out.1⟩
              | exact ⟨_, _, rfl, rfl, HTw.out.2⟩
        case rest =>
          obtain ⟨tb, db, rfl, rfl, HI5⟩ := hcut
          clear HTw hm1 hm2
          go_wp2
          go_loopw [12, 13, 14] (fun s12 s13 s14 wr => ∃ (j : Nat) (s : RpS) (vs : List (Value × List Int)), j ≤ l.length ∧ s12 = .int .i64 (s.left : Int) ∧ s13 = .int .i64 (s.done : Int) ∧ s14 = .int .i64 (j : Int) ∧ Hid (rpRun N ns (rp0 N k) l = rpRun N ns s (l.drop j)) ∧ Hid (RpOk N k s) ∧ Hid (DpOk s) ∧ Hid (RrI w2 w2.heap.size tb db k N s vs [] wr)) (fun _ _ s14 _ => l.length - (intOf s14).toNat)
          case atStart => exact ⟨0, rp0 N k, _, Nat.zero_le _, rfl, rfl, rfl, rfl, RpOk.new _ _, DpOk.new _ _, HI5.out⟩
          case round =>
            clear HI5
            obtain ⟨j, s, vs, hj, rfl, rfl, rfl, HRp, HSo, HDp, HI⟩ := hrel
            have hdN : s.done ≤ N := HSo.out.doneLe
            have hlN : s.left ≤ N := HSo.out.left
            have HR6 := Lib.hid (HR2.out.to HI.out.lo)
            by_cases hlt : j < l.length
            case pos =>
              obtain ⟨bb, off, m, hA, hBb, hjm, q0, q1⟩ := HM.out.at_ hlt
              subst hA
              have hb' := HLo.out.trans (HI.out.lo.mono HLo.out.size)
              have m0 := (bcell hb' hBb _).trans q0
              have m1 := (bcell hb' hBb _).trans q1
              have HJ := Lib.hid hjm
              have HMo := Lib.hid (HOk.out m (List.mem_of_getElem? hjm))
              clear q0 q1 hb' hBb hjm
              have HSt : Hid (rpStep N ns s m = none → rpE (N : Int) ns l = (⟨[], []⟩, 36)) := fun h => by rw [HRn.out, rp_stop HJ.out h HRp.out]
              have HNx : Hid (∀ t, rpStep N ns s m = some t → RpOk N k t ∧ DpOk t ∧ rpRun N ns (rp0 N k) l = rpRun N ns t (l.drop (j + 1))) := fun t h => rp_next HJ.out HMo.out HSo.out HDp.out h HRp.out
              have hmk := mvOk_parts HMo.out
              by_cases hsl : m.slip = true
              · obtain ⟨a, ha⟩ : ∃ a : Nat, m.nd = (a : Int) := ⟨m.nd.toNat, by have := hmk.2.2 hsl; omega⟩
                have hak : a < k := by omega
                rw [hsl] at m0
                rw [ha] at m1
                by_cases hle : s.left = N
                · have HF : Hid (rpE (N : Int) ns l = (⟨[], []⟩, 36)) := HSt.out (step_end (Or.inl hsl) hle)
                  have d1 : ((s.left : Int) == (N : Int)) = true := beq_iff_eq.2 (by omega)
                  have d2 : (s.left == N) = true := beq_iff_eq.2 hle
                  clear HNx HSt HI hmk hsl ha hak hle HRp HSo HDp HJ HMo
                  obtain ⟨r0, r1⟩ : _ ∧ _ := ⟨HR6.out.c0, HR6.out.c1⟩
                  have rf := HR6.out.fz
                  have hlt' := lt_of_cell r0
                  have HP := Lib.hid (HR6.out.put (.slice none 0 0) (.slice none 0 0))
                  have HO := Lib.hid (HR6.out.stop HF.out)
                  clear HR6 HF 
                  go_wp2
                  exact rrep_close HP.out.1 HP.out.2.1 rfl rfl HO.out
                · have d1 : ((s.left : Int) == (N : Int)) = false := beq_eq_false_iff_ne.2 (by omega)
                  have d2 : (s.left == N) = false := beq_eq_false_iff_ne.2 hle
                  obtain ⟨v2, hv2⟩ := vs_at HI.out.rd (rq_at HSo.out hak)
                  obtain ⟨p0, pf, A2, ca2, rfl⟩ := HI.out.qx.cell hv2
                  have hba : Below wr.heap.size wr (wr.alloc (.cells #[.int .i64 (s.left : Int)] 3)) := (Below.refl _ wr).alloc (Nat.le_refl _) _
                  have hxx : (wr.alloc (.cells #[.int .i64 (s.left : Int)] 3)).cell? ⟨wr.heap.size, 0, none⟩ = some (.int .i64 (s.left : Int)) := cell_new rfl rfl rfl
                  have hszr := HI.out.lo.size
                  obtain ⟨A3, c3, w9, hr, e2, ef, ho9, hb9, hq9⟩ := (HI.out.qx.to hba).push (Nat.le_trans hszr hba.size) hv2 (s.left : Int) hxx (by rw [natL_len]; have := HSo.out.len a; omega)
                  have HI9 : Hid (RrI w2 w2.heap.size tb db k N { s with on := s.on.set a (s.on.getD a [] ++ [s.left]), left := s.left + 1 } _ [] _) := ⟨hq9, by rw [vs_set, HI.out.rd, rq_slip], (HI.out.lo.trans ((hba.mono hszr).trans (hb9.mono (Nat.le_refl _)))).setCell (p := ⟨w2.heap.size, a, none⟩) (Nat.le_refl _) (.slice A3 ((natL (s.on.getD a [])).length + 1) c3)⟩
                  have HN := Lib.hid (HNx.out _ (step_slip hsl ha hle))
                  have p1 := cell_al p0 (.cells #[.int .i64 (s.left : Int)] 3)
                  have hi0 : (0 : Int) ≤ (a : Int) := by omega
                  have hi1 : (a : Int) < (k : Int) := by omega
                  generalize natL (s.on.getD a []) = q2 at *
                  clear hv2 hba hxx hq9 ho9 hb9 hle hsl ha hmk HI HNx HSt hszr
                  go_wp2_with (at_builtin; refine wpList_append_run _ rfl _ _ _ _ rfl _ _ (by rfl) (by rfl) hr ?_)
                  clear hr e2 ef p0 p1 pf m0 m1
                  go_roundw
                  case rel => exact ⟨j + 1, { s with on := s.on.set a (s.on.getD a [] ++ [s.left]), left := s.left + 1 }, _, by omega, by go_num, rfl, by go_num, HN.out.2.2, HN.out.1, HN.out.2.1, HI9.out⟩
                  case measure => simp [intOf]; omega
              · have hsf : m.slip = false := by simpa using hsl
                rw [hsf] at m0
                clear hsl
                by_cases hneg : m.nd < 0
                · have d0 : decide (m.nd < 0) = true := decide_eq_true hneg
                  by_cases hle : s.left = N
                  · have HF : Hid (rpE (N : Int) ns l = (⟨[], []⟩, 36)) := HSt.out (step_end (Or.inr hneg) hle)
                    have d1 : ((s.left : Int) == (N : Int)) = true := beq_iff_eq.2 (by omega)
                    have d2 : (s.left == N) = true := beq_iff_eq.2 hle
                    clear HNx HSt HI hmk hsf hneg hle HRp HSo HDp HJ HMo
                    obtain ⟨r0, r1⟩ : _ ∧ _ := ⟨HR6.out.c0, HR6.out.c1⟩
                    have rf := HR6.out.fz
                    have hlt' := lt_of_cell r0
                    have HP := Lib.hid (HR6.out.put (.slice none 0 0) (.slice none 0 0))
                    have HO := Lib.hid (HR6.out.stop HF.out)
                    clear HR6 HF 
                    go_wp2
                    exact rrep_close HP.out.1 HP.out.2.1 rfl rfl HO.out
                  · have d1 : ((s.left : Int) == (N : Int)) = false := beq_eq_false_iff_ne.2 (by omega)
                    have d2 : (s.left == N) = false := beq_eq_false_iff_ne.2 hle
                    have hxi : s.left < N := by omega
                    have hc0 := rowN_at HI.out.qx.own.head HSo.out.lto hxi
                    have hf0 := rowN_frz HI.out.qx.own.head s.left
                    have hgt : w2.heap.size ≤ tb := (World.ownsRow.lt HI.out.qx.own.head tb rfl).1
                    have HI9 : Hid (RrI w2 w2.heap.size tb db k N { s with to_ := s.to_.set s.left (s.done : Int), left := s.left + 1, done := s.done + 1 } vs [] _) := ⟨HI.out.qx.putN s.left (s.done : Int), HI.out.rd, HI.out.lo.setCell (p := ⟨tb, s.left, none⟩) hgt (.int .i64 (s.done : Int))⟩
                    have HN := Lib.hid (HNx.out _ (step_work hsf hneg hle))
                    have hxI : (s.left : Int) < (N : Int) := by omega
                    have hx0 : (0 : Int) ≤ (s.left : Int) := by omega
                    generalize s.to_.getD s.left 0 = o0 at hc0
                    clear hle hsf hneg hmk HI HNx HSt hgt
                    go_wp2
                    clear hc0 hf0 m0 m1
                    go_roundw
                    case rel => exact ⟨j + 1, { s with to_ := s.to_.set s.left (s.done : Int), left := s.left + 1, done := s.done + 1 }, _, by omega, by go_num, by go_num, by go_num, HN.out.2.2, HN.out.1, HN.out.2.1, HI9.out⟩
                    case measure => simp [intOf]; omega
                · obtain ⟨a, ha⟩ : ∃ a : Nat, m.nd = (a : Int) := ⟨m.nd.toNat, by omega⟩
                  have hak : a < k := by omega
                  rw [ha] at m1
                  have d0 : decide ((a : Int) < 0) = false := decide_eq_false (by omega)
                  have hqk := rq_at HSo.out hak
                  have hi0 : (0 : Int) ≤ (a : Int) := by omega
                  have hi1 : (a : Int) < (k : Int) := by omega
                  cases hon : s.on.getD a [] with
                  | nil =>
                    rw [hon] at hqk
                    have HF : Hid (rpE (N : Int) ns l = (⟨[], []⟩, 36)) := HSt.out (step_dry hsf ha hon)
                    obtain ⟨v, hv⟩ := vs_at HI.out.rd hqk
                    obtain ⟨g0, gf, A0, ca, rfl⟩ := HI.out.qx.cell hv
                    rw [show (natL []).length = 0 from rfl] at g0
                    clear hv hqk HNx HSt HI hmk hsf hneg hon HRp HSo HDp HJ HMo ha hak
                    obtain ⟨r0, r1⟩ : _ ∧ _ := ⟨HR6.out.c0, HR6.out.c1⟩
                    have rf := HR6.out.fz
                    have hlt' := lt_of_cell r0
                    have HP := Lib.hid (HR6.out.put (.slice none 0 0) (.slice none 0 0))
                    have HO := Lib.hid (HR6.out.stop HF.out)
                    clear HR6 HF 
                    go_wp2
                    exact rrep_close HP.out.1 HP.out.2.1 rfl rfl HO.out
                  | cons x r0 =>
                    rw [hon, natL_cons] at hqk
                    obtain ⟨r, hr⟩ : ∃ r, r = natL r0 := ⟨_, rfl⟩
                    rw [← hr] at hqk
                    have HRr := Lib.hid hr
                    have HN := Lib.hid (HNx.out _ (step_take hsf ha hon))
                    have hxi : x < N := by
                      obtain ⟨q, hq, hy⟩ := mem_getD (l := s.on) (i := a) (x := x) (by rw [hon]; exact List.mem_cons_self)
                      have := HSo.out.low q hq x hy
                      omega
                    have hkn : a < ns.length := by rw [← HKn.out]; exact hak
                    obtain ⟨nb, noff, hAn, hnb, hnc⟩ := HS.out (fun e => by subst e; simp at hkn)
                    have hna := hnc a (ns.getD a 0) (by rw [List.getD_eq_getElem?_getD, List.getElem?_eq_getElem hkn]; rfl)
                    subst hAn
                    generalize ns.getD a 0 = dv at HN hna
                    have HNa := Lib.hid hna
                    have HNb := Lib.hid hnb
                    clear hr hmk HSt HNx hon hneg hsf ha hak hkn hnc hna hnb
                    obtain ⟨v, hv⟩ := vs_at HI.out.rd hqk
                    obtain ⟨qb, qo, cap, rfl, hcap, g0, gf, x0, hqx⟩ := HI.out.qx.pop hv
                    have HX7 : Hid (QX w2.heap.size w2.heap.size k _ _ _ ∧ Below w2.heap.size w2 _) := ⟨hqx, HI.out.lo.setCell (p := ⟨w2.heap.size, a, none⟩) (Nat.le_refl _) (popV qb qo r.length cap)⟩
                    have t0 : ((r.length : Int) + 1 == 0) = false := beq_eq_false_iff_ne.2 (by omega)
                    have t1 : (r.length + 1 == 0) = false := beq_eq_false_iff_ne.2 (by omega)
                    have h1c : 1 ≤ cap := by omega
                    clear hqx hv hqk
                    go_upto_region 27 with fail
                    refine abs_world (Q := fun W => Code.wp _ _ _ _ W) (F := fun W => QX w2.heap.size w2.heap.size k (vs.set a (popV qb qo r.length cap, r)) [rowN tb N s.to_, rowN db N s.deep] W ∧ Below w2.heap.size w2 W) _ HX7.out ?_
                    generalize (Value.slice (if cap = 1 then some (⟨qb, qo, none⟩ : Addr) else some ⟨qb, qo + 1, none⟩) r.length (cap - 1)) = u143
                    clear HX7 g0 gf x0 m0 m1 hcap h1c t0 t1
                    rintro W8 ⟨hx8, hb8⟩
                    have HX8 := Lib.hid hx8
                    have HB8 := Lib.hid hb8
                    clear hx8 hb8
                    have hna := (bcell (HLo.out.trans (HB8.out.mono HLo.out.size)) HNb.out _).trans HNa.out
                    have hc0 := rowN_at HX8.out.own.head HSo.out.lto hxi
                    have hc1 := rowN_at HX8.out.own.tail.head HSo.out.ldp hxi
                    have hf0 := rowN_frz HX8.out.own.head x
                    have hf1 := rowN_frz HX8.out.own.tail.head x
                    have hne := HX8.out.ne
                    have hne2 : db ≠ tb := fun e => hne e.symm
                    have hgt : w2.heap.size ≤ tb := (World.ownsRow.lt HX8.out.own.head tb rfl).1
                    have hgd : w2.heap.size ≤ db := (World.ownsRow.lt HX8.out.own.tail.head db rfl).1
                    have HI9 : Hid (RrI w2 w2.heap.size tb db k N { s with on := s.on.set a r0, to_ := s.to_.set x (s.done : Int), deep := s.deep.set x dv, done := s.done + 1 } (vs.set a (popV qb qo r.length cap, r)) [] _) := ⟨HX8.out.put2 x (s.done : Int) dv, by rw [vs_set, HI.out.rd, HRr.out, rq_take], (HB8.out.setCell (p := ⟨tb, x, none⟩) hgt (.int .i64 (s.done : Int))).setCell (p := ⟨db, x, none⟩) hgd (.int .i64 dv)⟩
                    have hxI : (x : Int) < (N : Int) := by omega
                    have hx0 : (0 : Int) ≤ (x : Int) := by omega
                    generalize s.to_.getD x 0 = o0 at hc0
                    generalize s.deep.getD x 0 = o1 at hc1
                    clear HX8 HB8 hgt hgd HI HNa HNb
                    go_wp2
                    clear hc0 hc1 hf0 hf1 hne hne2 hna
                    go_roundw
                    case rel => exact ⟨j + 1, { s with on := s.on.set a r0, to_ := s.to_.set x (s.done : Int), deep := s.deep.set x dv, done := s.done + 1 }, _, by omega, rfl, by go_num, by go_num, HN.out.2.2, HN.out.1, HN.out.2.1, HI9.out⟩
                    case measure => simp [intOf]; omega
            case neg =>
              have hlto := HSo.out.lto
              have hldp := HSo.out.ldp
              have hE : rpE (N : Int) ns l = if s.done = N then (⟨s.to_, rpFronts N s.to_ s.deep⟩, 0) else (⟨[], []⟩, 36) := by rw [HRn.out, rp_end hlt HRp.out]
              by_cases hd : s.done = N
              case neg =>
                have e5 : ((s.done : Int) != (N : Int)) = true := by simp; omega
                have e6 : (s.done != N) = true := by simp; omega
                have e7 : ((s.done : Int) == (N : Int)) = false := beq_eq_false_iff_ne.2 (by omega)
                have e8 : (s.done == N) = false := beq_eq_false_iff_ne.2 hd
                have HF : Hid (rpE (N : Int) ns l = (⟨[], []⟩, 36)) := by
                  show _ = _
                  rw [hE, if_neg hd]
                clear hE hd HI HSo HDp HRp HRn HR2 HOk hlto hldp
                obtain ⟨r0, r1⟩ : _ ∧ _ := ⟨HR6.out.c0, HR6.out.c1⟩
                have rf := HR6.out.fz
                have hlt' := lt_of_cell r0
                have HP := Lib.hid (HR6.out.put (.slice none 0 0) (.slice none 0 0))
                have HO := Lib.hid (HR6.out.stop HF.out)
                clear HR6 HF 
                go_wp2
                exact rrep_close HP.out.1 HP.out.2.1 rfl rfl HO.out
              case pos =>
                have HF : Hid (rpE (N : Int) ns l = (⟨s.to_, frA N s.to_ s.deep N⟩, 0)) := by
                  show _ = _
                  rw [hE, if_pos hd, fr_all]
                have e5 : ((s.done : Int) != (N : Int)) = false := by rw [hd]; simp
                have e6 : (s.done != N) = false := by rw [hd]; simp
                have e7 : ((s.done : Int) == (N : Int)) = true := by rw [hd]; simp
                have e8 : (s.done == N) = true := by rw [hd]; simp
                have HG0 := Lib.hid HI.out.fr
                have HLt := Lib.hid hlto
                have HLd := Lib.hid hldp
                clear hE hd HI HSo HDp HRp HRn HOk hlto hldp HR6
                generalize s.to_ = to_ at HF HG0 HLt
                generalize s.deep = deep at HF HG0 HLd
                go_upto_region 32 with fail
                refine abs_world (Q := fun W => Code.wp _ _ _ _ W) (F := fun W => FrI w2 tb db wr.heap.size N to_ deep (.slice none 0 0) [] W) _ HG0.out ?_
                clear hlt hj e5 e6 e7 e8 HG0 hdN hlN
                obtain ⟨pb, hpb⟩ : ∃ pb, pb = wr.heap.size := ⟨_, rfl⟩
                rw [← hpb]
                clear hpb
                intro W9 hG9
                have HG0 := Lib.hid hG9
                clear hG9
                go_wp2
                go_loopw [18] (fun s18 wo => ∃ (a : Nat) (F : Value), a ≤ N ∧ s18 = .int .i64 (a : Int) ∧ Hid (FrI w2 tb db pb N to_ deep F (frA N to_ deep a) wo)) (fun s18 _ => N - (intOf s18).toNat)
                case atStart => exact ⟨0, _, Nat.zero_le _, rfl, HG0.out⟩
                case round =>
                  clear HG0
                  obtain ⟨a, F, ha, rfl, HG⟩ := hrel
                  by_cases hai : a < N
                  case pos =>
                    go_wp2
                    go_loopw [19] (fun s19 wi => ∃ (b : Nat) (F : Value), a + 1 ≤ b ∧ b ≤ N ∧ s19 = .int .i64 (b : Int) ∧ Hid (FrI w2 tb db pb N to_ deep F (frA N to_ deep a ++ frB to_ deep a b) wi)) (fun s19 _ => N - (intOf s19).toNat)
                    case atStart => exact ⟨a + 1, F, Nat.le_refl _, hai, by go_num, by rw [fr_start, List.append_nil]; exact HG.out⟩
                    case round =>
                      clear HG
                      obtain ⟨b, F, hab, hb, rfl, HG⟩ := hrel
                      by_cases hbi : b < N
                      case pos =>
                        obtain ⟨g0, g1, A', c', hF⟩ := HG.out.cells
                        obtain ⟨pn, hpn⟩ : ∃ pn, pn = (frA N to_ deep a ++ frB to_ deep a b).length := ⟨_, rfl⟩
                        rw [← hpn] at hF
                        subst hF
                        have hp1 : pn ≤ 100 := by
                          rw [hpn, List.length_append]
                          have h1 := frA_len N to_ deep a
                          have h2 := frB_len to_ deep a b
                          have h3 : a * N ≤ 8 * 8 := Nat.mul_le_mul (by omega) hN
                          omega
                        have q0 := HG.out.dp HLd.out hai
                        have q1 := HG.out.dp HLd.out hbi
                        have HC : Hid (∀ m, Calls Try.prog 35 #[.slice (some ⟨tb, 0, none⟩) N N, .int .i64 (a : Int), .int .i64 (b : Int)] (wr.drewN m) fun e w' => e = .returned (.bool (chg to_ a b)) ∧ ∃ m', w' = (wr.drewN m).drewN m') := fun m => by
                          have h1 := rchg_any (some ⟨tb, 0, none⟩) N to_ (by have := HLt.out; omega) a b (by have := HLt.out; omega) (wr.drewN m) (((HG.out.tos HLt.out).below (below_drewN29 (Below.refl wr.heap.size wr) m)).more (below_drewN29 (Below.refl wr.heap.size wr) m).size)
                          rw [HLt.out] at h1
                          exact h1
                        have hst := fr_step to_ deep a b
                        unfold frP at hst
                        generalize deep.getD a 0 = da at q0 hst
                        generalize deep.getD b 0 = dbb at q1 hst
                        have hpI : (0 : Int) ≤ (a : Int) := by omega
                        have hpJ : (0 : Int) ≤ (b : Int) := by omega
                        have haI : (a : Int) < (N : Int) := by omega
                        have hbI : (b : Int) < (N : Int) := by omega
                        have HP := Lib.hid hpn
                        clear hpn
                        cases hcg : chg to_ a b with
                        | false =>
                          rw [hcg] at HC hst
                          have HSt : Hid (frB to_ deep a (b + 1) = frB to_ deep a b) := by
                            show _ = _
                            rw [hst]; rfl
                          clear hst hcg
                          go_upto_region 38 with fail
                          go_quiet ((go_at_call 35; exact Calls.quiet_of (HC.out _)))
                          go_wp2
                          go_roundw
                          case rel => exact ⟨b + 1, _, by omega, by omega, by go_num, by rw [HSt.out]; exact HG.out.to (below_drewN29 (Below.refl _ wr) _)⟩
                          case measure => simp [intOf]; omega
                        | true =>
                          rw [hcg] at HC hst
                          by_cases hdd : dbb < da
                          case neg =>
                            have e7 : decide (dbb < da) = false := decide_eq_false hdd
                            rw [e7] at hst
                            have HSt : Hid (frB to_ deep a (b + 1) = frB to_ deep a b) := by
                              show _ = _
                              rw [hst]; rfl
                            clear hst hcg hdd
                            go_upto_region 38 with fail
                            go_quiet ((go_at_call 35; exact Calls.quiet_of (HC.out _)))
                            go_wp2
                            go_roundw
                            case rel => exact ⟨b + 1, _, by omega, by omega, by go_num, by rw [HSt.out]; exact HG.out.to (below_drewN29 (Below.refl _ wr) _)⟩
                            case measure => simp [intOf]; omega
                          case pos =>
                            have e7 : decide (dbb < da) = true := decide_eq_true hdd
                            rw [e7] at hst
                            have HSt : Hid (frB to_ deep a (b + 1) = frB to_ deep a b ++ [((a : Int), (b : Int))]) := by
                              show _ = _
                              rw [hst]; rfl
                            clear hst hcg hdd
                            go_upto_region 38 with fail
                            go_quiet ((go_at_call 35; exact Calls.quiet_of (HC.out _)))
                            go_upto_region 39 with fail
                            refine abs_world (Q := fun W => Code.wp _ _ _ _ W) (F := fun W => FrI w2 tb db pb N to_ deep (.slice A' pn c') (frA N to_ deep a ++ frB to_ deep a b) W) _ (HG.out.to (below_drewN29 (Below.refl _ wr) _)) ?_
                            intro W9 hG9
                            obtain ⟨z0, z1, -⟩ := hG9.cells
                            obtain ⟨A9, c9, w9, hr9, y1, yf, hG10⟩ := hG9.push (a : Int) (b : Int) (by rw [← HP.out]; omega)
                            rw [← HP.out] at hr9 hG10
                            have HG10 := Lib.hid hG10
                            have z1' := cell_al z1 (.cells #[.int .i64 (a : Int), .int .i64 (b : Int)] 66)
                            clear hG9 hG10 HG HC
                            go_wp2_with (at_builtin; refine wpList_append_run _ rfl _ _ _ _ rfl _ _ (by rfl) (by rfl) hr9 ?_)
                            clear hr9 z0 z1 z1' y1 yf
                            go_roundw
                            case rel => exact ⟨b + 1, _, by omega, by omega, by go_num, by rw [HSt.out, ← List.append_assoc]; exact HG10.out⟩
                            case measure => simp [intOf]; omega
                      case neg =>
                        obtain rfl : b = N := by omega
                        go_wp2
                        go_roundw
                        case rel => exact ⟨a + 1, _, by omega, by go_num, by rw [fr_next]; exact HG.out⟩
                        case measure => simp [intOf]; omega
                  case neg =>
                    obtain rfl : a = N := by omega
                    obtain ⟨z0, z1, A', c', hF⟩ := HG.out.cells
                    obtain ⟨pn, hpn⟩ : ∃ pn, pn = (frA a to_ deep a).length := ⟨_, rfl⟩
                    rw [← hpn] at hF
                    subst hF
                    clear hpn
                    have HR6 := Lib.hid (HR2.out.to HG.out.lo)
                    obtain ⟨r0, r1⟩ : _ ∧ _ := ⟨HR6.out.c0, HR6.out.c1⟩
                    have rf := HR6.out.fz
                    have hlt6 := lt_of_cell r0
                    have HP := Lib.hid (HR6.out.put (.slice (some ⟨tb, 0, none⟩) a a) (.slice A' pn c'))
                    have HO := Lib.hid (fr_out HG.out HR2.out HLt.out HF.out)
                    clear HR6 HG HF HR2
                    go_wp2
                    exact rrep_close HP.out.1 HP.out.2.1 rfl rfl HO.out
end Go.Proofs.Ytodjkifcbgmckaa
