/- Layer 29: Right, walked. -/
import Derived.Test.YtodjkifcbgmckaaHal
import Derived.Test.YtodjkifcbgmckaaSlE
namespace Go.Proofs.Ytodjkifcbgmckaa
open Go.RowKit Go.Shelf Go.Sort
set_option maxRecDepth 100000

set_option maxHeartbeats 1000000 in
theorem idxZ_any (g : Nat) (lb : Array Value) (_eg : ∀ args w, (callFunc g args).run Try.prog w = .ok (.enter g args) w) (pr : Int → Bool) (A : Option Addr) (c : Nat) (zs : List Int) (w : World)
    (hs : SlI w w.heap.size A zs) (hn : zs.length ≤ 4611686018427387904) (hp : ∀ x, ∀ w', Below w.heap.size w w' → Calls Try.prog g (#[.int .i64 x] ++ lb) w' fun e w2 => e = .returned (.bool (pr x)) ∧ Below w'.heap.size w' w2) :
    Calls Try.prog 57 #[.slice A zs.length c, .func (.func g) #[] lb] w fun e w' => e = .returned (.int .i64 (idxE pr zs)) ∧ Below w.heap.size w w' := by
  go_enter Try.func57, Try.ntmps57
  go_wp2
  go_loopw [8] (fun i wr => ∃ k : Nat, k ≤ zs.length ∧ i = .int .i64 k ∧ Hid (∀ j y, j < k → zs[j]? = some y → pr y = false) ∧ Below w.heap.size w wr) (fun i _ => zs.length - (intOf i).toNat)
  case atStart => exact ⟨0, Nat.zero_le _, rfl, fun j _ hj => absurd hj (Nat.not_lt_zero j), Below.refl _ _⟩
  case round =>
    obtain ⟨k, hk, rfl, H, hbw⟩ := hrel
    by_cases hlt : k < zs.length
    · obtain ⟨b, off, z, rfl, hB, hr, hc⟩ := hs.at_ hlt
      have c0 := (bcell hbw hB _).trans hc
      have hcall := hp z wr hbw
      have HR : Hid (zs[k]? = some z) := hr
      clear hr hs hp hc
      cases hq : pr z with
      | true =>
        rw [hq] at hcall
        have HQ : Hid (pr z = true) := hq
        clear hq
        go_wp2_with (go_at_fn g; refine hcall.mono ?_; rintro e w' ⟨rfl, hb1⟩)
        go_ret
        exact ⟨ret_int (idxE_hit HR.out HQ.out H.out).symm, hbw.trans (hb1.mono hbw.size)⟩
      | false =>
        rw [hq] at hcall
        have HQ : Hid (pr z = false) := hq
        clear hq
        go_wp2_with (go_at_fn g; refine hcall.mono ?_; rintro e w' ⟨rfl, hb1⟩)
        go_roundw
        case rel =>
          refine ⟨k + 1, by omega, by go_num, fun j y hj hy => ?_, hbw.trans (hb1.mono hbw.size)⟩
          by_cases e : j = k
          · subst e; rw [HR.out] at hy; injection hy with hy; subst hy; exact HQ.out
          · exact H.out j y (by omega) hy
        case measure => simp [intOf]; omega
    · have HE : Hid (idxE pr zs = -1) := idxE_none (fun j y hj => H.out j y (by omega))
      clear H hs hp
      go_wp2
      go_ret
      exact ⟨ret_int HE.out.symm, hbw⟩
theorem contZ_any (g : Nat) (lb : Array Value) (eg : ∀ args w, (callFunc g args).run Try.prog w = .ok (.enter g args) w) (pr : Int → Bool) (A : Option Addr) (c : Nat) (zs : List Int) (w : World)
    (hs : SlI w w.heap.size A zs) (hn : zs.length ≤ 4611686018427387904) (hp : ∀ x, ∀ w', Below w.heap.size w w' → Calls Try.prog g (#[.int .i64 x] ++ lb) w' fun e w2 => e = .returned (.bool (pr x)) ∧ Below w'.heap.size w' w2) :
    Calls Try.prog 38 #[.slice A zs.length c, .func (.func g) #[] lb] w fun e w' => e = .returned (.bool (zs.any pr)) ∧ Below w.heap.size w w' := by
  have HA : Hid (decide (0 ≤ idxE pr zs) = zs.any pr) := idxE_any pr zs
  have hcall := Lib.hid (idxZ_any g lb eg pr A c zs w hs hn hp)
  clear hs hp eg
  go_enter Try.func38, Try.ntmps38
  go_wp2_with (go_at_call 57; refine hcall.out.mono ?_; rintro e w' ⟨rfl, hb1⟩)
  go_ret
  exact ⟨ret_bool (by first | exact HA.out | (rw [← HA.out]; simp)), hb1⟩
/-- A number that no plan holds. -/
def offB (k : Nat) (x : Int) : Bool := decide (x < -1) || decide ((k : Int) ≤ x)
theorem right1_any (x : Int) (nb : Nat) (An : Option Addr) (n cn : Nat) (w : World) (hc : w.cell? ⟨nb, 0, none⟩ = some (.slice An n cn)) :
    Calls Try.prog 39 #[.int .i64 x, .pointer (some ⟨nb, 0, none⟩)] w fun e w' => e = .returned (.bool (offB n x)) ∧ Below w.heap.size w w' := by
  by_cases h : x < -1
  · have d : decide (x < -1) = true := decide_eq_true h
    have HF : Hid (offB n x = true) := by show _ = _; unfold offB; rw [d]; rfl
    go_enter Try.func39, Try.ntmps39
    go_wp2
    go_ret
    exact ⟨ret_bool HF.out.symm, Below.refl _ _⟩
  · have d : decide (x < -1) = false := decide_eq_false h
    have HF : Hid (offB n x = decide ((n : Int) ≤ x)) := by show _ = _; unfold offB; rw [d]; rfl
    go_enter Try.func39, Try.ntmps39
    go_wp2
    go_ret
    exact ⟨ret_bool (by rw [HF.out]), Below.refl _ _⟩
theorem plan_any (k n : Nat) (plan : List Int) : planOk k n plan = (decide (plan.length = n) && !plan.any (offB k)) := by
  unfold planOk
  congr 1
  rw [Bool.eq_iff_iff, decide_eq_true_iff, Bool.not_eq_true', List.any_eq_false]
  constructor
  · intro h a ha
    have := h a ha
    unfold offB
    simp
    omega
  · intro h a ha
    have := h a ha
    unfold offB at this
    simp at this
    omega
theorem brdE_zero {b : Brd} (h : brdE b = 0) : b.to_.length ≤ 8 ∧ permB b.to_ = true ∧ frontsB b.to_ b.fronts = true := by
  unfold brdE at h
  split at h
  · cases h
  · split at h
    · rename_i h1 h2
      rw [Bool.and_eq_true] at h2
      exact ⟨by omega, h2.1, h2.2⟩
    · cases h
/-- Pairs in order are few. -/
theorem fr_key {to_ : List Int} {l : List (Int × Int)} (h8 : to_.length ≤ 8) (h : frontsB to_ l = true) : ∀ (i : Nat) (p : Int × Int), l[i]? = some p → (i : Int) ≤ p.1 * 8 + p.2 ∧ p.1 * 8 + p.2 < 64
  | 0, p, hp => by
    have h1 := ((fr_iff.1 h) 0 p (List.getElem?_eq_some_iff.1 hp).1 hp).1
    unfold frontOk at h1
    rw [decide_eq_true_iff] at h1
    omega
  | i + 1, p, hp => by
    have hl := (List.getElem?_eq_some_iff.1 hp).1
    have h1 := (fr_iff.1 h) (i + 1) p hl hp
    obtain ⟨q, hq⟩ : ∃ q, l[i]? = some q := ⟨_, List.getElem?_eq_getElem (by omega)⟩
    have h2 := fr_key h8 h i q hq
    have h3 := h1.2 q (by omega) hq
    have h4 := h1.1
    have h5 := ((fr_iff.1 h) i q (by omega) hq).1
    unfold frontOk at h4 h5
    unfold ltP at h3
    rw [decide_eq_true_iff] at h3 h4 h5
    omega
theorem fr_len {to_ : List Int} {l : List (Int × Int)} (h8 : to_.length ≤ 8) (h : frontsB to_ l = true) : l.length ≤ 64 := by
  rcases Nat.lt_or_ge 64 l.length with hl | hl
  · have := fr_key h8 h 64 l[64] (List.getElem?_eq_getElem hl)
    omega
  · exact hl
theorem SlI.take {w : World} {B : Nat} {A : Option Addr} {l : List Int} (h : SlI w B A l) (k : Nat) : SlI w B A (l.take k) := fun hne => by
  obtain ⟨b, off, e, hB, hc⟩ := h (fun e => hne (by rw [e]; simp))
  refine ⟨b, off, e, hB, fun j z hz => hc j z ?_⟩
  rw [List.getElem?_take] at hz
  split at hz
  · exact hz
  · cases hz
theorem right_bad {b : Brd} {ns plan : List Int} (h : brdE b ≠ 0) : rightE b ns plan = (false, brdE b) := by unfold rightE; rw [if_pos h]
theorem right_arg {b : Brd} {ns plan : List Int} (h : brdE b = 0) (h2 : cabB ns = false ∨ planOk ns.length b.to_.length plan = false) : rightE b ns plan = (false, 2) := by unfold rightE; rw [if_neg (by rw [h]; decide), if_pos h2]
theorem right_run {b : Brd} {ns plan : List Int} (h : brdE b = 0) (h2 : cabB ns = true) (h3 : planOk ns.length b.to_.length plan = true) {q : Bool} (hq : (∀ x, x < plan.length → okP b ns (plan.take (x + 1)) x = true) ↔ q = true) : rightE b ns plan = (q, 0) := by
  unfold rightE
  rw [if_neg (by rw [h]; decide), if_neg (by rw [h2, h3]; simp)]
  congr 1
  cases q with
  | true => exact decide_eq_true (hq.2 rfl)
  | false => exact decide_eq_false (fun hh => by have := hq.1 hh; cases this)
theorem limb4 {a b c d : Prop} (h : a ∧ b ∧ c ∧ d) : d := h.2.2.2
set_option maxHeartbeats 64000000 in
theorem hright_any (A F : Option Addr) (c fc : Nat) (b : Brd) (hf : b.fronts.length ≤ 4611686018427387904) (An : Option Addr) (cn : Nat) (ns : List Int) (hn : ns.length ≤ 1000000) (Ap : Option Addr) (cp : Nat) (plan : List Int) (hpc : plan.length ≤ cp) (hpl : plan.length ≤ 4611686018427387904) (w : World) (hs : SlI w w.heap.size A b.to_) (hp : SlPr w w.heap.size F b.fronts) (hns : SlI w w.heap.size An ns) (hpn : SlI w w.heap.size Ap plan) :
    Calls Try.prog 17 #[.agg #[.slice A b.to_.length c, .slice F b.fronts.length fc], .slice An ns.length cn, .slice Ap plan.length cp] w fun e w' => e = .returned (.tuple #[.bool (rightE b ns plan).1, .int .i64 (rightE b ns plan).2]) ∧ Below w.heap.size w w' := by
  have hb0 := ((Below.refl w.heap.size w).alloc (Nat.le_refl _) (.cells #[.slice A b.to_.length c, .slice F b.fronts.length fc] 26)).alloc (by simp) (.cells #[.slice An ns.length cn] 22)
  have g0 : ((w.alloc (.cells #[.slice A b.to_.length c, .slice F b.fronts.length fc] 26)).alloc (.cells #[.slice An ns.length cn] 22)).cell? ⟨w.heap.size, 0, none⟩ = some (.slice A b.to_.length c) := cell_al (cell_new rfl rfl rfl) _
  have g1 : ((w.alloc (.cells #[.slice A b.to_.length c, .slice F b.fronts.length fc] 26)).alloc (.cells #[.slice An ns.length cn] 22)).cell? ⟨w.heap.size, 1, none⟩ = some (.slice F b.fronts.length fc) := cell_al (cell_new rfl rfl rfl) _
  have g2 : ((w.alloc (.cells #[.slice A b.to_.length c, .slice F b.fronts.length fc] 26)).alloc (.cells #[.slice An ns.length cn] 22)).cell? ⟨w.heap.size + 1, 0, none⟩ = some (.slice An ns.length cn) := cell_new rfl (by simp) rfl
  have HW := Lib.hid (And.intro g0 (And.intro g1 (And.intro g2 hb0)))
  have HCk : Hid (∀ W, Below w.heap.size w W → Calls Try.prog 19 #[.agg #[.slice A b.to_.length c, .slice F b.fronts.length fc]] W fun e w' => e = .returned (.int .i64 (brdE b)) ∧ Below W.heap.size W w') := fun W hb => hcheck_any A F c fc b hf W ((hs.below hb).more hb.size) ((hp.below hb).more hb.size)
  have HCb : Hid (∀ W, Below w.heap.size w W → Calls Try.prog 32 #[.slice An ns.length cn] W fun e w' => e = .returned (.bool (cabB ns)) ∧ Below W.heap.size W w') := fun W hb => hcables_any An cn ns hn W ((hns.below hb).more hb.size)
  have HCf : Hid (∀ W, Below w.heap.size w W → W.cell? ⟨w.heap.size + 1, 0, none⟩ = some (.slice An ns.length cn) → Calls Try.prog 38 #[.slice Ap plan.length cp, .func (.func 39) #[] #[.pointer (some ⟨w.heap.size + 1, 0, none⟩)]] W fun e w' => e = .returned (.bool (plan.any (offB ns.length))) ∧ Below W.heap.size W w') := fun W hb hc => contZ_any 39 #[.pointer (some ⟨w.heap.size + 1, 0, none⟩)] (fun _ _ => rfl) (offB ns.length) Ap cp plan W ((hpn.below hb).more hb.size) hpl (fun x w' hb' => right1_any x (w.heap.size + 1) An ns.length cn w' ((bcell hb' (lt_of_cell hc) _).trans hc))
  have HAl : Hid (brdE b = 0 → planOk ns.length b.to_.length plan = true → ∀ W, Below w.heap.size w W → ∀ i, i < plan.length → Calls Try.prog 40 #[.agg #[.slice A b.to_.length c, .slice F b.fronts.length fc], .slice An ns.length cn, .slice Ap (i + 1) cp] W fun e w' => e = .returned (.bool (okP b ns (plan.take (i + 1)) i)) ∧ Below W.heap.size W w') := fun h1 h2 W hb i hi => by
    obtain ⟨k8, kp, kf⟩ := brdE_zero h1
    have hpo : plan.length = b.to_.length ∧ ∀ a ∈ plan, -1 ≤ a ∧ a < (ns.length : Int) := by
      unfold planOk at h2
      rw [Bool.and_eq_true, decide_eq_true_iff, decide_eq_true_iff] at h2
      exact h2
    have hlen : (plan.take (i + 1)).length = i + 1 := by rw [List.length_take]; omega
    have h3 := allowed_any A F c fc b k8 (Nat.le_trans (fr_len k8 kf) (by decide)) kf An cn ns hn Ap cp (plan.take (i + 1)) i hlen (by omega) (fun a ha => (hpo.2 a (List.mem_of_mem_take ha)).2) W ((hs.below hb).more hb.size) ((hp.below hb).more hb.size) ((hns.below hb).more hb.size) (((hpn.below hb).more hb.size).take (i + 1))
    rw [hlen] at h3
    exact h3
  clear hs hp hns hpn hb0 g0 g1 g2
  go_enter Try.func17, Try.ntmps17
  go_upto_region 1 with fail
  refine abs_world (Q := fun W => Code.wp _ _ _ _ W) (F := fun W => W.cell? ⟨w.heap.size, 0, none⟩ = some (.slice A b.to_.length c) ∧ W.cell? ⟨w.heap.size, 1, none⟩ = some (.slice F b.fronts.length fc) ∧ W.cell? ⟨w.heap.size + 1, 0, none⟩ = some (.slice An ns.length cn) ∧ Below w.heap.size w W) _ HW.out ?_
  clear HW
  rintro w1 ⟨g0, g1, g2, hb1⟩
  have HB1 := Lib.hid hb1
  clear hb1
  have HG : Hid (∀ W, Below w1.heap.size w1 W → W.cell? ⟨w.heap.size, 0, none⟩ = some (.slice A b.to_.length c) ∧ W.cell? ⟨w.heap.size, 1, none⟩ = some (.slice F b.fronts.length fc) ∧ W.cell? ⟨w.heap.size + 1, 0, none⟩ = some (.slice An ns.length cn) ∧ Below w1.heap.size w1 W) := fun W h => ⟨(bcell h (lt_of_cell g0) _).trans g0, (bcell h (lt_of_cell g1) _).trans g1, (bcell h (lt_of_cell g2) _).trans g2, h⟩
  have HCk1 := Lib.hid (HCk.out w1 HB1.out)
  by_cases hE : brdE b = 0
  case neg =>
    have HF := Lib.hid (right_bad (ns := ns) (plan := plan) hE)
    have d0 : (brdE b != 0) = true := by simpa using hE
    clear hE
    go_wp2_with ((go_at_call 19; refine HCk1.out.mono ?_; rintro e w2 ⟨rfl, hb2⟩))
    go_ret2
    exact ⟨by rw [HF.out]; rfl, HB1.out.trans (hb2.mono HB1.out.size)⟩
  rw [hE] at HCk1
  have HE := Lib.hid hE
  clear hE
  go_upto_region 4 with ((go_at_call 19; refine HCk1.out.mono ?_; rintro e w2 ⟨rfl, hb2⟩))
  refine abs_world (Q := fun W => Code.wp _ _ _ _ W) (F := fun W => Below w1.heap.size w1 W) _ hb2 ?_
  clear HCk HCk1 hb2 g0 g1 g2
  intro w3 hb3
  obtain ⟨g0, g1, g2, -⟩ := HG.out w3 hb3
  have HB3 := Lib.hid (HB1.out.trans (hb3.mono HB1.out.size))
  have HB31 := Lib.hid hb3
  have HCb3 := Lib.hid (HCb.out w3 HB3.out)
  have HArg : Hid (cabB ns = false ∨ planOk ns.length b.to_.length plan = false → rightE b ns plan = (false, 2)) := fun h => right_arg HE.out h
  clear hb3 HCb
  cases hcb : cabB ns with
  | false =>
    rw [hcb] at HCb3
    have HF := Lib.hid (HArg.out (Or.inl hcb))
    clear hcb HArg
    go_wp2_with ((go_at_call 32; refine HCb3.out.mono ?_; rintro e w2 ⟨rfl, hb2⟩))
    go_ret2
    exact ⟨by rw [HF.out]; rfl, HB3.out.trans (hb2.mono HB3.out.size)⟩
  | true =>
    rw [hcb] at HCb3
    have HCab := Lib.hid hcb
    clear hcb
    by_cases hlen : plan.length = b.to_.length
    case neg =>
      have HF := Lib.hid (HArg.out (Or.inr (by rw [plan_any, decide_eq_false hlen]; rfl)))
      have d1 : ((plan.length : Int) != (b.to_.length : Int)) = true := by simp; omega
      have d2 : (plan.length != b.to_.length) = true := by simp; omega
      have d3 : ((plan.length : Int) == (b.to_.length : Int)) = false := beq_eq_false_iff_ne.2 (by omega)
      have d4 : (plan.length == b.to_.length) = false := beq_eq_false_iff_ne.2 hlen
      have g0' := fun W (h : Below w3.heap.size w3 W) => (bcell h (lt_of_cell g0) _).trans g0
      have HG0 := Lib.hid g0'
      clear hlen HArg g0'
      go_wp2_with ((go_at_call 32; refine HCb3.out.mono ?_; rintro e w2 ⟨rfl, hb2⟩; have g0d := HG0.out w2 hb2))
      go_ret2
      exact ⟨by rw [HF.out]; rfl, HB3.out.trans (hb2.mono HB3.out.size)⟩
    have d1 : ((plan.length : Int) != (b.to_.length : Int)) = false := by simp; omega
    have d2 : (plan.length != b.to_.length) = false := by simp; omega
    have d3 : ((plan.length : Int) == (b.to_.length : Int)) = true := beq_iff_eq.2 (by omega)
    have d4 : (plan.length == b.to_.length) = true := beq_iff_eq.2 hlen
    have HPo : Hid (planOk ns.length b.to_.length plan = !plan.any (offB ns.length)) := by show _ = _; rw [plan_any, decide_eq_true hlen]; rfl
    have HGd := Lib.hid (fun W (h : Below w3.heap.size w3 W) => (HG.out W (HB31.out.trans (h.mono HB31.out.size))))
    clear hlen
    cases hany : plan.any (offB ns.length) with
    | true =>
      rw [hany] at HCf HPo
      have HF := Lib.hid (HArg.out (Or.inr HPo.out))
      clear hany HArg
      have hmf : ∀ (fn : Fn) (first cap : Array Value) (w : World), (Instr.makeFunc fn first cap).run Try.prog w = .ok (.func fn first cap) w := fun _ _ _ _ => rfl
      go_wp2_with (first
        | (go_at_call 32; refine HCb3.out.mono ?_; rintro e w2 ⟨rfl, hb2⟩; obtain ⟨y0, y1, y2, y3⟩ := HGd.out w2 hb2; have hb4 := HB3.out.trans (hb2.mono HB3.out.size))
        | (go_at_call 38; refine (HCf.out _ hb4 y2).mono ?_; rintro e w5 ⟨rfl, hb5⟩))
      go_ret2
      exact ⟨by rw [HF.out]; rfl, hb4.trans (hb5.mono hb4.size)⟩
    | false =>
      rw [hany] at HCf HPo
      have HRun := Lib.hid (fun q hq => right_run HE.out HCab.out HPo.out (q := q) hq)
      have HAl2 := Lib.hid (HAl.out HE.out HPo.out)
      clear hany HArg HAl
      have hmf : ∀ (fn : Fn) (first cap : Array Value) (w : World), (Instr.makeFunc fn first cap).run Try.prog w = .ok (.func fn first cap) w := fun _ _ _ _ => rfl
      go_upto_region 6 with (first
        | (go_at_call 32; refine HCb3.out.mono ?_; rintro e w2 ⟨rfl, hb2⟩; obtain ⟨y0, y1, y2, y3⟩ := HGd.out w2 hb2; have hb4 := HB3.out.trans (hb2.mono HB3.out.size))
        | (go_at_call 38; refine (HCf.out _ hb4 y2).mono ?_; rintro e w5 ⟨rfl, hb5⟩))
      refine abs_world (Q := fun W => Code.wp _ _ _ _ W) (F := fun W => Below w1.heap.size w1 W) _ (y3.trans (hb5.mono y3.size)) ?_
      clear g0 g1 g2 y0 y1 y2 y3 hb4 hb5 hb2 HCf HCb3 HB3 HB31 HGd d1 d2 d3 d4
      intro w6 hb6
      have HB6 := Lib.hid hb6
      clear hb6
      go_wp2
      go_loopw [33] (fun s33 wr => ∃ i : Nat, i ≤ plan.length ∧ s33 = .int .i64 (i : Int) ∧ Hid (∀ x, x < i → okP b ns (plan.take (x + 1)) x = true) ∧ Hid (Below w1.heap.size w1 wr)) (fun s33 _ => plan.length - (intOf s33).toNat)
      case atStart => exact ⟨0, Nat.zero_le _, rfl, fun x hx => absurd hx (Nat.not_lt_zero x), HB6.out⟩
      case round =>
        clear HB6
        obtain ⟨i, hi, rfl, HT, HB⟩ := hrel
        have HBw := Lib.hid (HB1.out.trans (HB.out.mono HB1.out.size))
        by_cases hlt : i < plan.length
        case pos =>
          have HA2 := Lib.hid (fun W hb => HAl2.out W hb i hlt)
          have HBr : Hid (Below w1.heap.size w1 wr.drew) := HB.out.drew
          have hcp0 : (i : Int) + 1 ≤ (cp : Int) := by omega
          have hcp1 : i + 1 ≤ cp := by omega
          have hcp2 : (0 : Int) ≤ (i : Int) + 1 := by omega
          have hcpw : IntKind.i64.wrap ((i : Int) + 1) = (i : Int) + 1 := IntWalk.i64_in _ (by omega)
          cases hq : okP b ns (plan.take (i + 1)) i with
          | false =>
            rw [hq] at HA2
            have HF := Lib.hid (HRun.out false ⟨fun h => (by rw [h i hlt] at hq; cases hq), fun h => (by cases h)⟩)
            clear hq HT HRun
            go_upto_region 9 with fail
            go_region_held3 (fun W' => W'.cell? ⟨w.heap.size, 0, none⟩ = some (.slice A b.to_.length c) ∧ W'.cell? ⟨w.heap.size, 1, none⟩ = some (.slice F b.fronts.length fc) ∧ W'.cell? ⟨w.heap.size + 1, 0, none⟩ = some (.slice An ns.length cn) ∧ Below w1.heap.size w1 W')
              (first | (with_reducible exact HG.out _ HBr.out) | (with_reducible exact HG.out _ (by assumption)) | fail)
              (first | (go_at_call 40; have hp := limb4 (by assumption); refine (HA2.out _ (HB1.out.trans (hp.mono HB1.out.size))).mono ?_; rintro e wd ⟨rfl, hbd⟩; have hbw := hp.trans (hbd.mono hp.size); clear hp hbd) | fail)
            go_wp2
            go_ret2
            exact ⟨by rw [HF.out]; rfl, HB1.out.trans (hbw.mono HB1.out.size)⟩
          | true =>
            rw [hq] at HA2
            have HT2 : Hid (∀ x, x < i + 1 → okP b ns (plan.take (x + 1)) x = true) := fun x hx => by
              by_cases e : x = i
              · rw [e]; exact hq
              · exact HT.out x (by omega)
            clear hq HT HRun
            go_upto_region 9 with fail
            go_region_held3 (fun W' => W'.cell? ⟨w.heap.size, 0, none⟩ = some (.slice A b.to_.length c) ∧ W'.cell? ⟨w.heap.size, 1, none⟩ = some (.slice F b.fronts.length fc) ∧ W'.cell? ⟨w.heap.size + 1, 0, none⟩ = some (.slice An ns.length cn) ∧ Below w1.heap.size w1 W')
              (first | (with_reducible exact HG.out _ HBr.out) | (with_reducible exact HG.out _ (by assumption)) | fail)
              (first | (go_at_call 40; have hp := limb4 (by assumption); refine (HA2.out _ (HB1.out.trans (hp.mono HB1.out.size))).mono ?_; rintro e wd ⟨rfl, hbd⟩; have hbw := hp.trans (hbd.mono hp.size); clear hp hbd) | fail)
            go_wp2
            go_roundw
            case rel => exact ⟨i + 1, by omega, by go_num, HT2.out, by assumption⟩
            case measure => simp [intOf]; omega
        case neg =>
          have HF := Lib.hid (HRun.out true ⟨fun _ => rfl, fun _ x hx => HT.out x (by omega)⟩)
          clear HT HRun
          go_wp2
          go_ret2
          exact ⟨by rw [HF.out]; rfl, HBw.out⟩
end Go.Proofs.Ytodjkifcbgmckaa
