/- IntarsiaFloats, walked: floats within the limit, and bound as often as told. -/
import Derived.Test.YthedmiilkeclaaaKRg
import Derived.Test.YthedmiilkeclaaaKFr
import Derived.Test.YthedmiilkeclaaaKI14
namespace Go.Proofs.Ythedmiilkeclaaa
open Go.RowKit Go.Shelf Go.Sort
open Go.Proofs.Ythedmiilkeclaaa.I34
set_option maxRecDepth 100000

theorem planE_zero {p : List (List Int)} {limit : Int} (h : (planE p limit).2 = 0) : ∃ lim : Nat, limit = (lim : Int) ∧ chk p = 0 ∧ 1 ≤ lim ∧ lim ≤ 40 ∧ (planE p limit).1 = progI p lim ∧ (progI p lim).length ≤ 2000 ∧ (runS bed0 (progI p lim)).2.2 = 0 := by
  by_cases he : chkL p limit = 0
  · obtain ⟨h1, h2, h3⟩ := chkL_zero he
    obtain ⟨lim, hlim⟩ : ∃ lim : Nat, limit = (lim : Int) := ⟨limit.toNat, by omega⟩
    subst hlim
    rw [planE_ok he] at h ⊢
    refine ⟨lim, rfl, h1, by omega, by omega, ?_⟩
    by_cases hl : 2000 < (progI p lim).length
    · rw [if_pos hl] at h; cases h
    · rw [if_neg hl] at h ⊢
      by_cases hr : (runS bed0 (progI p lim)).2.2 ≠ 0
      · rw [if_pos hr] at h; cases h
      · rw [if_neg hr]
        exact ⟨rfl, by omega, by simpa using hr⟩
  · unfold planE at h
    rw [if_pos he] at h
    exact absurd h he
theorem fsStep_some {lim : Nat} {prev : Option Ins} {tk : Nat} {last : Int} {i : Ins} {s : Nat × Int} (h : fsStep lim prev (tk, last) i = some s) (h1 : i.op ≠ 1) :
    (i.op = 5 → s = (tk, lastR prev last i)) ∧ (i.op = 4 → 0 ≤ lastR prev last i ∧ max (i.at_ - lastR prev last i) (lastR prev last i - i.at_) ≤ (lim : Int) + 1 ∧ s = (tk + 1, i.at_)) ∧ (i.op ≠ 5 → i.op ≠ 4 → (0 ≤ lastR prev last i → max (i.at_ - lastR prev last i) (lastR prev last i - i.at_) ≤ (lim : Int) + 1) ∧ s = (tk, i.at_)) := by
  unfold fsStep at h
  rw [if_neg h1] at h
  unfold gStep at h
  refine ⟨fun h5 => ?_, fun h4 => ?_, fun h5 h4 => ?_⟩
  · rw [if_pos h5] at h
    exact (Option.some.inj h).symm
  · rw [if_neg (by omega)] at h
    split at h
    · cases h
    · rename_i hn
      split at h
      · cases h
      · rename_i hf
        have hp : 0 ≤ lastR prev last i := by
          apply Int.not_lt.1
          intro hlt
          exact hn ⟨h4, hlt⟩
        refine ⟨hp, ?_, (Option.some.inj h).symm⟩
        apply Int.not_lt.1
        intro hlt
        exact hf ⟨hp, hlt⟩
  · rw [if_neg h5, if_neg (fun hh => h4 hh.1)] at h
    split at h
    · cases h
    · rename_i hf
      refine ⟨fun hp => ?_, (Option.some.inj h).symm⟩
      apply Int.not_lt.1
      intro hlt
      exact hf ⟨hp, hlt⟩
theorem lastI_take {l : List Ins} {i : Nat} (h : i < l.length) : lastI none (l.take (i + 1)) = some l[i] := by
  have e : (l.take (i + 1)).getLast? = some l[i] := by rw [List.take_add_one, List.getElem?_eq_getElem h, Option.toList_some, List.getLast?_append]; rfl
  unfold lastI
  rw [e]
theorem fs_next {lim : Nat} {l : List Ins} {r : Nat × Int} (h : fsRun lim none (0, -1) l = some r) {i : Nat} {cur : Ins} (hc : l[i]? = some cur) {s : Nat × Int} (hs : fsRun lim none (0, -1) (l.take i) = some s) :
    ∃ s', fsStep lim (lastI none (l.take i)) s cur = some s' ∧ fsRun lim none (0, -1) (l.take (i + 1)) = some s' := by
  obtain ⟨s', h'⟩ := fsRun_part h (i + 1)
  refine ⟨s', ?_, h'⟩
  rw [List.take_add_one, hc, Option.toList_some, fsRun_app, hs] at h'
  simp only at h'
  have e : ∀ p t, fsRun lim p t [cur] = fsStep lim p t cur := fun p t => by
    show (match fsStep lim p t cur with | none => none | some u => some u) = _
    cases fsStep lim p t cur <;> rfl
  rw [e] at h'
  exact h'
theorem progI_at {p : List (List Int)} {lim : Nat} (hv : chk p = 0) {i : Ins} (h : i ∈ progI p lim) : (i.op = 1 ∨ i.op = 3 ∨ i.op = 4 ∨ i.op = 5) ∧ ∃ k : Nat, i.at_ = (k : Int) ∧ k ≤ 100 := by
  rcases progI_mem h with ⟨c, -, rfl⟩ | ⟨t, row, c, right, k, hr, -, hk, rfl⟩
  · exact ⟨Or.inl rfl, 0, rfl, by omega⟩
  · refine ⟨Or.inr (opQ_vals row c _ k), k, rfl, ?_⟩
    have := ((chk_zero hv).2 row (List.mem_of_getElem? hr)).2
    omega
def wS (p : List (List Int)) (lim i c j : Nat) : Nat := ((came p i c j).map (· / (lim + 1))).sum
theorem wS_zero (p : List (List Int)) (lim : Nat) : wS p lim 0 0 0 = 0 := by unfold wS; rw [came_zero]; rfl
theorem wS_float {p : List (List Int)} {lim i c j : Nat} {f : Nat × Nat} (h : (flo (p.getD i []) ((c : Int) + 1))[j]? = some f) : wS p lim i c (j + 1) = wS p lim i c j + lenOf f / (lim + 1) := by
  unfold wS
  rw [came_float h, List.map_append, List.sum_append]
  simp
theorem wS_colour {p : List (List Int)} {lim i c j : Nat} (h : (rowLens (p.getD i []) c).length ≤ j) : wS p lim i (c + 1) 0 = wS p lim i c j := by unfold wS; rw [came_colour h]
theorem wS_row {p : List (List Int)} {lim i : Nat} (h : i < p.length) : wS p lim (i + 1) 0 0 = wS p lim i 6 0 := by unfold wS; rw [came_row h]
theorem wS_all {p : List (List Int)} {lim i : Nat} (h : p.length ≤ i) : wS p lim i 0 0 = sumBind lim p := by unfold wS; rw [came_all h]; rfl
theorem wS_le {p : List (List Int)} {lim i c j : Nat} (hv : chk p = 0) (hi : i < p.length) (hc : c < 6) : wS p lim i c j ≤ 6060000 := by
  have hp := came_prefix (j := j) hi hc
  have h1 := sum_le (· / (lim + 1)) 100 (came p i c j) (fun n hn => Nat.le_trans (Nat.div_le_self _ _) (lens_bound hv n (hp.subset hn)))
  have h2 := hp.length_le
  have h3 := lens_length hv
  unfold wS
  have h4 : (came p i c j).length * 100 ≤ 60600 * 100 := Nat.mul_le_mul_right _ (by omega)
  omega
/-- The program as it lies. -/
structure FlI (w : World) (a : Option Addr) (L : List Ins) (W : World) : Prop where
  lo : Below w.heap.size w W
  sl : SlX W W.heap.size a L
theorem FlI.to {w W W' : World} {a : Option Addr} {L : List Ins} (h : FlI w a L W) (hb : Below W.heap.size W W') : FlI w a L W' := ⟨h.lo.trans (hb.mono h.lo.size), (h.sl.below hb).more hb.size⟩
theorem drewN_b (W : World) (n : Nat) : Below W.heap.size W (W.drewN n) := ⟨rfl, rfl, rfl, Nat.le_refl _, fun _ _ => rfl⟩
set_option maxHeartbeats 64000000 in
theorem floats_walk (A : Option Addr) (c : Nat) (p : List (List Int)) (limit : Int) (w : World) (h : SlRows w w.heap.size A p) :
    Calls Try.prog 4 #[.slice A p.length c, .int .i64 limit] w fun e w' => e = .returned (.bool true) ∧ Below w.heap.size w w' := by
  have HAv := Lib.hid (alive34_any w)
  have HGr : Hid (∀ W, Below w.heap.size w W → Calls Try.prog 7 #[.slice A p.length c] W fun e w' => e = .returned (.bool (greatPic p)) ∧ W = w') := fun W hb => great_any A c p W ((h.below hb).more hb.size)
  cases hg : greatPic p with
  | true =>
    rw [hg] at HGr
    clear h hg
    go_enter Try.func4, Try.ntmps4
    go_wp2_with (first
      | (go_at_call 17; refine HAv.out.mono ?_; rintro e w1 ⟨rfl, hb1⟩)
      | (go_at_call 7; refine (HGr.out _ hb1).mono ?_; rintro e w2 ⟨rfl, rfl⟩))
    go_ret
    exact ⟨rfl, hb1⟩
  | false =>
  rw [hg] at HGr
  obtain ⟨hp150, hr150⟩ := greatPic_small hg
  have hrl : ∀ row ∈ p, row.length ≤ 4611686018427387904 := fun row hr => by have := hr150 row hr; omega
  have HCk : Hid (∀ W, Below w.heap.size w W → Calls Try.prog 15 #[.slice A p.length c] W fun e w' => e = .returned (.int .i64 (chk p)) ∧ Below W.heap.size W w') := fun W hb => rcheck_any A c p W ((h.below hb).more hb.size) hrl
  by_cases hc : chk p = 0
  case neg =>
    have d1 : (chk p != 0) = true := by simpa using hc
    obtain ⟨x, hx⟩ : ∃ x, x = chk p := ⟨_, rfl⟩
    rw [← hx] at HCk d1
    clear h hg hc hrl hp150 hr150 hx
    go_enter Try.func4, Try.ntmps4
    go_wp2_with (first
      | (go_at_call 17; refine HAv.out.mono ?_; rintro e w1 ⟨rfl, hb1⟩)
      | (go_at_call 7; refine (HGr.out _ hb1).mono ?_; rintro e w2 ⟨rfl, rfl⟩)
      | (go_at_call 15; refine (HCk.out _ hb1).mono ?_; rintro e w3 ⟨rfl, hb3⟩))
    go_ret
    exact ⟨rfl, hb1.trans (hb3.mono hb1.size)⟩
  rw [hc] at HCk
  have HS := Lib.hid h
  have HRl := Lib.hid hrl
  have HC := Lib.hid hc
  have HPz := Lib.hid (fun hz => planE_zero (p := p) (limit := limit) hz)
  clear h hg hrl hr150 hp150 hc
  go_enter Try.func4, Try.ntmps4
  go_upto_region 4 with (first
    | (go_at_call 17; refine HAv.out.mono ?_; rintro e w1 ⟨rfl, hb1⟩)
    | (go_at_call 7; refine (HGr.out _ hb1).mono ?_; rintro e w2 ⟨rfl, rfl⟩)
    | (go_at_call 15; refine (HCk.out _ hb1).mono ?_; rintro e w3 ⟨rfl, hb3⟩))
  refine abs_world (Q := fun W => Code.wp _ _ _ _ W) (F := fun W => Below w.heap.size w W) _ (hb1.trans (hb3.mono hb1.size)) ?_
  clear hb1 hb3 HAv HGr HCk
  intro W1 hb1
  have HS1 : Hid (SlRows W1 W1.heap.size A p) := (HS.out.below hb1).more hb1.size
  have HB1 := Lib.hid hb1
  clear hb1 HS
  have HPl := Lib.hid (plan_any A c p limit W1 HS1.out HRl.out)
  have HBn : Hid (∀ W, Below W1.heap.size W1 W → Calls Try.prog 12 #[.slice A p.length c, .int .i64 limit] W fun e w' => e = .returned (.tuple #[.int .i64 (binR p limit).1, .int .i64 (binR p limit).2]) ∧ Below W.heap.size W w') := fun W hb => Bindings_any A c p limit W ((HS1.out.below hb).more hb.size) HRl.out
  obtain ⟨pl, hpl⟩ : ∃ pl, pl = planE p limit := ⟨_, rfl⟩
  rw [← hpl] at HPl HPz
  obtain ⟨bn, hbn⟩ : ∃ bn, bn = binR p limit := ⟨_, rfl⟩
  rw [← hbn] at HBn
  have HBq := Lib.hid hbn
  clear hpl hbn
  obtain ⟨L, x⟩ := pl
  obtain ⟨n, f⟩ := bn
  go_upto_region 5 with ((go_at_call 18; refine HPl.out.mono ?_; rintro e w2 ⟨a6, c6, rfl, hsl2, hb2⟩))
  have HX : Hid (FlI W1 a6 L w2) := ⟨hb2, hsl2⟩
  refine abs_world (Q := fun W => Code.wp _ _ _ _ W) (F := fun W => FlI W1 a6 L W) _ HX.out ?_
  clear HX hsl2 hb2 HPl
  intro W2 hA2
  have HA2 := Lib.hid hA2
  clear hA2
  go_upto_region 6 with ((go_at_call 12; refine (HBn.out _ HA2.out.lo).mono ?_; rintro e w3 ⟨rfl, hb3⟩))
  have HX := Lib.hid (HA2.out.to hb3)
  refine abs_world (Q := fun W => Code.wp _ _ _ _ W) (F := fun W => FlI W1 a6 L W) _ HX.out ?_
  clear HX hb3 HA2 HBn
  intro W3 hA3
  have HA3 := Lib.hid hA3
  clear hA3
  have HEnd : Hid (∀ W, Below W1.heap.size W1 W → Below w.heap.size w W) := fun W hb => HB1.out.trans (hb.mono HB1.out.size)
  by_cases hx : x = 0
  case neg =>
    have d1 : (x != 0) = true := by simpa using hx
    have HE := Lib.hid (HEnd.out W3 HA3.out.lo)
    clear hx HPz
    go_wp2
    go_ret
    exact ⟨rfl, HE.out⟩
  subst hx
  obtain ⟨lim, hlim, -, hl1, hl40, hL, hLl, -⟩ := HPz.out rfl
  subst hlim
  have hL' : L = progI p lim := hL
  have hbz : n = ((sumBind lim p : Nat) : Int) ∧ f = 0 := by
    have e := HBq.out
    rw [binR_ok (chkL_ok HC.out (by omega)), Int.toNat_natCast] at e
    exact ⟨congrArg Prod.fst e, congrArg Prod.snd e⟩
  obtain ⟨hn, hf⟩ := hbz
  subst hf
  obtain ⟨lz, hscan⟩ := prog_scan (p := p) (lim := lim) HC.out
  rw [← hL'] at hscan hLl
  have HScan := Lib.hid hscan
  have HMem : Hid (∀ i ∈ L, (i.op = 1 ∨ i.op = 3 ∨ i.op = 4 ∨ i.op = 5) ∧ ∃ k : Nat, i.at_ = (k : Int) ∧ k ≤ 100) := fun i hi => progI_at HC.out (by rw [← hL']; exact hi)
  have HN := Lib.hid hn
  clear hscan hL hL' hn HPz HBq
  go_upto_region 10 with fail
  go_wp2
  go_loopw [10, 11, 12] (fun s10 s11 s12 wr => ∃ (i tk : Nat) (last : Int), i ≤ L.length ∧ s12 = .int .i64 (i : Int) ∧ s10 = .int .i64 (tk : Int) ∧ s11 = .int .i64 last ∧ -1 ≤ last ∧ last ≤ 101 ∧ tk ≤ i ∧ Hid (fsRun lim none (0, -1) (L.take i) = some (tk, last)) ∧ Hid (FlI W1 a6 L wr)) (fun _ _ s12 _ => L.length - (intOf s12).toNat)
  case atStart => exact ⟨0, 0, -1, Nat.zero_le _, rfl, rfl, rfl, by omega, by omega, by omega, by rw [List.take_zero]; rfl, HA3.out⟩
  case round =>
    obtain ⟨i, tk, last, hi, rfl, rfl, rfl, hla1, hla2, htk, HR, HA⟩ := hrel
    clear HA3
    by_cases hlt : i < L.length
    case pos =>
      obtain ⟨b, off, cur, hAe, hbl, hcur, hcc⟩ := HA.out.sl.at_ hlt
      subst hAe
      obtain ⟨sn, hst, hrn⟩ := fs_next HScan.out hcur HR.out
      obtain ⟨hops, ka, hka, hka100⟩ := HMem.out cur (List.mem_of_getElem? hcur)
      have HCell : Hid (∀ W, Below wr.heap.size wr W → InsAt W b (off + i * 7) cur) := fun W hb => hcc.below hb hbl
      have HPrev : Hid (∀ j, j + 1 = i → ∃ q, lastI none (L.take i) = some q ∧ InsAt wr b (off + j * 7) q) := fun j hj => by
        subst hj
        obtain ⟨b', off', q, e, -, hq, hqc⟩ := HA.out.sl.at_ (k := j) (by omega)
        cases e
        obtain ⟨hjl, e2⟩ := List.getElem?_eq_some_iff.1 hq
        exact ⟨q, by rw [lastI_take hjl, e2], hqc⟩
      have HP0 : Hid (i = 0 → lastI none (L.take i) = none) := fun e => by subst e; rfl
      obtain ⟨prev, hprev⟩ : ∃ prev, prev = lastI none (L.take i) := ⟨_, rfl⟩
      rw [← hprev] at hst HPrev HP0
      have HRn := Lib.hid hrn
      have HSt := Lib.hid hst
      clear hst hrn hprev hcur
      obtain ⟨y0, y1, y2, y3, y4, y5, y6⟩ := hcc
      by_cases h1 : cur.op = 1
      case pos =>
        have e1 : (cur.op == 1) = true := by simp [h1]
        have HQ : Hid (fsRun lim none (0, -1) (L.take (i + 1)) = some (tk, last)) := by
          show _ = _
          rw [HRn.out]
          have h2 := HSt.out
          unfold fsStep at h2
          rw [if_pos h1] at h2
          exact h2.symm
        clear h1 hops y1 y2 y3 y4 y5 y6
        go_wp2
        go_roundw
        case rel => exact ⟨i + 1, tk, last, by omega, by go_num, rfl, rfl, hla1, hla2, by omega, HQ.out, HA.out⟩
        case measure => simp [intOf]; omega
      case neg =>
        have e1 : (cur.op == 1) = false := by simpa using h1
        have HSs := Lib.hid (fsStep_some HSt.out h1)
        obtain ⟨rs, hrs⟩ : ∃ rs, rs = rsB prev cur := ⟨_, rfl⟩
        have HRs := Lib.hid hrs
        have hlr : lastR prev last cur = if rs then -1 else last := by rw [hrs]; rfl
        rw [hlr] at HSs
        have HOps := Lib.hid hops
        have HKa := Lib.hid hka
        clear h1 hrs hlr hops HSt
        rw [hka] at HSs y3
        go_upto_region 13 with fail
        go_cut [97] (fun s97 wx => s97 = .bool rs ∧ Hid (Below wr.heap.size wr wx))
        case first =>
          by_cases h0 : 0 < i
          case neg =>
            have e0 : decide (0 < i) = false := decide_eq_false h0
            have e0' : decide ((0 : Int) < (i : Int)) = false := decide_eq_false (by omega)
            have HV : Hid (false = rs) := by show _ = _; rw [HRs.out, HP0.out (by omega)]; rfl
            clear h0
            go_quiet (fail)
            go_wp2_with fail
            go_meet
            exact ⟨by rw [HV.out], drewN_b _ _⟩
          case pos =>
            obtain ⟨j, hj⟩ : ∃ j, j + 1 = i := ⟨i - 1, by omega⟩
            obtain ⟨q, hq, z0, z1, z2, z3, z4, z5, z6⟩ := HPrev.out j hj
            have e0 : decide (0 < i) = true := decide_eq_true h0
            have e0' : decide ((0 : Int) < (i : Int)) = true := decide_eq_true (by omega)
            have hrs : rs = (decide (q.op = 1) || (decide (q.car ≠ cur.car) || decide (q.right ≠ cur.right))) := by rw [HRs.out, hq]; rfl
            have ht : ((i : Int) - 1).toNat = j := by omega
            have ht2 : IntKind.i64.wrap ((i : Int) - 1) = (i : Int) - 1 := IntWalk.i64_in _ (by omega)
            have ht3 : (0 : Int) ≤ (i : Int) - 1 := by omega
            have ht3b : (1 : Int) ≤ (i : Int) := by omega
            have ht4 : (i : Int) - 1 < (L.length : Int) := by omega
            have ht5 : (0 : Int) ≤ (i : Int) := by omega
            have ht6 : (i : Int) < (L.length : Int) := by omega
            have HRs2 := Lib.hid hrs
            clear h0 hj hq hrs
            by_cases g1 : q.op = 1
            · have k1 : (q.op == 1) = true := by simp [g1]
              have HV : Hid (true = rs) := by show _ = _; rw [HRs2.out, decide_eq_true g1]; rfl
              clear g1
              go_quiet (fail)
              go_wp2_with fail
              go_meet
              exact ⟨by rw [HV.out], drewN_b _ _⟩
            have k1 : (q.op == 1) = false := by simpa using g1
            by_cases g2 : q.car = cur.car
            case neg =>
              have k2 : (q.car != cur.car) = true := by simpa using g2
              have HV : Hid (true = rs) := by show _ = _; rw [HRs2.out, decide_eq_true g2]; simp
              clear g1 g2
              go_quiet (fail)
              go_wp2_with fail
              go_meet
              exact ⟨by rw [HV.out], drewN_b _ _⟩
            have k2 : (q.car != cur.car) = false := by simpa using g2
            have HV : Hid ((!(q.right == cur.right)) = rs) := by
              show _ = _
              rw [HRs2.out, decide_eq_false g1, decide_eq_false (fun h => h g2)]
              cases q.right <;> cases cur.right <;> rfl
            clear g1 g2
            go_quiet (fail)
            go_wp2_with fail
            go_meet
            exact ⟨by rw [HV.out], drewN_b _ _⟩
        case rest =>
          obtain ⟨rfl, HBc⟩ := hcut
          have HAc := Lib.hid (HA.out.to HBc.out)
          have HAd : Hid (∀ n, FlI W1 (some ⟨b, off, none⟩) L (wc.drewN n)) := fun n => HAc.out.to (drewN_b _ _)
          obtain ⟨y0, y1, y2, y3, y4, y5, y6⟩ := HCell.out wc HBc.out
          rw [HKa.out] at y3
          have hi1 : (0 : Int) ≤ (i : Int) := by omega
          have hi2 : (i : Int) < (L.length : Int) := by omega
          clear HCell HPrev HP0 HRs HBc HA hbl y1 y2 y4 y5 y6
          cases rs with
          | true =>
            simp only [if_true] at HSs
            by_cases h5 : cur.op = 5
            · have e5 : (cur.op == 5) = true := by simp [h5]
              have HQ : Hid (fsRun lim none (0, -1) (L.take (i + 1)) = some (tk, (-1))) := by show _ = _; rw [HRn.out, HSs.out.1 h5]
              clear h5 HSs HOps
              go_wp2
              go_roundw
              case rel => exact ⟨i + 1, tk, (-1), by omega, by go_num, rfl, rfl, by omega, by omega, by omega, HQ.out, HAc.out⟩
              case measure => simp [intOf]; omega
            have e5 : (cur.op == 5) = false := by simpa using h5
            have h4 : cur.op ≠ 4 := fun h => by have := (HSs.out.2.1 h).1; omega
            have e4 : (cur.op == 4) = false := by simpa using h4
            have HQ : Hid (fsRun lim none (0, -1) (L.take (i + 1)) = some (tk, (ka : Int))) := by show _ = _; rw [HRn.out, (HSs.out.2.2 h5 h4).2]
            have el : decide ((0 : Int) ≤ (-1 : Int)) = false := by decide
            clear h5 h4 HSs HOps
            go_upto_region 20 with fail
            go_quiet (fail)
            go_wp2
            go_roundw
            case rel => exact ⟨i + 1, tk, ka, by omega, by go_num, rfl, rfl, by omega, by omega, by omega, HQ.out, HAd.out _⟩
            case measure => simp [intOf]; omega
          | false =>
            simp only [Bool.false_eq_true, if_false] at HSs
            by_cases h5 : cur.op = 5
            · have e5 : (cur.op == 5) = true := by simp [h5]
              have HQ : Hid (fsRun lim none (0, -1) (L.take (i + 1)) = some (tk, last)) := by show _ = _; rw [HRn.out, HSs.out.1 h5]
              clear h5 HSs HOps
              go_wp2
              go_roundw
              case rel => exact ⟨i + 1, tk, last, by omega, by go_num, rfl, rfl, by omega, by omega, by omega, HQ.out, HAc.out⟩
              case measure => simp [intOf]; omega
            have e5 : (cur.op == 5) = false := by simpa using h5
            by_cases h4 : cur.op = 4
            · have e4 : (cur.op == 4) = true := by simp [h4]
              obtain ⟨hl0, hfar, hsn⟩ := HSs.out.2.1 h4
              have HQ : Hid (fsRun lim none (0, -1) (L.take (i + 1)) = some (tk + 1, (ka : Int))) := by show _ = _; rw [HRn.out, hsn]
              have v1 : IntKind.i64.wrap ((ka : Int) - last) = (ka : Int) - last := IntWalk.i64_in _ (by omega)
              have v2 : IntKind.i64.wrap (last - (ka : Int)) = last - (ka : Int) := IntWalk.i64_in _ (by omega)
              have v3 : IntKind.i64.wrap ((lim : Int) + 1) = (lim : Int) + 1 := IntWalk.i64_in _ (by omega)
              have el : decide ((0 : Int) ≤ last) = true := decide_eq_true hl0
              have el2 : decide (last < 0) = false := decide_eq_false (by omega)
              have ef : decide ((lim : Int) + 1 < max ((ka : Int) - last) (last - (ka : Int))) = false := decide_eq_false (by omega)
              clear h5 h4 HSs HOps hsn hfar
              go_upto_region 20 with fail
              go_quiet (fail)
              clear v1 v2 v3
              go_wp2
              go_roundw
              case rel => exact ⟨i + 1, tk + 1, ka, by omega, by go_num, by first | rfl | go_num, rfl, by omega, by omega, by omega, HQ.out, HAd.out _⟩
              case measure => simp [intOf]; omega
            have e4 : (cur.op == 4) = false := by simpa using h4
            obtain ⟨hfar0, hsn⟩ := HSs.out.2.2 h5 h4
            have HQ : Hid (fsRun lim none (0, -1) (L.take (i + 1)) = some (tk, (ka : Int))) := by show _ = _; rw [HRn.out, hsn]
            by_cases hl0 : 0 ≤ last
            · have hfar := hfar0 hl0
              have v1 : IntKind.i64.wrap ((ka : Int) - last) = (ka : Int) - last := IntWalk.i64_in _ (by omega)
              have v2 : IntKind.i64.wrap (last - (ka : Int)) = last - (ka : Int) := IntWalk.i64_in _ (by omega)
              have v3 : IntKind.i64.wrap ((lim : Int) + 1) = (lim : Int) + 1 := IntWalk.i64_in _ (by omega)
              have el : decide ((0 : Int) ≤ last) = true := decide_eq_true hl0
              have el2 : decide (last < 0) = false := decide_eq_false (by omega)
              have ef : decide ((lim : Int) + 1 < max ((ka : Int) - last) (last - (ka : Int))) = false := decide_eq_false (by omega)
              clear h5 h4 HSs HOps hsn hfar hfar0
              go_upto_region 20 with fail
              go_quiet (fail)
              clear v1 v2 v3
              go_wp2
              go_roundw
              case rel => exact ⟨i + 1, tk, ka, by omega, by go_num, by first | rfl | go_num, rfl, by omega, by omega, by omega, HQ.out, HAd.out _⟩
              case measure => simp [intOf]; omega
            have el : decide ((0 : Int) ≤ last) = false := decide_eq_false hl0
            clear h5 h4 HSs HOps hsn hfar0 hl0
            go_upto_region 20 with fail
            go_quiet (fail)
            go_wp2
            go_roundw
            case rel => exact ⟨i + 1, tk, ka, by omega, by go_num, by first | rfl | go_num, rfl, by omega, by omega, by omega, HQ.out, HAd.out _⟩
            case measure => simp [intOf]; omega
    case neg =>
      obtain rfl : i = L.length := by omega
      have HTk : Hid ((tk : Int) = n) := by
        have h1 := HR.out
        rw [List.take_length, HScan.out] at h1
        have h2 : sumBind lim p = tk := congrArg Prod.fst (Option.some.inj h1)
        rw [HN.out, h2]
        rfl
      have HB := Lib.hid HA.out.lo
      have HRw := Lib.hid (chk_zero HC.out)
      have hp100 := HRw.out.1
      clear HR HA HScan HMem hi hlt hla1 hla2 htk hLl
      go_wp2
      go_loopw [13, 14] (fun s13 s14 wr => ∃ (i S : Nat), i ≤ p.length ∧ s14 = .int .i64 (i : Int) ∧ s13 = .int .i64 (S : Int) ∧ S ≤ 6060000 ∧ Hid (S = wS p lim i 0 0) ∧ Hid (Below W1.heap.size W1 wr)) (fun _ s14 _ => p.length - (intOf s14).toNat)
      case atStart => exact ⟨0, 0, Nat.zero_le _, rfl, rfl, by omega, (wS_zero p lim).symm, HB.out⟩
      case round =>
        obtain ⟨i, S, hi, rfl, rfl, hS, HS2, HB2⟩ := hrel
        clear HB
        obtain ⟨wo, hwo⟩ : ∃ wo : World, wo = wr := ⟨_, rfl⟩
        rw [← hwo] at HB2 ⊢
        clear hwo
        by_cases hlt : i < p.length
        case neg =>
          obtain rfl : i = p.length := by omega
          have g1 : ((tk : Int) == n) = true := by simp [HTk.out]
          have g2 : (n == (S : Int)) = true := by
            have := HS2.out
            rw [wS_all (Nat.le_refl _)] at this
            simp [HN.out, this]
          have HE := Lib.hid (HEnd.out wo HB2.out)
          clear hlt hi HS2 HB2
          go_wp2
          go_ret
          exact ⟨rfl, HE.out⟩
        case pos =>
          obtain ⟨row, hrow⟩ : ∃ row, p[i]? = some row := ⟨_, List.getElem?_eq_getElem hlt⟩
          have hgd : p.getD i [] = row := by rw [List.getD_eq_getElem?_getD, hrow]; rfl
          have HGd := Lib.hid hgd
          have hr101 := (HRw.out.2 row (List.mem_of_getElem? hrow)).2
          have HFo : Hid (∀ (q : Int) W, 1 ≤ q → q ≤ 6 → Below W1.heap.size W1 W → Calls Try.prog 8 #[.slice A p.length c, .int .i64 (i : Int), .int .i64 q] W fun e w' => ∃ a c', e = .returned (.tuple #[.slice a (flo row q).length c', .int .i64 0]) ∧ SlP w' w'.heap.size a (flo row q) ∧ Below W.heap.size W w') := fun q W h1 h2 hb => by
            have h3 := Floats_any A c p i q W ((HS1.out.below hb).more hb.size) HRl.out
            rw [flR_ok HC.out ⟨h1, h2⟩ hrow] at h3
            refine Calls.mono h3 ?_
            rintro e w' ⟨v, he, ho, hbb⟩
            obtain ⟨a, c', rfl⟩ := own_form ho
            exact ⟨a, c', he, SlP.of_own ho, hbb⟩
          clear hrow hgd
          go_wp2
          go_loopw [13, 15] (fun s13 s15 wr => ∃ (cc S : Nat) (q : Int), cc ≤ 6 ∧ s15 = .int .i64 q ∧ 1 ≤ q ∧ q ≤ 7 ∧ Hid (q = (cc : Int) + 1) ∧ s13 = .int .i64 (S : Int) ∧ S ≤ 6060000 ∧ Hid (S = wS p lim i cc 0) ∧ Hid (Below W1.heap.size W1 wr)) (fun _ s15 _ => 7 - (intOf s15).toNat)
          case atStart => exact ⟨0, S, 1, by omega, rfl, by omega, by omega, by show _ = _; omega, rfl, hS, HS2.out, HB2.out⟩
          case round =>
            obtain ⟨cc, S2, q, hcc, rfl, hq1, hq7, HQ, rfl, hS2, HSc, HB3⟩ := hrel
            clear HB2 HS2 hS
            obtain ⟨wq, hwq⟩ : ∃ wq : World, wq = wr := ⟨_, rfl⟩
            rw [← hwq] at HB3 ⊢
            clear hwq
            by_cases hc6 : q ≤ 6
            case neg =>
              have d0 : decide (q ≤ 6) = false := decide_eq_false hc6
              have HSn : Hid (S2 = wS p lim (i + 1) 0 0) := by
                show _ = _
                rw [wS_row hlt, HSc.out, show cc = 6 by have := HQ.out; omega]
              clear HSc hc6 HQ
              go_wp2
              go_roundw
              case rel => exact ⟨i + 1, S2, by omega, by go_num, rfl, hS2, HSn.out, HB3.out⟩
              case measure => simp [intOf]; omega
            case pos =>
              have d0 : decide (q ≤ 6) = true := decide_eq_true hc6
              have HF := Lib.hid (HFo.out q wq hq1 hc6 HB3.out)
              have HCc : Hid (cc < 6) := by show cc < 6; have := HQ.out; omega
              obtain ⟨fl, hfl⟩ : ∃ fl, fl = flo row q := ⟨_, rfl⟩
              rw [← hfl] at HF
              have hfl1 : fl.length ≤ 101 := by have := floTo_len row q row.length; rw [hfl]; unfold flo; omega
              have HFl : Hid (fl = flo (p.getD i []) ((cc : Int) + 1)) := by show _ = _; rw [HGd.out, hfl, HQ.out]
              have HFr : Hid (∀ (j : Nat) (f : Nat × Nat), fl[j]? = some f → f.1 + 1 < f.2 ∧ f.2 < row.length) := fun j f hf => by rw [hfl] at hf; exact Row.bounds (flo_row row q) hf
              clear hfl hc6
              go_upto_region 31 with ((go_at_call 8; refine HF.out.mono ?_; rintro e w5 ⟨a16, c16, rfl, hs5, hb5⟩))
              have HX : Hid (Below W1.heap.size W1 w5 ∧ SlP w5 w5.heap.size a16 fl) := ⟨HB3.out.trans (hb5.mono HB3.out.size), hs5⟩
              refine abs_world (Q := fun W => Code.wp _ _ _ _ W) (F := fun W => Below W1.heap.size W1 W ∧ SlP W W.heap.size a16 fl) _ HX.out ?_
              clear HX hs5 hb5 HF HB3
              rintro W6 ⟨hb6, hs6⟩
              have HB6 := Lib.hid hb6
              have HS6 := Lib.hid hs6
              clear hb6 hs6
              go_wp2
              go_loopw [13, 18] (fun s13 s18 wr => ∃ (j S : Nat), j ≤ fl.length ∧ s18 = .int .i64 (j : Int) ∧ s13 = .int .i64 (S : Int) ∧ S ≤ 6060000 ∧ Hid (S = wS p lim i cc j) ∧ Hid (Below W1.heap.size W1 wr) ∧ Hid (SlP wr wr.heap.size a16 fl)) (fun _ s18 _ => fl.length - (intOf s18).toNat)
              case atStart => exact ⟨0, S2, Nat.zero_le _, rfl, rfl, hS2, HSc.out, HB6.out, HS6.out⟩
              case round =>
                obtain ⟨j, S3, hj, rfl, rfl, hS3, HSj, HB7, HS7⟩ := hrel
                clear HB6 HS6 HSc hS2
                by_cases hjl : j < fl.length
                case pos =>
                  obtain ⟨f, hf⟩ : ∃ f, fl[j]? = some f := ⟨_, List.getElem?_eq_getElem hjl⟩
                  obtain ⟨b, hb, -, hcs⟩ := HS7.out (fun e => by rw [e] at hf; simp at hf)
                  subst hb
                  obtain ⟨x0, x1⟩ := hcs j f hf
                  obtain ⟨hf1, hf2⟩ := HFr.out j f hf
                  have hnx := wS_float (p := p) (lim := lim) (i := i) (c := cc) (j := j) (f := f) (by rw [← HFl.out]; exact hf)
                  have hle := wS_le (lim := lim) (j := j + 1) HC.out hlt HCc.out
                  rw [hnx, ← HSj.out] at hle
                  obtain ⟨Q, hQ⟩ : ∃ Q, Q = lenOf f / (lim + 1) := ⟨_, rfl⟩
                  rw [← hQ] at hle hnx
                  have HNx : Hid (S3 + Q = wS p lim i cc (j + 1)) := by show _ = _; rw [hnx, HSj.out]
                  have hqv : Int.tdiv ((f.2 : Int) - (f.1 : Int) - 1) ((lim : Int) + 1) = (Q : Int) := by
                    have e : (f.2 : Int) - (f.1 : Int) - 1 = ((lenOf f : Nat) : Int) := by unfold lenOf; omega
                    have e2 : (lim : Int) + 1 = ((lim + 1 : Nat) : Int) := by omega
                    rw [e, e2, hQ]
                    rfl
                  have v1 : IntKind.i64.wrap ((f.2 : Int) - (f.1 : Int)) = (f.2 : Int) - (f.1 : Int) := IntWalk.i64_in _ (by omega)
                  have v2 : IntKind.i64.wrap ((f.2 : Int) - (f.1 : Int) - 1) = (f.2 : Int) - (f.1 : Int) - 1 := IntWalk.i64_in _ (by omega)
                  have v3 : IntKind.i64.wrap ((lim : Int) + 1) = (lim : Int) + 1 := IntWalk.i64_in _ (by omega)
                  have v4 : IntKind.i64.wrap (Q : Int) = (Q : Int) := IntWalk.i64_in _ (by omega)
                  have v5 : IntKind.i64.wrap ((S3 : Int) + (Q : Int)) = (S3 : Int) + (Q : Int) := IntWalk.i64_in _ (by omega)
                  have hz : ¬ ((lim : Int) + 1 = 0) := by omega
                  have hj0 : (0 : Int) ≤ (j : Int) := by omega
                  have hj1 : (j : Int) < (fl.length : Int) := by omega
                  have HSl : Hid (∀ n, SlP (wr.drewN n) (wr.drewN n).heap.size (some ⟨b, 0, none⟩) fl) := fun n => (HS7.out.below (drewN_b wr n)).more (Nat.le_refl _)
                  have HBl : Hid (∀ n, Below W1.heap.size W1 (wr.drewN n)) := fun n => HB7.out.trans ((drewN_b wr n).mono HB7.out.size)
                  have hle2 : S3 + Q ≤ 6060000 := hle
                  clear hcs hf hnx hQ HSj hf1 hf2 hle
                  go_upto_region 36 with fail
                  go_quiet (fail)
                  clear v1 v2 v3 v4 v5 hqv hz x0 x1
                  go_wp2
                  go_roundw
                  case rel => exact ⟨j + 1, S3 + Q, by omega, by go_num, by go_num, by omega, HNx.out, HBl.out _, HSl.out _⟩
                  case measure => simp [intOf]; omega
                case neg =>
                  obtain rfl : j = fl.length := by omega
                  have HSn : Hid (S3 = wS p lim i (cc + 1) 0) := by
                    show _ = _
                    rw [wS_colour (j := fl.length) (by unfold rowLens; rw [List.length_map, ← HFl.out]; exact Nat.le_refl _), HSj.out]
                  have hcx := HCc.out
                  have HQ2 : Hid (q + 1 = ((cc + 1 : Nat) : Int) + 1) := by show _ = _; have := HQ.out; omega
                  have HQ6 : Hid (q ≤ 6) := by show q ≤ 6; have := HQ.out; omega
                  clear HSj hj hjl HS7
                  go_wp2
                  go_roundw
                  case rel => exact ⟨cc + 1, S3, q + 1, by omega, rfl, by omega, by have := HQ6.out; omega, HQ2.out, rfl, hS3, HSn.out, HB7.out⟩
                  case measure => simp [intOf]; have := HQ6.out; omega
end Go.Proofs.Ythedmiilkeclaaa
