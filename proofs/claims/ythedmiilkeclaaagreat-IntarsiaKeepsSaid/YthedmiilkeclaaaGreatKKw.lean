/- IntarsiaKeeps, walked: the plan runs clean, shows the picture, and its made loops are its knits and tucks in order. -/
import Derived.Test.YthedmiilkeclaaaGreatKRg
import Derived.Test.YthedmiilkeclaaaGreatKFr
import Derived.Test.YthedmiilkeclaaaGreatKI14
import Derived.Test.YthedmiilkeclaaaGreatKKq
import Derived.Test.YthedmiilkeclaaaGreatKSh
import Derived.Test.YthedmiilkeclaaaGreatKSs
namespace Go.Proofs.YthedmiilkeclaaaGreat
open Go.RowKit Go.Shelf Go.Sort
open Go.Proofs.YthedmiilkeclaaaGreat.I34
set_option maxRecDepth 100000

theorem planE_zero {p : List (List Int)} {limit : Int} (h : (planE p limit).2 = 0) : ∃ lim : Nat, limit = (lim : Int) ∧ chk p = 0 ∧ 1 ≤ lim ∧ lim ≤ 40 ∧ (planE p limit).1 = progI p lim ∧ (progI p lim).length ≤ 2000 ∧ (runS bed0 (progI p lim)).2.2 = 0 := by
  by_cases he : chkL p limit = 0
  · obtain ⟨h1, h2, h3⟩ := chkL_zero he
    obtain ⟨lim, hlim⟩ : ∃ lim : Nat, limit = (lim : Int) := ⟨limit.toNat, by omega⟩
    subst hlim
    rw [planE_ok he] at h ⊢
    refine ⟨lim, rfl, h1, by omega, by omega, ?_⟩
    by_cases hl : 2000 < (progI p lim).length
    · rw [if_pos hl] at h; cases h
    · rw [if_neg hl] at h ⊢
      by_cases hr : (runS bed0 (progI p lim)).2.2 ≠ 0
      · rw [if_pos hr] at h; cases h
      · rw [if_neg hr]
        exact ⟨rfl, by omega, by simpa using hr⟩
  · unfold planE at h
    rw [if_pos he] at h
    exact absurd h he
theorem planE_err {p : List (List Int)} {limit : Int} (hc : chk p = 0) (h : (planE p limit).2 ≠ 0) : ((planE p limit).2 = 4 ∨ (planE p limit).2 = 2) ∧ (planE p limit).1 = [] := by
  by_cases he : chkL p limit = 0
  · unfold planE at h ⊢
    rw [if_neg (by simpa using he)] at h ⊢
    by_cases hl : 2000 < (progI p limit.toNat).length
    · rw [if_pos hl]; exact ⟨Or.inl rfl, rfl⟩
    · rw [if_neg hl] at h ⊢
      by_cases hr : (runS bed0 (progI p limit.toNat)).2.2 ≠ 0
      · rw [if_pos hr]; exact ⟨Or.inl rfl, rfl⟩
      · rw [if_neg hr] at h; exact absurd rfl h
  · unfold planE
    rw [if_pos he]
    have h2 : chkL p limit = 2 := by
      by_cases hlm : limit < 1 ∨ 40 < limit
      · exact chkL_arg hc hlm
      · exact absurd (chkL_ok hc (by omega)) he
    exact ⟨Or.inr h2, rfl⟩
theorem progI_nil0 (lim : Nat) : progI [] lim = [] := rfl
/-- The program as it lies. -/
structure FlI (w : World) (a : Option Addr) (L : List Ins) (W : World) : Prop where
  lo : Below w.heap.size w W
  sl : SlX W W.heap.size a L
theorem FlI.to {w W W' : World} {a : Option Addr} {L : List Ins} (h : FlI w a L W) (hb : Below W.heap.size W W') : FlI w a L W' := ⟨h.lo.trans (hb.mono h.lo.size), (h.sl.below hb).more hb.size⟩
theorem drewN_b (W : World) (n : Nat) : Below W.heap.size W (W.drewN n) := ⟨rfl, rfl, rfl, Nat.le_refl _, fun _ _ => rfl⟩
/-- The program and the made loops, as they lie. -/
structure KA (w : World) (a : Option Addr) (L : List Ins) (bx : Nat) (s : BedS) (am : Option Addr) (cm : Nat) (W : World) : Prop where
  lo : Below w.heap.size w W
  sl : SlX W W.heap.size a L
  bxl : bx < W.heap.size
  box : W.cell? ⟨bx, 3, none⟩ = some (.slice am s.made.length cm)
  made : SlM W W.heap.size am s.made
theorem KA.to {w W W' : World} {a : Option Addr} {L : List Ins} {bx : Nat} {s : BedS} {am : Option Addr} {cm : Nat} (h : KA w a L bx s am cm W) (hb : Below W.heap.size W W') : KA w a L bx s am cm W' :=
  ⟨h.lo.trans (hb.mono h.lo.size), (h.sl.below hb).more hb.size, Nat.lt_of_lt_of_le h.bxl hb.size, (bcell hb h.bxl 3).trans h.box, (h.made.below hb).more hb.size⟩
set_option maxHeartbeats 64000000 in
theorem keeps_walk (A : Option Addr) (c : Nat) (p : List (List Int)) (limit : Int) (w : World) (h : SlRows w w.heap.size A p) :
    Calls Tryz.prog 4 #[.slice A p.length c, .int .i64 limit] w fun e w' => e = .returned (.bool true) ∧ Below w.heap.size w w' := by
  have HAv := Lib.hid (alive34_any w)
  have HGr : Hid (∀ W, Below w.heap.size w W → Calls Tryz.prog 14 #[.slice A p.length c] W fun e w' => e = .returned (.bool (greatPic p)) ∧ W = w') := fun W hb => great_any A c p W ((h.below hb).more hb.size)
  cases hg : greatPic p with
  | true =>
    rw [hg] at HGr
    clear h hg
    go_enter Tryz.func4, Tryz.ntmps4
    go_wp2_with (first
      | (go_at_call 11; refine HAv.out.mono ?_; rintro e w1 ⟨rfl, hb1⟩)
      | (go_at_call 14; refine (HGr.out _ hb1).mono ?_; rintro e w2 ⟨rfl, rfl⟩))
    go_ret
    exact ⟨rfl, hb1⟩
  | false =>
  rw [hg] at HGr
  obtain ⟨hp150, hr150⟩ := greatPic_small hg
  have hrl : ∀ row ∈ p, row.length ≤ 4611686018427387904 := fun row hr => by have := hr150 row hr; omega
  have HCk : Hid (∀ W, Below w.heap.size w W → Calls Tryz.prog 15 #[.slice A p.length c] W fun e w' => e = .returned (.int .i64 (chk p)) ∧ Below W.heap.size W w') := fun W hb => rcheck_any A c p W ((h.below hb).more hb.size) hrl
  by_cases hc : chk p = 0
  case neg =>
    have d1 : (chk p != 0) = true := by simpa using hc
    obtain ⟨x, hx⟩ : ∃ x, x = chk p := ⟨_, rfl⟩
    rw [← hx] at HCk d1
    clear h hg hc hrl hp150 hr150 hx
    go_enter Tryz.func4, Tryz.ntmps4
    go_wp2_with (first
      | (go_at_call 11; refine HAv.out.mono ?_; rintro e w1 ⟨rfl, hb1⟩)
      | (go_at_call 14; refine (HGr.out _ hb1).mono ?_; rintro e w2 ⟨rfl, rfl⟩)
      | (go_at_call 15; refine (HCk.out _ hb1).mono ?_; rintro e w3 ⟨rfl, hb3⟩))
    go_ret
    exact ⟨rfl, hb1.trans (hb3.mono hb1.size)⟩
  rw [hc] at HCk
  have HS := Lib.hid h
  have HRl := Lib.hid hrl
  have HC := Lib.hid hc
  have HPz := Lib.hid (fun hz => planE_zero (p := p) (limit := limit) hz)
  have HPe := Lib.hid (fun hz => planE_err (p := p) (limit := limit) hc hz)
  have HR150 := Lib.hid (⟨hp150, hr150⟩ : p.length ≤ 150 ∧ ∀ row ∈ p, row.length ≤ 150)
  clear h hg hrl hr150 hp150 hc
  go_enter Tryz.func4, Tryz.ntmps4
  go_upto_region 4 with (first
    | (go_at_call 11; refine HAv.out.mono ?_; rintro e w1 ⟨rfl, hb1⟩)
    | (go_at_call 14; refine (HGr.out _ hb1).mono ?_; rintro e w2 ⟨rfl, rfl⟩)
    | (go_at_call 15; refine (HCk.out _ hb1).mono ?_; rintro e w3 ⟨rfl, hb3⟩))
  refine abs_world (Q := fun W => Code.wp _ _ _ _ W) (F := fun W => Below w.heap.size w W) _ (hb1.trans (hb3.mono hb1.size)) ?_
  clear hb1 hb3 HAv HGr HCk
  intro W1 hb1
  have HS1 : Hid (SlRows W1 W1.heap.size A p) := (HS.out.below hb1).more hb1.size
  have HB1 := Lib.hid hb1
  clear hb1 HS
  have HPl := Lib.hid (plan_any A c p limit W1 HS1.out HRl.out)
  have HEnd : Hid (∀ W, Below W1.heap.size W1 W → Below w.heap.size w W) := fun W hb => HB1.out.trans (hb.mono HB1.out.size)
  have HSS : Hid (∀ W, Below W1.heap.size W1 W → SlRows W W.heap.size A p) := fun W hb => (HS1.out.below hb).more hb.size
  obtain ⟨pl, hpl⟩ : ∃ pl, pl = planE p limit := ⟨_, rfl⟩
  rw [← hpl] at HPl HPz HPe
  clear hpl
  obtain ⟨L, x⟩ := pl
  go_upto_region 5 with ((go_at_call 5; refine HPl.out.mono ?_; rintro e w2 ⟨a6, c6, rfl, hsl2, hb2⟩))
  have HX : Hid (FlI W1 a6 L w2) := ⟨hb2, hsl2⟩
  refine abs_world (Q := fun W => Code.wp _ _ _ _ W) (F := fun W => FlI W1 a6 L W) _ HX.out ?_
  clear HX hsl2 hb2 HPl HS1 HB1
  intro W2 hA2
  have HA2 := Lib.hid hA2
  clear hA2
  by_cases hx : x = 0
  case neg =>
    have d1 : (x != 0) = true := by simpa using hx
    obtain ⟨hx2, hL0⟩ := HPe.out hx
    have HE := Lib.hid (HEnd.out W2 HA2.out.lo)
    have hL0' : L = [] := hL0
    subst hL0'
    have hx2' : x = 4 ∨ x = 2 := hx2
    clear hx HPz HPe hL0 hx2
    rcases hx2' with rfl | rfl
    · go_wp2
      go_ret
      exact ⟨rfl, HE.out⟩
    · go_wp2
      go_ret
      exact ⟨rfl, HE.out⟩
  subst hx
  obtain ⟨lim, hlim, -, hl1, hl40, hL, hLl, hrz⟩ := HPz.out rfl
  subst hlim
  have hL' : L = progI p lim := hL
  obtain ⟨hie, hrk, hmd⟩ := prog_made hLl hrz
  have hwf := fun i hi => progI_wf (p := p) (lim := lim) (i := i) hi
  rw [← hL'] at hLl hrz hie hrk hmd hwf
  have HL := Lib.hid hL'
  have HIe := Lib.hid hie
  have hrn := brun_any bed0 bedP0 ⟨fun h hh => (by cases hh), fun h hh => (by cases hh)⟩ ⟨by simp [bed0], by simp [bed0], by simp [bed0]⟩ L (by omega) (fun _ _ => by simp only [bed0, List.length_nil]; omega) hwf a6 c6 W2 (bedAt0 _ _) HA2.out.sl
  obtain ⟨rs, hrs⟩ : ∃ rs, rs = runS bed0 L := ⟨_, rfl⟩
  rw [← hrs] at hrn hrz hrk hmd
  obtain ⟨s, y, z⟩ := rs
  have hz : z = 0 := hrz
  have hy : y = (L.length : Int) := hrk
  subst hz hy
  have HRn : Hid (Calls Tryz.prog 16 #[.agg #[.int .i64 0, .slice none 0 0, .slice none 0 0, .slice none 0 0], .slice a6 L.length c6] W2 fun e w' => ∃ q : BedP, e = .returned (.tuple #[.agg #[.int .i64 s.rack, .slice q.ah s.hooks.length q.ch, .slice q.af s.feeds.length q.cf, .slice q.am s.made.length q.cm], .int .i64 (L.length : Int), .int .i64 0]) ∧ SlM w' w'.heap.size q.am s.made ∧ Below W2.heap.size W2 w') := Calls.mono hrn fun e w' ⟨q, he, hf, hb⟩ => ⟨q, he, hf.at_.made, hb⟩
  have HMd : Hid (s.made.map mkM = (L.filter mkB).map mkI) := hmd
  have hne2 : ((L.length : Int) != (L.length : Int)) = false := by simp
  have hl2000 : L.length ≤ 2000 := hLl
  clear hrn hrs hrz hrk hmd hie hL hL' hwf HPz HPe hLl
  go_upto_region 8 with ((go_at_call 16; refine HRn.out.mono ?_; rintro e w3 ⟨q, rfl, hm3, hb3⟩))
  have HX : Hid (KA W1 a6 L w3.heap.size s q.am q.cm (w3.alloc (.cells #[.int .i64 s.rack, .slice q.ah s.hooks.length q.ch, .slice q.af s.feeds.length q.cf, .slice q.am s.made.length q.cm] 48))) := by
    have hbA : Below w3.heap.size w3 (w3.alloc (.cells #[.int .i64 s.rack, .slice q.ah s.hooks.length q.ch, .slice q.af s.feeds.length q.cf, .slice q.am s.made.length q.cm] 48)) := (Below.refl _ _).alloc (Nat.le_refl _) _
    have hA4 := (HA2.out.to hb3).to hbA
    exact ⟨hA4.lo, hA4.sl, by simp, cell_new rfl rfl rfl, (hm3.below hbA).more hbA.size⟩
  refine abs_world (Q := fun W => Code.wp _ _ _ _ W) (F := fun W => KA W1 a6 L w3.heap.size s q.am q.cm W) _ HX.out ?_
  clear HX hm3 hb3 HA2 HRn
  obtain ⟨bx, hbx⟩ : ∃ bx, bx = w3.heap.size := ⟨_, rfl⟩
  rw [← hbx]
  clear hbx
  intro W3 hA3
  have HA3 := Lib.hid hA3
  clear hA3
  by_cases hp : p = []
  case pos =>
    have hL0 := HL.out
    subst hp
    rw [progI_nil0] at hL0
    subst hL0
    have HE := Lib.hid (HEnd.out W3 HA3.out.lo)
    clear HL HIe HMd HC HRl HR150
    go_wp2
    go_ret
    exact ⟨rfl, HE.out⟩
  have hpl : 0 < p.length := List.length_pos_iff.2 hp
  have d3 : ((p.length : Int) == 0) = false := by simpa using (by omega : ¬ (p.length : Int) = 0)
  obtain ⟨bp, offp, row0, ar, cr, hAe, hbp, hr0, hcr, -⟩ := (HSS.out W3 HA3.out.lo).at_ (k := 0) hpl
  subst hAe
  rw [Nat.add_zero] at hcr
  have hsp : showE L (row0.length : Int) = (p, 0) := by
    have h0 := show_prog (lim := lim) HC.out hp (by rw [← HL.out]; exact hl2000) (by rw [← HL.out]; exact HIe.out)
    rw [← HL.out] at h0
    have e : p.headD [] = row0 := by
      cases p with
      | nil => exact absurd rfl hp
      | cons r t => exact Option.some.inj hr0
    rw [e] at h0
    exact h0
  have HSh := Lib.hid (show_any a6 c6 L row0.length W3 HA3.out.sl (by omega))
  rw [hsp] at HSh
  have hp150 : p.length ≤ 150 := HR150.out.1
  clear hsp hr0 hp HIe HR150
  go_upto_region 13 with ((go_at_call 10; refine HSh.out.mono ?_; rintro e w4 ⟨a11, c11, rfl, hs4, hb4⟩))
  have HX : Hid (KA W1 a6 L bx s q.am q.cm w4 ∧ SlRows w4 w4.heap.size a11 p) := ⟨HA3.out.to hb4, hs4⟩
  refine abs_world (Q := fun W => Code.wp _ _ _ _ W) (F := fun W => KA W1 a6 L bx s q.am q.cm W ∧ SlRows W W.heap.size a11 p) _ HX.out ?_
  clear HX hs4 hb4 HA3 HSh hcr hbp
  rintro W4 ⟨hA4, hs4⟩
  have HA4 := Lib.hid hA4
  have HSm := Lib.hid (same34_any (some ⟨bp, offp, none⟩) a11 c c11 p W4 (HSS.out W4 hA4.lo) hs4 (by omega) HRl.out)
  clear hA4 hs4 d3
  go_upto_region 15 with ((go_at_call 12; refine HSm.out.mono ?_; rintro e w5 ⟨rfl, hb5⟩))
  have HX := Lib.hid (HA4.out.to hb5)
  refine abs_world (Q := fun W => Code.wp _ _ _ _ W) (F := fun W => KA W1 a6 L bx s q.am q.cm W) _ HX.out ?_
  clear HX hb5 HA4 HSm HSS
  intro W5 hA5
  have HA5 := Lib.hid hA5
  clear hA5
  obtain ⟨am, ham⟩ : ∃ am, am = q.am := ⟨_, rfl⟩
  obtain ⟨cm, hcm⟩ : ∃ cm, cm = q.cm := ⟨_, rfl⟩
  rw [← ham, ← hcm] at HA5
  clear ham hcm
  have HMl := Lib.hid (made_len HMd.out)
  go_wp2
  go_loopw [13, 14] (fun s13 s14 wr => ∃ i : Nat, i ≤ L.length ∧ s14 = .int .i64 (i : Int) ∧ s13 = .int .i64 (((L.take i).filter mkB).length : Int) ∧ Hid (KA W1 a6 L bx s am cm wr)) (fun _ s14 _ => L.length - (intOf s14).toNat)
  case atStart => exact ⟨0, Nat.zero_le _, rfl, by rw [List.take_zero]; rfl, HA5.out⟩
  case round =>
    obtain ⟨i, hi, rfl, rfl, HA⟩ := hrel
    clear HA5
    by_cases hlt : i < L.length
    case pos =>
      obtain ⟨b, off, cur, hAe, hbl, hcur, hcc⟩ := HA.out.sl.at_ hlt
      subst hAe
      obtain ⟨y0, -, -, y3, -, y5, -⟩ := hcc
      have HAd : Hid (∀ n, KA W1 (some ⟨b, off, none⟩) L bx s am cm (wr.drewN n)) := fun n => HA.out.to ⟨rfl, rfl, rfl, Nat.le_refl _, fun _ _ => rfl⟩
      have hnext : (L.take (i + 1)).filter mkB = (L.take i).filter mkB ++ if mkB cur then [cur] else [] := by
        rw [List.take_add_one, hcur, Option.toList_some, List.filter_append]
        congr 1
        by_cases h : mkB cur = true <;> simp [h]
      by_cases hm : mkB cur = true
      case pos =>
        obtain ⟨m, hm1, hm2, hm3⟩ := made_at HMd.out hcur hm
        rw [if_pos hm] at hnext
        have hnl : ((L.take (i + 1)).filter mkB).length = ((L.take i).filter mkB).length + 1 := by rw [hnext]; simp
        obtain ⟨j, hj⟩ : ∃ j, j = ((L.take i).filter mkB).length := ⟨_, rfl⟩
        rw [← hj] at hm1 hnl ⊢
        have HNl := Lib.hid hnl
        have hjm : j < s.made.length := (List.getElem?_eq_some_iff.1 hm1).1
        obtain ⟨bm, om, r, A', C', hAm, hbm, hr, -, -, z2, z3, -, -⟩ := HA.out.made.at_ hjm
        rw [hm1] at hr
        obtain rfl : m = r := by simpa using hr
        subst hAm
        have z1 := HA.out.box
        rw [hm2] at z3
        rw [hm3] at z2
        have f1 : decide (s.made.length ≤ j) = false := decide_eq_false (by omega)
        have f2 : decide ((s.made.length : Int) ≤ (j : Int)) = false := decide_eq_false (by omega)
        have hsl : s.made.length ≤ 2000 := by
          have h1 := HMl.out
          have h2 : (L.filter mkB).length ≤ L.length := List.length_filter_le _ _
          omega
        have f3 : (cur.car != cur.car) = false := by simp
        have f4 : (cur.at_ != cur.at_) = false := by simp
        have hop : cur.op = 3 ∨ cur.op = 4 := by
          unfold mkB at hm
          simpa using hm
        clear hnext hm1 hm2 hm3 hj hr hnl hm hcur HA hbl hbm
        by_cases h3 : cur.op = 3
        · have e3 : (cur.op == 3) = true := by simp [h3]
          clear h3 hop
          go_wp2
          go_quiet (fail)
          go_wp2
          go_roundw
          case rel => exact ⟨i + 1, by omega, by go_num, by rw [HNl.out]; go_num, (HAd.out _)⟩
          case measure => simp [intOf]; omega
        · have h4 : cur.op = 4 := by omega
          have e3 : (cur.op == 3) = false := by simpa using h3
          have e4 : (cur.op == 4) = true := by simp [h4]
          clear h3 h4 hop
          go_wp2
          go_quiet (fail)
          go_wp2
          go_roundw
          case rel => exact ⟨i + 1, by omega, by go_num, by rw [HNl.out]; go_num, (HAd.out _)⟩
          case measure => simp [intOf]; omega
      case neg =>
        rw [if_neg hm, List.append_nil] at hnext
        have HNx := Lib.hid hnext
        have hop : ¬ cur.op = 3 ∧ ¬ cur.op = 4 := by
          unfold mkB at hm
          simpa using hm
        have e3 : (cur.op == 3) = false := by simpa using hop.1
        have e4 : (cur.op == 4) = false := by simpa using hop.2
        obtain ⟨j, hj⟩ : ∃ j, j = ((L.take i).filter mkB).length := ⟨_, rfl⟩
        have HNl : Hid (((L.take (i + 1)).filter mkB).length = j) := by show _ = _; rw [HNx.out, hj]
        rw [← hj]
        clear hop hnext hm hcur hj HNx HAd y3 y5 hbl
        go_wp2
        go_roundw
        case rel => exact ⟨i + 1, by omega, by go_num, by rw [HNl.out], HA.out⟩
        case measure => simp [intOf]; omega
    case neg =>
      obtain rfl : i = L.length := by omega
      rw [List.take_length, ← HMl.out]
      have z1 := HA.out.box
      have HE := Lib.hid (HEnd.out wr HA.out.lo)
      clear HA HMl HMd HL
      go_wp2
      go_ret
      exact ⟨by simp, HE.out⟩
end Go.Proofs.YthedmiilkeclaaaGreat
