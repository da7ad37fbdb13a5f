/- IntarsiaMirrors, walked: the picture the other way about has the floats the other way about, and as many bindings. -/
import Derived.Test.YthedmiilkeclaaaKRg
import Derived.Test.YthedmiilkeclaaaKRo
import Derived.Test.YthedmiilkeclaaaKMiP
import Derived.Test.YthedmiilkeclaaaKI14
namespace Go.Proofs.Ythedmiilkeclaaa
open Go.RowKit Go.Shelf Go.Sort
open Go.Proofs.Ythedmiilkeclaaa.I34
set_option maxRecDepth 100000

theorem flR_mirror {p : List (List Int)} (row colour : Int) : flR (mirP p) row colour = (((flR p row colour).1.map (mir (p.getD row.toNat []).length)).reverse, (flR p row colour).2) := by
  unfold flR
  rw [chk_mirror]
  by_cases h1 : chk p ≠ 0
  · rw [if_pos h1, if_pos h1]; rfl
  · rw [if_neg h1, if_neg h1]
    have hl : (mirP p).length = p.length := by unfold mirP; simp
    rw [hl]
    by_cases h2 : row < 0 ∨ (p.length : Int) ≤ row ∨ colour < 1 ∨ 6 < colour
    · rw [if_pos h2, if_pos h2]; rfl
    · rw [if_neg h2, if_neg h2, getD_mirror, flo_mirror]
theorem lonR_mirror (p : List (List Int)) : lonR (mirP p) = lonR p := by unfold lonR; rw [chk_mirror, longest_mirror]
theorem binR_mirror (p : List (List Int)) (limit : Int) : binR (mirP p) limit = binR p limit := by unfold binR chkL; rw [chk_mirror, sumBind_mirror]
theorem mirP_next {p : List (List Int)} {i : Nat} {row : List Int} (h : p[i]? = some row) : (mirP p).take (i + 1) = (mirP p).take i ++ [row.reverse] := by
  rw [List.take_add_one]
  congr 1
  unfold mirP
  rw [List.getElem?_map, h]
  rfl
theorem mirP_len (p : List (List Int)) : (mirP p).length = p.length := by unfold mirP; simp
/-- What is asked of a float and its mirror. -/
theorem flR_at {p : List (List Int)} {row colour : Int} {k : Nat} {f : Nat × Nat} (h : (flR p row colour).1[k]? = some f) : ∃ (r : Nat) (ro : List Int), row = (r : Int) ∧ p[r]? = some ro ∧ f.1 + 1 < f.2 ∧ f.2 < ro.length ∧ (p.getD row.toNat []).length = ro.length := by
  unfold flR at h
  split at h
  · simp at h
  · split at h
    · simp at h
    · rename_i h2
      have h3 : 0 ≤ row ∧ row < (p.length : Int) := by omega
      have hg : p[row.toNat]? = some p[row.toNat] := List.getElem?_eq_getElem (by omega)
      have e : p.getD row.toNat [] = p[row.toNat] := by rw [List.getD_eq_getElem?_getD, hg]; rfl
      rw [e] at h
      have hm := flo_mem _ _ f (List.mem_of_getElem? h)
      exact ⟨row.toNat, p[row.toNat], by omega, hg, hm.1, hm.2, by rw [e]⟩
theorem rev_at {α : Type} {l : List α} {k j : Nat} (hj : j + k + 1 = l.length) : l.reverse[j]? = l[k]? := by
  rw [List.getElem?_reverse (by omega)]
  congr 1
  omega
theorem ints_one (w : World) (z : Int) : SlI (w.alloc (.cells #[.int .i64 z] 3)) (w.alloc (.cells #[.int .i64 z] 3)).heap.size (some ⟨w.heap.size, 0, none⟩) [z] := fun _ => by
  refine ⟨w.heap.size, 0, rfl, by simp, fun j x hx => ?_⟩
  have hj : j = 0 := by have := (List.getElem?_eq_some_iff.1 hx).1; simp at this; exact this
  subst hj
  have e : x = z := by simpa using hx.symm
  subst e
  exact cell_new rfl rfl rfl
theorem ownI_push {w : World} {B c n : Nat} {a : Option Addr} {l : List Int} (h : ownI w B (.slice a n c) l) (hB : B ≤ w.heap.size) (hl : l.length ≤ 100000) (z : Int) :
    ∃ A' c' w', (Builtin.append_ #[48, 48] 48 #[.slice a n c, .slice (some ⟨w.heap.size, 0, none⟩) 1 1]).run Try.prog (w.alloc (.cells #[.int .i64 z] 3)) = .ok (.slice A' (l.length + 1) c') w' ∧ ownI w' B (.slice A' (l.length + 1) c') (l ++ [z]) ∧ Below B w w' := by
  have hba : Below w.heap.size w (w.alloc (.cells #[.int .i64 z] 3)) := (Below.refl _ w).alloc (Nat.le_refl _) _
  obtain ⟨A', c', w', h1, h2, h3⟩ := ownI_app (ownI_to h hba) (by have := hba.size; omega) (ints_one w z) (by simp; omega) 1
  exact ⟨A', c', w', h1, h2, (hba.mono hB).trans h3⟩
/-- What is kept behind the turned picture. -/
structure MiA (w : World) (a : Option Addr) (q : List (List Int)) (W : World) : Prop where
  lo : Below w.heap.size w W
  rows : SlRows W W.heap.size a q
theorem MiA.to {w W W' : World} {a : Option Addr} {q : List (List Int)} (h : MiA w a q W) (hb : Below W.heap.size W W') : MiA w a q W' := ⟨h.lo.trans (hb.mono h.lo.size), (h.rows.below hb).more hb.size⟩
structure MiB (w : World) (a : Option Addr) (q : List (List Int)) (a1 : Option Addr) (l : List (Nat × Nat)) (a2 : Option Addr) (l2 : List (Nat × Nat)) (W : World) : Prop where
  a : MiA w a q W
  s1 : SlP W W.heap.size a1 l
  s2 : SlP W W.heap.size a2 l2
theorem MiB.to {w W W' : World} {a : Option Addr} {q : List (List Int)} {a1 : Option Addr} {l : List (Nat × Nat)} {a2 : Option Addr} {l2 : List (Nat × Nat)} (h : MiB w a q a1 l a2 l2 W) (hb : Below W.heap.size W W') : MiB w a q a1 l a2 l2 W' := ⟨h.a.to hb, (h.s1.below hb).more hb.size, (h.s2.below hb).more hb.size⟩
set_option maxHeartbeats 32000000 in
theorem mirrors_walk (A : Option Addr) (c : Nat) (p : List (List Int)) (row colour limit : Int) (w : World) (h : SlRows w w.heap.size A p) :
    Calls Try.prog 6 #[.slice A p.length c, .int .i64 row, .int .i64 colour, .int .i64 limit] w fun e w' => e = .returned (.bool true) ∧ Below w.heap.size w w' := by
  have HAv := Lib.hid (alive34_any w)
  have HGr : Hid (∀ W, Below w.heap.size w W → Calls Try.prog 7 #[.slice A p.length c] W fun e w' => e = .returned (.bool (greatPic p)) ∧ W = w') := fun W hb => great_any A c p W ((h.below hb).more hb.size)
  cases hg : greatPic p with
  | true =>
    rw [hg] at HGr
    clear h hg
    go_enter Try.func6, Try.ntmps6
    go_wp2_with (first
      | (go_at_call 17; refine HAv.out.mono ?_; rintro e w1 ⟨rfl, hb1⟩)
      | (go_at_call 7; refine (HGr.out _ hb1).mono ?_; rintro e w2 ⟨rfl, rfl⟩))
    go_ret
    exact ⟨rfl, hb1⟩
  | false =>
  rw [hg] at HGr
  obtain ⟨hp150, hr150⟩ := greatPic_small hg
  have hrl : ∀ row ∈ p, row.length ≤ 4611686018427387904 := fun row hr => by have := hr150 row hr; omega
  have HCk : Hid (∀ W, Below w.heap.size w W → Calls Try.prog 15 #[.slice A p.length c] W fun e w' => e = .returned (.int .i64 (chk p)) ∧ Below W.heap.size W w') := fun W hb => rcheck_any A c p W ((h.below hb).more hb.size) hrl
  by_cases hc : chk p = 0
  case neg =>
    have d1 : (chk p != 0) = true := by simpa using hc
    obtain ⟨x, hx⟩ : ∃ x, x = chk p := ⟨_, rfl⟩
    rw [← hx] at HCk d1
    clear h hg hc hrl hp150 hr150 hx
    go_enter Try.func6, Try.ntmps6
    go_wp2_with (first
      | (go_at_call 17; refine HAv.out.mono ?_; rintro e w1 ⟨rfl, hb1⟩)
      | (go_at_call 7; refine (HGr.out _ hb1).mono ?_; rintro e w2 ⟨rfl, rfl⟩)
      | (go_at_call 15; refine (HCk.out _ hb1).mono ?_; rintro e w3 ⟨rfl, hb3⟩))
    go_ret
    exact ⟨rfl, hb1.trans (hb3.mono hb1.size)⟩
  rw [hc] at HCk
  obtain ⟨hp100, hrows⟩ := chk_zero hc
  have HS := Lib.hid h
  have HRw := Lib.hid hrows
  have HFm := Lib.hid (flR_mirror (p := p) row colour)
  have HFa := Lib.hid (fun k f hk => flR_at (p := p) (row := row) (colour := colour) (k := k) (f := f) hk)
  have HLn : Hid ((flR p row colour).1.length ≤ 150) := flR_len hr150 row colour
  have hrlq : ∀ row ∈ mirP p, row.length ≤ 4611686018427387904 := fun row hr => by
    unfold mirP at hr
    obtain ⟨r0, h0, rfl⟩ := List.mem_map.1 hr
    rw [List.length_reverse]; exact hrl r0 h0
  have hlz : (lonR p).2 = 0 := by rw [lonR_ok hc]
  have HRl := Lib.hid hrl
  have HRq := Lib.hid hrlq
  have HLz := Lib.hid hlz
  clear h hg hc hrows hr150 hrl hrlq hlz hp150
  go_enter Try.func6, Try.ntmps6
  go_upto_region 4 with (first
    | (go_at_call 17; refine HAv.out.mono ?_; rintro e w1 ⟨rfl, hb1⟩)
    | (go_at_call 7; refine (HGr.out _ hb1).mono ?_; rintro e w2 ⟨rfl, rfl⟩)
    | (go_at_call 15; refine (HCk.out _ hb1).mono ?_; rintro e w3 ⟨rfl, hb3⟩))
  refine abs_world (Q := fun W => Code.wp _ _ _ _ W) (F := fun W => Below w.heap.size w W) _ (hb1.trans (hb3.mono hb1.size)) ?_
  clear hb1 hb3 HAv HGr HCk
  intro W1 hb1
  have HS1 : Hid (SlRows W1 W1.heap.size A p) := (HS.out.below hb1).more hb1.size
  have HB1 := Lib.hid hb1
  clear hb1 HS
  go_wp2
  go_loopw [10, 11] (fun s10 s11 wr => ∃ i : Nat, i ≤ p.length ∧ s11 = .int .i64 (i : Int) ∧ ∃ vs : List Value, Hid (RowsO wr W1.heap.size s10 ((mirP p).take i) vs) ∧ Hid (Below W1.heap.size W1 wr)) (fun _ s11 _ => p.length - (intOf s11).toNat)
  case atStart => exact ⟨0, Nat.zero_le _, rfl, [], by rw [List.take_zero]; exact RowsO.new _ _, Below.refl _ _⟩
  case round =>
    obtain ⟨i, hi, rfl, vs, HR, HB⟩ := hrel
    obtain ⟨wo, hwo⟩ : ∃ wo : World, wo = wr := ⟨_, rfl⟩
    rw [← hwo] at HR HB ⊢
    clear hwo
    obtain ⟨a10, c10, rfl⟩ := HR.out.form
    have hli : ((mirP p).take i).length = i := by rw [List.length_take, mirP_len]; omega
    by_cases hlt : i < p.length
    case pos =>
      rw [hli]
      have HLi := Lib.hid hli
      clear hli
      obtain ⟨rb, roff, ro, A', C', hA, hrb, hrow, hrc, hrs⟩ := HS1.out.at_ hlt
      subst hA
      have hrcw := fun W (hb : Below W1.heap.size W1 W) => (bcell hb hrb _).trans hrc
      have HRc := Lib.hid hrcw
      have hro := HRw.out ro (List.mem_of_getElem? hrow)
      have HRow := Lib.hid hrow
      have HRs := Lib.hid hrs
      have hr1 := hro.1
      have hr101 := hro.2
      have hrc0 := HRc.out wo HB.out
      clear hrc hrs hrow hrcw hro
      go_upto_region 10 with fail
      clear hrc0
      go_wp2
      go_loopw [12, 13] (fun s12 s13 wr => ∃ (m : Nat) (q : Int), m ≤ ro.length ∧ s13 = .int .i64 q ∧ -1 ≤ q ∧ q ≤ 100 ∧ Hid (q = (ro.length : Int) - 1 - (m : Int)) ∧ Hid (ownI wr wo.heap.size s12 (ro.reverse.take m)) ∧ Hid (Below wo.heap.size wo wr)) (fun _ s13 _ => (intOf s13 + 1).toNat)
      case atStart => exact ⟨0, _, Nat.zero_le _, rfl, by omega, by omega, by show _ = _; omega, World.ownsRow_nil _ _ _ _, Below.refl _ _⟩
      case round =>
        obtain ⟨m, q, hm, rfl, hq1, hq2, HQ, HO, HBo⟩ := hrel
        obtain ⟨a12, c12, rfl⟩ := ownI_form HO.out
        have hbw : Below W1.heap.size W1 wr := HB.out.trans (HBo.out.mono HB.out.size)
        by_cases hq0 : 0 ≤ q
        case pos =>
          obtain ⟨kq, hkq⟩ : ∃ kq : Nat, q = (kq : Int) := ⟨q.toNat, by omega⟩
          subst hkq
          have hkl : kq < ro.length := by have := HQ.out; omega
          have hmk : kq + m + 1 = ro.length := by have := HQ.out; omega
          have hmr : m < ro.length := by omega
          obtain ⟨b2, off2, z, hA2, hb2, hz, hcz⟩ := HRs.out.at_ hkl
          subst hA2
          have y0 := HRc.out wr hbw
          have y1 := (bcell hbw hb2 _).trans hcz
          have hln : (ro.reverse.take m).length = m := by rw [List.length_take, List.length_reverse]; omega
          obtain ⟨A9, c9, w9, hrun, ho9, hb9⟩ := ownI_push HO.out HBo.out.size (by rw [hln]; omega) z
          have hnx : ro.reverse.take (m + 1) = ro.reverse.take m ++ [z] := by
            rw [List.take_add_one]
            congr 1
            rw [rev_at (k := kq) (by omega), hz]; rfl
          rw [← hnx] at ho9
          rw [hln] at hrun ho9
          have HO9 := Lib.hid ho9
          have HB9 := Lib.hid (HBo.out.trans hb9)
          have hkg : decide ((0 : Int) ≤ (kq : Int)) = true := decide_eq_true hq0
          have hrun2 : (Builtin.append_ #[48, 48] 48 #[.slice a12 (ro.reverse.take m).length c12, .slice (some ⟨wr.heap.size, 0, none⟩) 1 1]).run Try.prog (wr.alloc (.cells #[.int .i64 z] 3)) = .ok (.slice A9 (m + 1) c9) w9 := by rw [hln]; exact hrun
          rw [hln] at hrun2 ⊢
          clear ho9 hb9 hnx hln hbw hz hcz HO hmk hrun hq0
          go_wp2_with (at_builtin; refine wpList_append_run _ rfl _ _ _ _ rfl _ _ (by rfl) (by rfl) hrun2 ?_)
          go_roundw
          case rel => exact ⟨m + 1, _, hmr, rfl, by omega, by omega, by show _ = _; have := HQ.out; omega, HO9.out, HB9.out⟩
          case measure => first | (simp [intOf]; done) | (simp [intOf]; omega)
        case neg =>
          obtain rfl : m = ro.length := by have := HQ.out; omega
          have hg0 : decide ((0 : Int) ≤ q) = false := decide_eq_false hq0
          have ho := HO.out
          have hlr : (ro.reverse.take ro.length) = ro.reverse := by rw [List.take_of_length_le (by simp)]
          rw [hlr] at ho ⊢
          rw [List.length_reverse]
          have hRO := HR.out.to HBo.out
          have hcap : ro.reverse.length ≤ c12 := by
            obtain ⟨a9, c9, e, h⟩ := own_slice ho
            cases e; exact h
          have hix : SlIx wr (.slice a10 ((mirP p).take i).length c10) a12 ro.reverse := fun hne => by
            have hpos : 0 < ro.reverse.length := List.length_pos_iff.2 hne
            obtain ⟨g, rfl, h1, h2, h3⟩ := own_pos' ho hpos
            refine ⟨g, 0, rfl, h2, fun e => ?_, fun j z hz => ?_⟩
            · have := (HR.out.lt e).2; omega
            · rw [Nat.zero_add, h3 j (List.getElem?_eq_some_iff.1 hz).1]; unfold intV; rw [List.getElem?_map, hz]; rfl
          obtain ⟨A9, c9, w9, hrun, hr9, hb9⟩ := hRO.push (by have := hbw.size; omega) (by rw [HLi.out]; omega) hcap hix
          rw [← mirP_next HRow.out] at hr9
          rw [List.length_reverse] at hrun
          rw [HLi.out] at hrun hr9
          have HR9 := Lib.hid hr9
          have HB9 := Lib.hid (hbw.trans hb9)
          clear ho hlr hRO hcap hix hr9 hb9 HO hbw hm HQ
          go_wp2_with (at_builtin; refine wpList_append_run _ rfl _ _ _ _ rfl _ _ (by rfl) (by rfl) hrun ?_)
          go_roundw
          case rel => exact ⟨i + 1, by omega, by go_num, _, HR9.out, HB9.out⟩
          case measure => simp [intOf]; omega
    case neg =>
      obtain rfl : i = p.length := by omega
      have hr := HR.out
      have e : (mirP p).take p.length = mirP p := List.take_of_length_le (by rw [mirP_len]; exact Nat.le_refl _)
      rw [e] at hr ⊢
      rw [mirP_len]
      have hsq := hr.rows
      clear hli
      have HX : Hid (MiA W1 a10 (mirP p) wo) := ⟨HB.out, hsq⟩
      clear hr e hsq hlt hi HR
      go_upto_region 14 with fail
      refine abs_world (Q := fun W => Code.wp _ _ _ _ W) (F := fun W => MiA W1 a10 (mirP p) W) _ HX.out ?_
      clear HX HB
      intro W2 hA2
      have HA2 := Lib.hid hA2
      clear hA2
      have HFp : Hid (∀ W, MiA W1 a10 (mirP p) W → Calls Try.prog 8 #[.slice A p.length c, .int .i64 row, .int .i64 colour] W (FlPost W (flR p row colour))) := fun W h => Floats_any A c p row colour W ((HS1.out.below h.lo).more h.lo.size) HRl.out
      have HFq : Hid (∀ W, MiA W1 a10 (mirP p) W → Calls Try.prog 8 #[.slice a10 p.length c10, .int .i64 row, .int .i64 colour] W (FlPost W (flR (mirP p) row colour))) := fun W h => by
        have h2 := Floats_any a10 c10 (mirP p) row colour W h.rows HRq.out
        rw [mirP_len] at h2
        exact h2
      have HLp : Hid (∀ W, MiA W1 a10 (mirP p) W → Calls Try.prog 10 #[.slice A p.length c] W fun e w' => e = .returned (.tuple #[.int .i64 (lonR p).1, .int .i64 0]) ∧ Below W.heap.size W w') := fun W h => by
        have h2 := Longest_any A c p W ((HS1.out.below h.lo).more h.lo.size) HRl.out
        rw [HLz.out] at h2
        exact h2
      have HLq : Hid (∀ W, MiA W1 a10 (mirP p) W → Calls Try.prog 10 #[.slice a10 p.length c10] W fun e w' => e = .returned (.tuple #[.int .i64 (lonR p).1, .int .i64 0]) ∧ Below W.heap.size W w') := fun W h => by
        have h2 := Longest_any a10 c10 (mirP p) W h.rows HRq.out
        rw [mirP_len, lonR_mirror, HLz.out] at h2
        exact h2
      have HBp : Hid (∀ W, MiA W1 a10 (mirP p) W → Calls Try.prog 12 #[.slice A p.length c, .int .i64 limit] W fun e w' => e = .returned (.tuple #[.int .i64 (binR p limit).1, .int .i64 (binR p limit).2]) ∧ Below W.heap.size W w') := fun W h => Bindings_any A c p limit W ((HS1.out.below h.lo).more h.lo.size) HRl.out
      have HBq : Hid (∀ W, MiA W1 a10 (mirP p) W → Calls Try.prog 12 #[.slice a10 p.length c10, .int .i64 limit] W fun e w' => e = .returned (.tuple #[.int .i64 (binR p limit).1, .int .i64 (binR p limit).2]) ∧ Below W.heap.size W w') := fun W h => by
        have h2 := Bindings_any a10 c10 (mirP p) limit W h.rows HRq.out
        rw [mirP_len, binR_mirror] at h2
        exact h2
      obtain ⟨y, hy⟩ : ∃ y, y = (lonR p).1 := ⟨_, rfl⟩
      obtain ⟨m, hm⟩ : ∃ m, m = (binR p limit).1 := ⟨_, rfl⟩
      obtain ⟨z, hz⟩ : ∃ z, z = (binR p limit).2 := ⟨_, rfl⟩
      rw [HFm.out] at HFq
      rw [← hy] at HLp HLq
      rw [← hm, ← hz] at HBp HBq
      obtain ⟨fl, hfl⟩ : ∃ fl, fl = flR p row colour := ⟨_, rfl⟩
      rw [← hfl] at HFp HFq HFa HLn
      obtain ⟨l, x⟩ := fl
      obtain ⟨l2, hl2⟩ : ∃ l2, l2 = (l.map (mir (p.getD row.toNat []).length)).reverse := ⟨_, rfl⟩
      have HL2 : Hid (l2 = (l.map (mir (p.getD row.toNat []).length)).reverse) := hl2
      have hll2 : l2.length = l.length := by rw [hl2]; simp
      have HLL := Lib.hid hll2
      replace HFp : Hid (∀ W, MiA W1 a10 (mirP p) W → Calls Try.prog 8 #[.slice A p.length c, .int .i64 row, .int .i64 colour] W fun e w' => ∃ a c', e = .returned (.tuple #[.slice a l.length c', .int .i64 x]) ∧ SlP w' w'.heap.size a l ∧ Below W.heap.size W w') := fun W h => Calls.mono (HFp.out W h) fun e w' ⟨v, he, ho, hb⟩ => by
        obtain ⟨a, c', rfl⟩ := own_form ho
        exact ⟨a, c', he, SlP.of_own ho, hb⟩
      replace HFq : Hid (∀ W, MiA W1 a10 (mirP p) W → Calls Try.prog 8 #[.slice a10 p.length c10, .int .i64 row, .int .i64 colour] W fun e w' => ∃ a c', e = .returned (.tuple #[.slice a l.length c', .int .i64 x]) ∧ SlP w' w'.heap.size a l2 ∧ Below W.heap.size W w') := fun W h => Calls.mono (HFq.out W h) fun e w' ⟨v, he, ho, hb⟩ => by
        obtain ⟨a, c', rfl⟩ := own_form ho
        have hs := SlP.of_own ho
        simp only [List.length_reverse, List.length_map] at he
        rw [← HL2.out] at hs
        exact ⟨a, c', he, hs, hb⟩
      have hl150 : l.length ≤ 150 := HLn.out
      clear hy hm hz hfl hl2 hll2 HFm HLz HRl HRq HLn
      go_upto_region 15 with ((go_at_call 8; refine (HFp.out _ HA2.out).mono ?_; rintro e w3 ⟨a1, c1, rfl, hs, hb⟩))
      have HX : Hid (MiA W1 a10 (mirP p) w3 ∧ SlP w3 w3.heap.size a1 l) := ⟨HA2.out.to hb, hs⟩
      refine abs_world (Q := fun W => Code.wp _ _ _ _ W) (F := fun W => MiA W1 a10 (mirP p) W ∧ SlP W W.heap.size a1 l) _ HX.out ?_
      clear HX hb hs HA2 HFp
      rintro W3 ⟨hA3, hs3⟩
      have HA3 := Lib.hid hA3
      have HS3 := Lib.hid hs3
      clear hA3 hs3
      go_upto_region 16 with ((go_at_call 8; refine (HFq.out _ HA3.out).mono ?_; rintro e w4 ⟨a2, c2, rfl, hs, hb⟩))
      have HX : Hid (MiB W1 a10 (mirP p) a1 l a2 l2 w4) := ⟨HA3.out.to hb, (HS3.out.below hb).more hb.size, hs⟩
      refine abs_world (Q := fun W => Code.wp _ _ _ _ W) (F := fun W => MiB W1 a10 (mirP p) a1 l a2 l2 W) _ HX.out ?_
      clear HX hb hs HA3 HS3 HFq
      intro W4 hA
      have HA4 := Lib.hid hA
      clear hA
      go_upto_region 17 with ((go_at_call 10; refine (HLp.out _ HA4.out.a).mono ?_; rintro e w5 ⟨rfl, hb⟩))
      have HX := Lib.hid (HA4.out.to hb)
      refine abs_world (Q := fun W => Code.wp _ _ _ _ W) (F := fun W => MiB W1 a10 (mirP p) a1 l a2 l2 W) _ HX.out ?_
      clear HX hb HA4 HLp
      intro W5 hA
      have HA5 := Lib.hid hA
      clear hA
      go_upto_region 18 with ((go_at_call 10; refine (HLq.out _ HA5.out.a).mono ?_; rintro e w6 ⟨rfl, hb⟩))
      have HX := Lib.hid (HA5.out.to hb)
      refine abs_world (Q := fun W => Code.wp _ _ _ _ W) (F := fun W => MiB W1 a10 (mirP p) a1 l a2 l2 W) _ HX.out ?_
      clear HX hb HA5 HLq
      intro W6 hA
      have HA6 := Lib.hid hA
      clear hA
      go_upto_region 19 with ((go_at_call 12; refine (HBp.out _ HA6.out.a).mono ?_; rintro e w7 ⟨rfl, hb⟩))
      have HX := Lib.hid (HA6.out.to hb)
      refine abs_world (Q := fun W => Code.wp _ _ _ _ W) (F := fun W => MiB W1 a10 (mirP p) a1 l a2 l2 W) _ HX.out ?_
      clear HX hb HA6 HBp
      intro W7 hA
      have HA7 := Lib.hid hA
      clear hA
      go_upto_region 20 with ((go_at_call 12; refine (HBq.out _ HA7.out.a).mono ?_; rintro e w8 ⟨rfl, hb⟩))
      have HX := Lib.hid (HA7.out.to hb)
      refine abs_world (Q := fun W => Code.wp _ _ _ _ W) (F := fun W => MiB W1 a10 (mirP p) a1 l a2 l2 W) _ HX.out ?_
      clear HX hb HA7 HBq
      intro W8 hA
      have HA8 := Lib.hid hA
      clear hA
      have q1 : (x != x) = false := by simp
      have q2 : (l.length != l.length) = false := by simp
      have q2' : ((l.length : Int) != (l.length : Int)) = false := by simp
      have q3 : (y != y) = false := by simp
      have q4 : (m != m) = false := by simp
      have q5 : (z != z) = false := by simp
      go_upto_region 23 with fail
      clear q1 q2 q2' q3 q4 q5
      go_wp2
      go_loopw [26] (fun s26 wr => ∃ k : Nat, k ≤ l.length ∧ s26 = .int .i64 (k : Int) ∧ Hid (MiB W1 a10 (mirP p) a1 l a2 l2 wr)) (fun s26 _ => l.length - (intOf s26).toNat)
      case atStart => exact ⟨0, Nat.zero_le _, rfl, HA8.out⟩
      case round =>
        obtain ⟨k, hk, rfl, HA⟩ := hrel
        clear HA8
        by_cases hlt : k < l.length
        case pos =>
          obtain ⟨f, hf⟩ : ∃ f, l[k]? = some f := ⟨_, List.getElem?_eq_getElem hlt⟩
          obtain ⟨rn, ro, hrw, hro, hf1, hf2, hgd⟩ := HFa.out k f hf
          subst hrw
          obtain ⟨kq, hkq⟩ : ∃ kq : Nat, kq + k + 1 = l.length := ⟨l.length - 1 - k, by omega⟩
          have hz : l2[kq]? = some (mir ro.length f) := by
            rw [HL2.out, rev_at (k := k) (by rw [List.length_map]; exact hkq), List.getElem?_map, hf, hgd]
            rfl
          obtain ⟨z0, z1, hz0, hz1⟩ : ∃ z0 z1, z0 = (mir ro.length f).1 ∧ z1 = (mir ro.length f).2 := ⟨_, _, rfl, rfl⟩
          have HZ0 : Hid (z0 = ro.length - 1 - f.2) := hz0
          have HZ1 : Hid (z1 = ro.length - 1 - f.1) := hz1
          obtain ⟨rb, roff, ro', A', C', hA, hrb, hro', hrc, -⟩ := HS1.out.at_ (k := rn) (List.getElem?_eq_some_iff.1 hro).1
          have hpl : rn < p.length := (List.getElem?_eq_some_iff.1 hro).1
          rw [hro] at hro'
          cases hro'
          have hr100 := (HRw.out ro (List.mem_of_getElem? hro)).2
          have HRc : Hid (∀ W, Below W1.heap.size W1 W → W.cell? ⟨rb, roff + rn, none⟩ = some (.slice A' ro.length C')) := fun W hb => (bcell hb hrb _).trans hrc
          have HF := Lib.hid hf
          obtain ⟨b1, hb1, hbl1, hc1⟩ := HA.out.s1 (fun e => by rw [e] at hf; simp at hf)
          obtain ⟨b2, hb2, hbl2, hc2⟩ := HA.out.s2 (fun e => by rw [e] at hz; simp at hz)
          obtain ⟨x0, x1⟩ := hc1 k f hf
          obtain ⟨y0, y1⟩ := hc2 kq _ hz
          rw [← hz0] at y0
          rw [← hz1] at y1
          subst hb1 hb2
          have ht : ((l.length : Int) - 1 - (k : Int)).toNat = kq := by omega
          have hge : (0 : Int) ≤ (l.length : Int) - 1 - (k : Int) := by omega
          have hlt2 : (l.length : Int) - 1 - (k : Int) < (l.length : Int) := by omega
          have HX : Hid (MiB W1 a10 (mirP p) (some ⟨b1, 0, none⟩) l (some ⟨b2, 0, none⟩) l2 (wr.alloc (.cells #[.int .i64 (z0 : Int), .int .i64 (z1 : Int)] 46)) ∧ FBx wr.heap.size (z0, z1) (wr.alloc (.cells #[.int .i64 (z0 : Int), .int .i64 (z1 : Int)] 46))) := ⟨HA.out.to ((Below.refl _ _).alloc (Nat.le_refl _) _), ⟨cell_new rfl rfl rfl, cell_new rfl rfl rfl⟩⟩
          subst hA
          clear hc1 hc2 hz hf hz0 hz1 hkq HA hrb hrc hro hgd
          go_upto_region 26 with fail
          refine abs_world (Q := fun W => Code.wp _ _ _ _ W) (F := fun W => MiB W1 a10 (mirP p) (some ⟨b1, 0, none⟩) l (some ⟨b2, 0, none⟩) l2 W ∧ FBx wr.heap.size (z0, z1) W) _ HX.out ?_
          clear HX x0 x1 y0 y1 ht hge hlt2 hbl1 hbl2
          rintro W5 ⟨hA5, hF5⟩
          obtain ⟨b1', hb1', -, hc1⟩ := hA5.s1 (fun e => by have := HF.out; rw [e] at this; simp at this)
          cases hb1'
          obtain ⟨x0, x1⟩ := hc1 k f HF.out
          obtain ⟨y0, y1⟩ := hF5
          have hrc := HRc.out W5 hA5.a.lo
          have HA5 := Lib.hid hA5
          have r1 : decide ((rn : Int) < 0) = false := decide_eq_false (by omega)
          have r2 : decide (p.length ≤ rn) = false := decide_eq_false (by omega)
          have r2' : decide ((p.length : Int) ≤ (rn : Int)) = false := decide_eq_false (by omega)
          have hz0 := HZ0.out
          have hz1 := HZ1.out
          have r3 : ((f.1 : Int) != (ro.length : Int) - 1 - (z1 : Int)) = false := by simp only [bne_eq_false_iff_eq]; omega
          have r4 : ((f.2 : Int) != (ro.length : Int) - 1 - (z0 : Int)) = false := by simp only [bne_eq_false_iff_eq]; omega
          have v1 : IntKind.i64.wrap ((ro.length : Int) - 1) = (ro.length : Int) - 1 := IntWalk.i64_in _ (by omega)
          have v2 : IntKind.i64.wrap ((ro.length : Int) - 1 - (z1 : Int)) = (ro.length : Int) - 1 - (z1 : Int) := IntWalk.i64_in _ (by omega)
          have v3 : IntKind.i64.wrap ((ro.length : Int) - 1 - (z0 : Int)) = (ro.length : Int) - 1 - (z0 : Int) := IntWalk.i64_in _ (by omega)
          have i1 : (0 : Int) ≤ (k : Int) := by omega
          have i2 : (0 : Int) ≤ (rn : Int) := by omega
          have i3 : (k : Int) < (l.length : Int) := by omega
          have i4 : (rn : Int) < (p.length : Int) := by omega
          clear hA5 hc1 hz0 hz1 HZ0 HZ1 HRc HF hf1 hf2
          go_quiet (fail)
          have hdr : ∀ n, Below W5.heap.size W5 (W5.drewN n) := fun n => ⟨rfl, rfl, rfl, Nat.le_refl _, fun _ _ => rfl⟩
          have HD : Hid (∀ n, MiB W1 a10 (mirP p) (some ⟨b1, 0, none⟩) l (some ⟨b2, 0, none⟩) l2 (W5.drewN n)) := fun n => HA5.out.to (hdr n)
          clear x0 x1 y0 y1 hrc r1 r2 r2' r3 r4 v1 v2 v3 i1 i2 i3 i4 hdr
          go_wp2
          go_roundw
          case rel => exact ⟨k + 1, by omega, by go_num, HD.out _⟩
          case measure => simp [intOf]; omega
        case neg =>
          obtain rfl : k = l.length := by omega
          have HE : Hid (Below w.heap.size w wr) := HB1.out.trans (HA.out.a.lo.mono HB1.out.size)
          clear HA hk hlt
          go_wp2
          go_ret
          exact ⟨rfl, HE.out⟩
end Go.Proofs.Ythedmiilkeclaaa
