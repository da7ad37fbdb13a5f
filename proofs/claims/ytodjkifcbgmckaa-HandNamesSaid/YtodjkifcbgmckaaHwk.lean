/- Layer 29: Work: its moves in memory. -/
import Derived.Test.YtodjkifcbgmckaaHfi
namespace Go.Proofs.Ytodjkifcbgmckaa
open Go.RowKit Go.Shelf Go.Sort
set_option maxRecDepth 100000

def mvC (l : List Mv) : List Value := (l.map Mv.cells).flatten
theorem mvC_len (l : List Mv) : (mvC l).length = l.length * 2 := by
  unfold mvC
  induction l with
  | nil => rfl
  | cons a l ih => simp only [List.map_cons, List.flatten_cons, List.length_append, List.length_cons] at ih ⊢; have : (Mv.cells a).length = 2 := rfl; omega
theorem mvC_snoc (l : List Mv) (m : Mv) : mvC (l ++ [m]) = mvC l ++ [.bool m.slip, .int .i64 m.nd] := by unfold mvC; simp [Mv.cells]
/-- Moves in a row of the call's own. -/
def rowM (w : World) (B : Nat) (A : Option Addr) (c : Nat) (l : List Mv) : Prop := w.ownsRow B 69 2 (.slice A l.length c) l.length (mvC l)
theorem info_move : (Try.prog.info? 69).map (fun i => (i.zero, i.size, i.bytes)) = some (some (.agg #[.bool false, .int .i64 0]), 2, 16) := by kernel_rfl
theorem rowM_push {w : World} {B c : Nat} {A : Option Addr} {l : List Mv} (h : rowM w B A c l) (hB : B ≤ w.heap.size) (hl : l.length ≤ 100000) (m : Mv) :
    ∃ A' c' w', (Builtin.append_ #[23, 23] 23 #[.slice A l.length c, .slice (some ⟨w.heap.size, 0, none⟩) 1 1]).run Try.prog (w.alloc (.cells #[.bool m.slip, .int .i64 m.nd] 69)) = .ok (.slice A' (l.length + 1) c') w' ∧ rowM w' B A' c' (l ++ [m]) ∧ Below B w w' := by
  obtain ⟨ii, hii, hii0, hii1, hii2⟩ := info_parts info_move
  have hba : Below w.heap.size w (w.alloc (.cells #[.bool m.slip, .int .i64 m.nd] 69)) := (Below.refl _ w).alloc (Nat.le_refl _) _
  have ho : (w.alloc (.cells #[.bool m.slip, .int .i64 m.nd] 69)).ownsRow B 69 2 (.slice A l.length c) l.length (mvC l) := own_below h hba (Nat.le_refl _)
  have hsz := hba.size
  have hnew : ∀ j u, [Value.bool m.slip, .int .i64 m.nd][j]? = some u → (w.alloc (.cells #[.bool m.slip, .int .i64 m.nd] 69)).cell? ((⟨w.heap.size, 0, none⟩ : Addr).add j) = some u := newsT w _ _ _ rfl
  obtain ⟨A', c', w', hr, ho1, hg1, -⟩ := run_app_any Try.underlying23 hii hii0 hii1 hii2 rfl (by decide) ho (some ⟨w.heap.size, 0, none⟩) 1 1 [.bool m.slip, .int .i64 m.nd] rfl (fun e => by cases e) (fun ad e => by cases e; exact hnew) (by intro u hu; simp at hu; rcases hu with rfl | rfl <;> rfl) (by unfold maxLen; omega) (by omega) (by omega)
  refine ⟨A', c', w', hr, ?_, (hba.mono hB).trans (Below.of_grown hg1 (by omega) (fun k e => (World.ownsRow.lt ho k e).1))⟩
  unfold rowM
  rw [List.length_append, List.length_singleton, mvC_snoc]
  exact ho1
theorem rowM_sl {W : World} {B c : Nat} {A : Option Addr} {l : List Mv} (h : rowM W B A c l) : SlMv W W.heap.size A l := by
  refine SlS.of_own (zs := l.map Mv.cells) (n := l.length) (c := c) (fun cs hcs => ?_) (by simp) (by exact h)
  obtain ⟨m, -, rfl⟩ := List.mem_map.1 hcs
  rfl
theorem idx_of (l : List Int) (x : Int) (h : idxI l x < l.length) : Lib.idxOf l x = (idxI l x : Int) := by
  unfold Lib.idxOf
  rw [Lib.idxFrom_hit x l (idxI l x) 0 h ?_ ?_, Nat.zero_add]
  · have := List.findIdx_getElem (xs := l) (p := fun y => decide (y = x)) (w := h)
    rw [List.getD_eq_getElem?_getD, List.getElem?_eq_getElem h]
    exact of_decide_eq_true this
  · intro j hj
    have := List.not_of_lt_findIdx (xs := l) (p := fun y => decide (y = x)) hj
    rw [List.getD_eq_getElem?_getD, List.getElem?_eq_getElem (by omega)]
    simpa using this
/-- What Work answers. -/
def workOut (r : List Mv × Int) (w : World) (e : Ending) (w' : World) : Prop :=
  ∃ A c, e = .returned (.tuple #[.slice A r.1.length c, .int .i64 r.2]) ∧ rowM w' w.heap.size A c r.1 ∧ Below w.heap.size w w'
theorem workOut.stop {r : List Mv × Int} {x : Int} {w w' : World} (h : r = ([], x)) (hb : Below w.heap.size w w') : workOut r w (.returned (.tuple #[.slice none 0 0, .int .i64 x])) w' := by
  subst h
  exact ⟨none, 0, rfl, World.ownsRow_nil .., hb⟩
theorem workL_len {to_ plan : List Int} : ∀ t, (workL to_ plan t).2.length ≤ t * (plan.length + 1)
  | 0 => by simp [workL]
  | t + 1 => by
    have h := workL_len (to_ := to_) (plan := plan) t
    unfold workL workStep
    simp only [List.length_append, List.length_map, List.length_drop, List.length_take, List.length_singleton]
    rw [Nat.add_mul, Nat.one_mul]
    omega
theorem right_good {b : Brd} {ns plan : List Int} (h : (rightE b ns plan).2 = 0) (_h2 : (rightE b ns plan).1 = true) : brdE b = 0 ∧ plan.length = b.to_.length := by
  unfold rightE at h
  split at h
  · rename_i hc; exact absurd h hc
  · split at h
    · cases h
    · rename_i h3 h4
      refine ⟨by simpa using h3, ?_⟩
      have h5 : ¬ planOk ns.length b.to_.length plan = false := fun e => h4 (Or.inr e)
      unfold planOk at h5
      simp only [Bool.not_eq_false, Bool.and_eq_true, decide_eq_true_iff] at h5
      exact h5.1
def slipsL (plan : List Int) (n sl j : Nat) : List Mv := (((plan.take n).drop sl).map fun a => (⟨true, a⟩ : Mv)).take j
set_option maxHeartbeats 64000000 in
theorem hwork_any (A F : Option Addr) (c fc : Nat) (b : Brd) (hf : b.fronts.length ≤ 4611686018427387904) (An : Option Addr) (cn : Nat) (ns : List Int) (hn : ns.length ≤ 1000000) (Ap : Option Addr) (cp : Nat) (plan : List Int) (hpc : plan.length ≤ cp) (hpll : plan.length ≤ 4611686018427387904) (w : World) (hs : SlI w w.heap.size A b.to_) (hp : SlPr w w.heap.size F b.fronts) (hns : SlI w w.heap.size An ns) (hpn : SlI w w.heap.size Ap plan) :
    Calls Try.prog 25 #[.agg #[.slice A b.to_.length c, .slice F b.fronts.length fc], .slice An ns.length cn, .slice Ap plan.length cp] w fun e w' => workOut (workE b ns plan) w e w' := by
  have hb0 := (Below.refl w.heap.size w).alloc (Nat.le_refl _) (.cells #[.slice A b.to_.length c, .slice F b.fronts.length fc] 26)
  have g0 : (w.alloc (.cells #[.slice A b.to_.length c, .slice F b.fronts.length fc] 26)).cell? ⟨w.heap.size, 0, none⟩ = some (.slice A b.to_.length c) := cell_new rfl rfl rfl
  have HB0 := Lib.hid hb0
  have HG := Lib.hid (fun W (h : Below (w.alloc (.cells #[.slice A b.to_.length c, .slice F b.fronts.length fc] 26)).heap.size (w.alloc (.cells #[.slice A b.to_.length c, .slice F b.fronts.length fc] 26)) W) => (bcell h (lt_of_cell g0) _).trans g0)
  have HRi := Lib.hid (hright_any A F c fc b hf An cn ns hn Ap cp plan hpc hpll (w.alloc (.cells #[.slice A b.to_.length c, .slice F b.fronts.length fc] 26)) ((hs.below hb0).more hb0.size) ((hp.below hb0).more hb0.size) ((hns.below hb0).more hb0.size) ((hpn.below hb0).more hb0.size))
  have HS := Lib.hid hs
  have HPn := Lib.hid hpn
  have HGd := Lib.hid (fun h h2 => right_good (b := b) (ns := ns) (plan := plan) h h2)
  have HW : Hid (workE b ns plan = if (rightE b ns plan).2 ≠ 0 then ([], (rightE b ns plan).2) else if (rightE b ns plan).1 = false then ([], 36) else ((workL b.to_ plan b.to_.length).2, 0)) := rfl
  obtain ⟨r, hr⟩ : ∃ r, r = rightE b ns plan := ⟨_, rfl⟩
  rw [← hr] at HRi HGd HW
  obtain ⟨q, x⟩ := r
  clear hs hp hns hpn hb0 hr
  by_cases hx : x = 0
  case neg =>
    have HF : Hid (workE b ns plan = ([], x)) := by show _ = _; rw [HW.out, if_pos hx]
    have HO := Lib.hid (fun w' (h : Below w.heap.size w w') => workOut.stop (w' := w') HF.out h)
    have d0 : (x != 0) = true := by simpa using hx
    clear hx HW HGd
    go_enter Try.func25, Try.ntmps25
    go_wp2_with ((go_at_call 17; refine HRi.out.mono ?_; rintro e w2 ⟨rfl, hb2⟩))
    go_ret2
    exact HO.out _ (HB0.out.trans (hb2.mono HB0.out.size))
  subst hx
  cases q with
  | false =>
    have HF : Hid (workE b ns plan = ([], 36)) := by show _ = _; rw [HW.out, if_neg (by decide), if_pos rfl]
    have HO := Lib.hid (fun w' (h : Below w.heap.size w w') => workOut.stop (w' := w') HF.out h)
    clear HW HGd
    go_enter Try.func25, Try.ntmps25
    go_wp2_with ((go_at_call 17; refine HRi.out.mono ?_; rintro e w2 ⟨rfl, hb2⟩))
    go_ret2
    exact HO.out _ (HB0.out.trans (hb2.mono HB0.out.size))
  | true =>
    obtain ⟨hE, hpl⟩ := HGd.out rfl rfl
    obtain ⟨k8, kp, kf⟩ := brdE_zero hE
    have HF : Hid (workE b ns plan = ((workL b.to_ plan b.to_.length).2, 0)) := by show _ = _; rw [HW.out, if_neg (by decide), if_neg (by decide)]
    have HIx : Hid (∀ t, t < b.to_.length → idxI b.to_ (t : Int) < b.to_.length) := fun t ht => (idx_perm kp ht).1
    have HPl := Lib.hid hpl
    clear HW HGd hE kp kf hpl
    go_enter Try.func25, Try.ntmps25
    go_upto_region 6 with ((go_at_call 17; refine HRi.out.mono ?_; rintro e w2 ⟨rfl, hb2⟩))
    have g2 := HG.out w2 hb2
    have HB2 := Lib.hid (HB0.out.trans (hb2.mono HB0.out.size))
    have HG2 := Lib.hid (fun W (h : Below w2.heap.size w2 W) => (bcell h (lt_of_cell g2) _).trans g2)
    clear hb2 HRi HG g0
    go_wp2
    go_loopw [10, 11, 32] (fun s10 s11 s32 wr => ∃ (t : Nat) (A' : Option Addr) (c' : Nat), t ≤ b.to_.length ∧ s10 = .slice A' (workL b.to_ plan t).2.length c' ∧ s11 = .int .i64 ((workL b.to_ plan t).1 : Int) ∧ s32 = .int .i64 (t : Int) ∧ Hid (rowM wr w2.heap.size A' c' (workL b.to_ plan t).2) ∧ Hid (Below w2.heap.size w2 wr)) (fun _ _ s32 _ => b.to_.length - (intOf s32).toNat)
    case atStart => exact ⟨0, none, 0, Nat.zero_le _, rfl, rfl, rfl, World.ownsRow_nil .., Below.refl _ _⟩
    case round =>
      obtain ⟨t, A', c', ht, rfl, rfl, rfl, HR, HB⟩ := hrel
      have HBw := Lib.hid (HB2.out.trans (HB.out.mono HB2.out.size))
      have g3 := HG2.out wr HB.out
      by_cases hlt : t < b.to_.length
      case neg =>
        obtain rfl : t = b.to_.length := by omega
        have HO : Hid (workOut (workE b ns plan) w (.returned (.tuple #[.slice A' (workL b.to_ plan b.to_.length).2.length c', .int .i64 0])) wr) := by
          show workOut _ _ _ _
          rw [HF.out]
          exact ⟨A', c', rfl, World.ownsRow.mono HR.out HB2.out.size, HBw.out⟩
        obtain ⟨m, hm⟩ : ∃ m, m = (workL b.to_ plan b.to_.length).2.length := ⟨_, rfl⟩
        rw [← hm] at HO ⊢
        clear hm HR HF
        go_wp2
        go_ret2
        exact HO.out
      case pos =>
        obtain ⟨tb, tof, hA, htb, htc⟩ := sl_getD HS.out hlt
        obtain ⟨pb, pof, hAp, hpb, hpc'⟩ := sl_getD HPn.out (k := t) (by rw [HPl.out]; exact hlt)
        subst hA hAp
        obtain ⟨x, hx⟩ : ∃ x, x = idxI b.to_ (t : Int) := ⟨_, rfl⟩
        have hxl : x < b.to_.length := by rw [hx]; exact HIx.out t hlt
        have hix := Try.slices_Index_int tb tof b.to_.length c b.to_ (t : Int) wr (Nat.le_refl _) (by omega) (fun j hj => (bcell HBw.out htb _).trans (htc j hj))
        rw [List.take_length, idx_of _ _ (by rw [← hx]; exact hxl), ← hx] at hix
        have HXi := Lib.hid hix
        have HPc : Hid (∀ W, Below w2.heap.size w2 W → ∀ j, j < plan.length → W.cell? ⟨pb, pof + j, none⟩ = some (.int .i64 (plan.getD j 0))) := fun W h j hj => (bcell (HB2.out.trans (h.mono HB2.out.size)) hpb _).trans (hpc' j hj)
        have c0 := HPc.out wr HB.out x (by rw [HPl.out]; exact hxl)
        have hstep : workL b.to_ plan (t + 1) = workStep plan x (workL b.to_ plan t) := by rw [hx]; rfl
        have hml := workL_len (to_ := b.to_) (plan := plan) t
        have hml2 : (workL b.to_ plan t).2.length ≤ 1000 := by
          have : t * (plan.length + 1) ≤ 8 * 9 := Nat.mul_le_mul (by omega) (by rw [HPl.out]; omega)
          omega
        obtain ⟨W0, hW0⟩ : ∃ W0, W0 = workL b.to_ plan t := ⟨_, rfl⟩
        rw [← hW0] at hstep hml2 HR ⊢
        obtain ⟨sl, mv⟩ := W0
        have HStp := Lib.hid hstep
        have hpx := hpc
        rw [HPl.out] at hpx
        clear htb htc hpc' hix hx hml hW0 hstep
        obtain ⟨px, hpx0⟩ : ∃ px, px = plan.getD x 0 := ⟨_, rfl⟩
        rw [← hpx0] at c0
        have HPx := Lib.hid hpx0
        have hxI : (x : Int) < (plan.length : Int) := by rw [HPl.out]; omega
        have hx0 : (0 : Int) ≤ (x : Int) := by omega
        clear hpx0
        by_cases hge : 0 ≤ px
        case pos =>
          have d1 : decide (0 ≤ px) = true := decide_eq_true hge
          obtain ⟨mx, hmx⟩ : ∃ mx, mx = max sl (x + 1) := ⟨_, rfl⟩
          have hmax : max (sl : Int) ((x : Int) + 1) = (mx : Int) := by omega
          have HMx := Lib.hid hmx
          clear hmx
          by_cases hne : sl < x + 1
          case pos =>
            have hmin : min (sl : Int) ((x : Int) + 1) = (sl : Int) := by omega
            have hcne : ¬ cp = sl := by omega
            have hb1 : (sl : Int) ≤ (x : Int) + 1 := by omega
            have hb2 : (x : Int) + 1 ≤ (cp : Int) := by omega
            have hb0 : (0 : Int) ≤ (sl : Int) := by omega
            go_upto_region 15 with ((go_at_call 49; refine HXi.out.mono ?_; rintro e wi ⟨rfl, rfl⟩))
            go_wp2
            clear hmin hcne hb1 hb2 hb0 c0 g3
            go_loopw [10, 54] (fun s10 s54 wq => ∃ (j : Nat) (l : List Mv) (A2 : Option Addr) (c2 : Nat), j ≤ x + 1 - sl ∧ s10 = .slice A2 l.length c2 ∧ s54 = .int .i64 (j : Int) ∧ Hid (l.length = mv.length + j) ∧ Hid (l = mv ++ slipsL plan (x + 1) sl j) ∧ Hid (rowM wq w2.heap.size A2 c2 l) ∧ Hid (Below w2.heap.size w2 wq)) (fun _ s54 _ => (x + 1 - sl) - (intOf s54).toNat)
            case atStart => exact ⟨0, mv, A', c', Nat.zero_le _, rfl, rfl, rfl, (by show _ = _; unfold slipsL; simp), HR.out, HB.out⟩
            case round =>
              clear HR HB HBw
              obtain ⟨j, l, A2, c2, hj, rfl, rfl, HLl, HLs, HRl, HBq⟩ := hrel
              have hll : l.length ≤ 2000 := by have h1 := HLl.out; have h2 : mv.length ≤ 1000 := hml2; omega
              by_cases hjl : j < x + 1 - sl
              case pos =>
                have hpj := HPc.out wr HBq.out (sl + j) (by rw [HPl.out]; omega)
                rw [← Nat.add_assoc] at hpj
                have hsm : slipsL plan (x + 1) sl (j + 1) = slipsL plan (x + 1) sl j ++ [⟨true, plan.getD (sl + j) 0⟩] := by
                  unfold slipsL
                  rw [List.take_add_one]
                  congr 1
                  rw [List.getElem?_map, List.getElem?_drop, List.getElem?_take_of_lt (by omega), List.getD_eq_getElem?_getD, List.getElem?_eq_getElem (by rw [HPl.out]; omega)]
                  rfl
                generalize plan.getD (sl + j) 0 = pv at hpj hsm
                obtain ⟨A4, c4, w4, hr4, hrow4, hb4⟩ := rowM_push HRl.out HBq.out.size (by omega) ⟨true, pv⟩
                have HR4 := Lib.hid hrow4
                have HB4 := Lib.hid (HBq.out.trans (hb4.mono (Nat.le_refl _)))
                have HL4 : Hid (l ++ [(⟨true, pv⟩ : Mv)] = mv ++ slipsL plan (x + 1) sl (j + 1)) := by
                  show _ = _
                  rw [hsm, ← List.append_assoc, ← HLs.out]
                have hlen4 : (l ++ [(⟨true, pv⟩ : Mv)]).length = l.length + 1 := by simp
                have hji : (j : Int) < ((x + 1 - sl : Nat) : Int) := by omega
                have hj0 : (0 : Int) ≤ (j : Int) := by omega
                clear hrow4 hb4 HRl HBq HLs hsm
                simp only at hr4
                go_wp2_with (at_builtin; refine wpList_append_run _ rfl _ _ _ _ rfl _ _ (by rfl) (by rfl) hr4 ?_)
                clear hr4 hpj
                go_roundw
                case rel => exact ⟨j + 1, l ++ [(⟨true, pv⟩ : Mv)], A4, c4, by omega, by rw [hlen4], by go_num, (by show _ = _; rw [hlen4, HLl.out]; omega), HL4.out, HR4.out, HB4.out⟩
                case measure => simp [intOf]; omega
              case neg =>
                have HLs2 : Hid (l = mv ++ (((plan.take (x + 1)).drop sl).map fun a => (⟨true, a⟩ : Mv))) := by
                  have h := HLs.out
                  unfold slipsL at h
                  rw [List.take_of_length_le (by simp; omega)] at h
                  exact h
                clear HLs
                have HLs := HLs2
                clear HLs2
                have cx := HPc.out wr HBq.out x (by rw [HPl.out]; exact hxl)
                rw [← HPx.out] at cx
                obtain ⟨A4, c4, w4, hr4, hrow4, hb4⟩ := rowM_push HRl.out HBq.out.size (by omega) ⟨false, px⟩
                have cx' := cell_al cx (.cells #[.bool false, .int .i64 px] 69)
                have HR4 := Lib.hid hrow4
                have HB4 := Lib.hid (HBq.out.trans (hb4.mono (Nat.le_refl _)))
                have HEq : Hid (workL b.to_ plan (t + 1) = (mx, l ++ [⟨false, px⟩])) := by
                  show _ = _
                  rw [HStp.out, HMx.out]
                  unfold workStep
                  rw [← HPx.out]
                  dsimp only
                  rw [if_pos hge, ← HLs.out]
                have hlen4 : (l ++ [(⟨false, px⟩ : Mv)]).length = l.length + 1 := by simp
                clear hrow4 hb4 HRl HBq HLs
                simp only at hr4
                go_wp2_with (at_builtin; refine wpList_append_run _ rfl _ _ _ _ rfl _ _ (by rfl) (by rfl) hr4 ?_)
                clear hr4 cx cx'
                go_roundw
                case rel => exact ⟨t + 1, A4, c4, by omega, by rw [HEq.out]; show _ = Value.slice A4 (l ++ [(⟨false, px⟩ : Mv)]).length c4; rw [hlen4], by rw [HEq.out], by go_num, by rw [HEq.out]; exact HR4.out, HB4.out⟩
                case measure => simp [intOf]; omega
          case neg =>
            have hmin : min (sl : Int) ((x : Int) + 1) = (x : Int) + 1 := by omega
            have hb2 : (x : Int) + 1 ≤ (cp : Int) := by omega
            have hb0 : (0 : Int) ≤ (x : Int) + 1 := by omega
            have HLs : Hid (mv = mv ++ (((plan.take (x + 1)).drop sl).map fun a => (⟨true, a⟩ : Mv))) := by
              show _ = _
              rw [slip_nil (by omega), List.append_nil]
            by_cases hcne : cp = x + 1
            · subst hcne
              go_upto_region 15 with ((go_at_call 49; refine HXi.out.mono ?_; rintro e wi ⟨rfl, rfl⟩))
              go_wp2
              clear hmin hb2 hb0 c0 g3
              have HRl := HR
              have HBq := HB
              have hll : mv.length ≤ 2000 := by have h2 : mv.length ≤ 1000 := hml2; omega
              go_loopw [10, 54] (fun s10 s54 wq => s10 = .slice A' mv.length c' ∧ s54 = .int .i64 0 ∧ wq = wi) (fun _ _ _ => 0)
              case atStart => exact ⟨rfl, rfl, rfl⟩
              case round =>
                obtain ⟨rfl, rfl, rfl⟩ := hrel
                obtain ⟨l, rfl⟩ : ∃ l, l = mv := ⟨_, rfl⟩
                have cx := HPc.out wr HBq.out x (by rw [HPl.out]; exact hxl)
                rw [← HPx.out] at cx
                obtain ⟨A4, c4, w4, hr4, hrow4, hb4⟩ := rowM_push HRl.out HBq.out.size (by omega) ⟨false, px⟩
                have cx' := cell_al cx (.cells #[.bool false, .int .i64 px] 69)
                have HR4 := Lib.hid hrow4
                have HB4 := Lib.hid (HBq.out.trans (hb4.mono (Nat.le_refl _)))
                have HEq : Hid (workL b.to_ plan (t + 1) = (mx, l ++ [⟨false, px⟩])) := by
                  show _ = _
                  rw [HStp.out, HMx.out]
                  unfold workStep
                  rw [← HPx.out]
                  dsimp only
                  rw [if_pos hge, ← HLs.out]
                have hlen4 : (l ++ [(⟨false, px⟩ : Mv)]).length = l.length + 1 := by simp
                clear hrow4 hb4 HRl HBq HLs
                simp only at hr4
                go_wp2_with (at_builtin; refine wpList_append_run _ rfl _ _ _ _ rfl _ _ (by rfl) (by rfl) hr4 ?_)
                clear hr4 cx cx'
                go_roundw
                case rel => exact ⟨t + 1, A4, c4, by omega, by rw [HEq.out]; show _ = Value.slice A4 (l ++ [(⟨false, px⟩ : Mv)]).length c4; rw [hlen4], by rw [HEq.out], by go_num, by rw [HEq.out]; exact HR4.out, HB4.out⟩
                case measure => simp [intOf]; omega
            · go_upto_region 15 with ((go_at_call 49; refine HXi.out.mono ?_; rintro e wi ⟨rfl, rfl⟩))
              go_wp2
              clear hmin hb2 hb0 c0 g3 hcne
              have HRl := HR
              have HBq := HB
              have hll : mv.length ≤ 2000 := by have h2 : mv.length ≤ 1000 := hml2; omega
              go_loopw [10, 54] (fun s10 s54 wq => s10 = .slice A' mv.length c' ∧ s54 = .int .i64 0 ∧ wq = wi) (fun _ _ _ => 0)
              case atStart => exact ⟨rfl, rfl, rfl⟩
              case round =>
                obtain ⟨rfl, rfl, rfl⟩ := hrel
                obtain ⟨l, rfl⟩ : ∃ l, l = mv := ⟨_, rfl⟩
                have cx := HPc.out wr HBq.out x (by rw [HPl.out]; exact hxl)
                rw [← HPx.out] at cx
                obtain ⟨A4, c4, w4, hr4, hrow4, hb4⟩ := rowM_push HRl.out HBq.out.size (by omega) ⟨false, px⟩
                have cx' := cell_al cx (.cells #[.bool false, .int .i64 px] 69)
                have HR4 := Lib.hid hrow4
                have HB4 := Lib.hid (HBq.out.trans (hb4.mono (Nat.le_refl _)))
                have HEq : Hid (workL b.to_ plan (t + 1) = (mx, l ++ [⟨false, px⟩])) := by
                  show _ = _
                  rw [HStp.out, HMx.out]
                  unfold workStep
                  rw [← HPx.out]
                  dsimp only
                  rw [if_pos hge, ← HLs.out]
                have hlen4 : (l ++ [(⟨false, px⟩ : Mv)]).length = l.length + 1 := by simp
                clear hrow4 hb4 HRl HBq HLs
                simp only at hr4
                go_wp2_with (at_builtin; refine wpList_append_run _ rfl _ _ _ _ rfl _ _ (by rfl) (by rfl) hr4 ?_)
                clear hr4 cx cx'
                go_roundw
                case rel => exact ⟨t + 1, A4, c4, by omega, by rw [HEq.out]; show _ = Value.slice A4 (l ++ [(⟨false, px⟩ : Mv)]).length c4; rw [hlen4], by rw [HEq.out], by go_num, by rw [HEq.out]; exact HR4.out, HB4.out⟩
                case measure => simp [intOf]; omega
        case neg =>
          have d1 : decide (0 ≤ px) = false := decide_eq_false hge
          obtain ⟨mx, hmx⟩ : ∃ mx, mx = max sl (x + 1) := ⟨_, rfl⟩
          have hmax : max (sl : Int) ((x : Int) + 1) = (mx : Int) := by omega
          have HMx := Lib.hid hmx
          clear hmx
          by_cases hne : sl < x
          case pos =>
            have hmin : min (sl : Int) ((x : Int)) = (sl : Int) := by omega
            have hcne : ¬ cp = sl := by omega
            have hb1 : (sl : Int) ≤ (x : Int) := by omega
            have hb2 : (x : Int) ≤ (cp : Int) := by omega
            have hb0 : (0 : Int) ≤ (sl : Int) := by omega
            go_upto_region 15 with ((go_at_call 49; refine HXi.out.mono ?_; rintro e wi ⟨rfl, rfl⟩))
            go_wp2
            clear hmin hcne hb1 hb2 hb0 c0 g3
            go_loopw [10, 54] (fun s10 s54 wq => ∃ (j : Nat) (l : List Mv) (A2 : Option Addr) (c2 : Nat), j ≤ x - sl ∧ s10 = .slice A2 l.length c2 ∧ s54 = .int .i64 (j : Int) ∧ Hid (l.length = mv.length + j) ∧ Hid (l = mv ++ slipsL plan (x) sl j) ∧ Hid (rowM wq w2.heap.size A2 c2 l) ∧ Hid (Below w2.heap.size w2 wq)) (fun _ s54 _ => (x - sl) - (intOf s54).toNat)
            case atStart => exact ⟨0, mv, A', c', Nat.zero_le _, rfl, rfl, rfl, (by show _ = _; unfold slipsL; simp), HR.out, HB.out⟩
            case round =>
              clear HR HB HBw
              obtain ⟨j, l, A2, c2, hj, rfl, rfl, HLl, HLs, HRl, HBq⟩ := hrel
              have hll : l.length ≤ 2000 := by have h1 := HLl.out; have h2 : mv.length ≤ 1000 := hml2; omega
              by_cases hjl : j < x - sl
              case pos =>
                have hpj := HPc.out wr HBq.out (sl + j) (by rw [HPl.out]; omega)
                rw [← Nat.add_assoc] at hpj
                have hsm : slipsL plan (x) sl (j + 1) = slipsL plan (x) sl j ++ [⟨true, plan.getD (sl + j) 0⟩] := by
                  unfold slipsL
                  rw [List.take_add_one]
                  congr 1
                  rw [List.getElem?_map, List.getElem?_drop, List.getElem?_take_of_lt (by omega), List.getD_eq_getElem?_getD, List.getElem?_eq_getElem (by rw [HPl.out]; omega)]
                  rfl
                generalize plan.getD (sl + j) 0 = pv at hpj hsm
                obtain ⟨A4, c4, w4, hr4, hrow4, hb4⟩ := rowM_push HRl.out HBq.out.size (by omega) ⟨true, pv⟩
                have HR4 := Lib.hid hrow4
                have HB4 := Lib.hid (HBq.out.trans (hb4.mono (Nat.le_refl _)))
                have HL4 : Hid (l ++ [(⟨true, pv⟩ : Mv)] = mv ++ slipsL plan (x) sl (j + 1)) := by
                  show _ = _
                  rw [hsm, ← List.append_assoc, ← HLs.out]
                have hlen4 : (l ++ [(⟨true, pv⟩ : Mv)]).length = l.length + 1 := by simp
                have hji : (j : Int) < ((x - sl : Nat) : Int) := by omega
                have hj0 : (0 : Int) ≤ (j : Int) := by omega
                clear hrow4 hb4 HRl HBq HLs hsm
                simp only at hr4
                go_wp2_with (at_builtin; refine wpList_append_run _ rfl _ _ _ _ rfl _ _ (by rfl) (by rfl) hr4 ?_)
                clear hr4 hpj
                go_roundw
                case rel => exact ⟨j + 1, l ++ [(⟨true, pv⟩ : Mv)], A4, c4, by omega, by rw [hlen4], by go_num, (by show _ = _; rw [hlen4, HLl.out]; omega), HL4.out, HR4.out, HB4.out⟩
                case measure => simp [intOf]; omega
              case neg =>
                have HLs2 : Hid (l = mv ++ (((plan.take (x)).drop sl).map fun a => (⟨true, a⟩ : Mv))) := by
                  have h := HLs.out
                  unfold slipsL at h
                  rw [List.take_of_length_le (by simp; omega)] at h
                  exact h
                clear HLs
                have HLs := HLs2
                clear HLs2
                have cx := HPc.out wr HBq.out x (by rw [HPl.out]; exact hxl)
                rw [← HPx.out] at cx
                obtain ⟨A4, c4, w4, hr4, hrow4, hb4⟩ := rowM_push HRl.out HBq.out.size (by omega) ⟨false, px⟩
                have cx' := cell_al cx (.cells #[.bool false, .int .i64 px] 69)
                have HR4 := Lib.hid hrow4
                have HB4 := Lib.hid (HBq.out.trans (hb4.mono (Nat.le_refl _)))
                have HEq : Hid (workL b.to_ plan (t + 1) = (mx, l ++ [⟨false, px⟩])) := by
                  show _ = _
                  rw [HStp.out, HMx.out]
                  unfold workStep
                  rw [← HPx.out]
                  dsimp only
                  rw [if_neg (by omega), ← HLs.out]
                have hlen4 : (l ++ [(⟨false, px⟩ : Mv)]).length = l.length + 1 := by simp
                clear hrow4 hb4 HRl HBq HLs
                simp only at hr4
                go_wp2_with (at_builtin; refine wpList_append_run _ rfl _ _ _ _ rfl _ _ (by rfl) (by rfl) hr4 ?_)
                clear hr4 cx cx'
                go_roundw
                case rel => exact ⟨t + 1, A4, c4, by omega, by rw [HEq.out]; show _ = Value.slice A4 (l ++ [(⟨false, px⟩ : Mv)]).length c4; rw [hlen4], by rw [HEq.out], by go_num, by rw [HEq.out]; exact HR4.out, HB4.out⟩
                case measure => simp [intOf]; omega
          case neg =>
            have hmin : min (sl : Int) ((x : Int)) = (x : Int) := by omega
            have hb2 : (x : Int) ≤ (cp : Int) := by omega
            have hb0 : (0 : Int) ≤ (x : Int) := by omega
            have HLs : Hid (mv = mv ++ (((plan.take (x)).drop sl).map fun a => (⟨true, a⟩ : Mv))) := by
              show _ = _
              rw [slip_nil (by omega), List.append_nil]
            have hcne : ¬ cp = x := by omega
            go_upto_region 15 with ((go_at_call 49; refine HXi.out.mono ?_; rintro e wi ⟨rfl, rfl⟩))
            go_wp2
            clear hmin hb2 hb0 c0 g3 hcne
            have HRl := HR
            have HBq := HB
            have hll : mv.length ≤ 2000 := by have h2 : mv.length ≤ 1000 := hml2; omega
            go_loopw [10, 54] (fun s10 s54 wq => s10 = .slice A' mv.length c' ∧ s54 = .int .i64 0 ∧ wq = wi) (fun _ _ _ => 0)
            case atStart => exact ⟨rfl, rfl, rfl⟩
            case round =>
              obtain ⟨rfl, rfl, rfl⟩ := hrel
              obtain ⟨l, rfl⟩ : ∃ l, l = mv := ⟨_, rfl⟩
              have cx := HPc.out wr HBq.out x (by rw [HPl.out]; exact hxl)
              rw [← HPx.out] at cx
              obtain ⟨A4, c4, w4, hr4, hrow4, hb4⟩ := rowM_push HRl.out HBq.out.size (by omega) ⟨false, px⟩
              have cx' := cell_al cx (.cells #[.bool false, .int .i64 px] 69)
              have HR4 := Lib.hid hrow4
              have HB4 := Lib.hid (HBq.out.trans (hb4.mono (Nat.le_refl _)))
              have HEq : Hid (workL b.to_ plan (t + 1) = (mx, l ++ [⟨false, px⟩])) := by
                show _ = _
                rw [HStp.out, HMx.out]
                unfold workStep
                rw [← HPx.out]
                dsimp only
                rw [if_neg (by omega), ← HLs.out]
              have hlen4 : (l ++ [(⟨false, px⟩ : Mv)]).length = l.length + 1 := by simp
              clear hrow4 hb4 HRl HBq HLs
              simp only at hr4
              go_wp2_with (at_builtin; refine wpList_append_run _ rfl _ _ _ _ rfl _ _ (by rfl) (by rfl) hr4 ?_)
              clear hr4 cx cx'
              go_roundw
              case rel => exact ⟨t + 1, A4, c4, by omega, by rw [HEq.out]; show _ = Value.slice A4 (l ++ [(⟨false, px⟩ : Mv)]).length c4; rw [hlen4], by rw [HEq.out], by go_num, by rw [HEq.out]; exact HR4.out, HB4.out⟩
              case measure => simp [intOf]; omega
end Go.Proofs.Ytodjkifcbgmckaa
