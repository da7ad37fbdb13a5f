/- IntarsiaFewest, walked: no list of needles binds a float with fewer needles than Bindings tells. -/
import Derived.Test.YthedmiilkeclaaaKRg
namespace Go.Proofs.Ythedmiilkeclaaa
open Go.RowKit Go.Shelf Go.Sort
open Go.Proofs.Ythedmiilkeclaaa.I34
set_option maxRecDepth 100000

def fewRow (n : Nat) : List Int := 1 :: (List.replicate n 2 ++ [1])
theorem few_lens : ∀ n : Fin 29, 1 ≤ n.val → lens [fewRow n.val] = [n.val] ∧ chk [fewRow n.val] = 0 := by decide +kernel
theorem few_bin {n lim : Nat} (h1 : 1 ≤ n) (h2 : n ≤ 28) (h3 : 1 ≤ lim) (h4 : lim ≤ 40) : binR [fewRow n] (lim : Int) = (((n / (lim + 1) : Nat) : Int), 0) := by
  obtain ⟨e1, e2⟩ := few_lens ⟨n, by omega⟩ h1
  have e1' : lens [fewRow n] = [n] := e1
  have e2' : chk [fewRow n] = 0 := e2
  rw [binR_ok (chkL_ok e2' (by omega)), Int.toNat_natCast]
  unfold sumBind
  rw [e1']
  simp
theorem fewRow_len (n : Nat) : (fewRow n).length = n + 2 := by unfold fewRow; simp
def fillR (n k : Nat) : List Int := List.replicate k 2 ++ List.replicate (n - k) 0
theorem fillR_len {n k : Nat} (h : k ≤ n) : (fillR n k).length = n := by unfold fillR; simp; omega
theorem fillR_next {n k : Nat} (h : k < n) : (fillR n k).set k 2 = fillR n (k + 1) := by
  unfold fillR
  rw [List.set_append_right _ _ (by simp), List.length_replicate, Nat.sub_self]
  obtain ⟨m, hm⟩ : ∃ m, n - k = m + 1 := ⟨n - k - 1, by omega⟩
  rw [hm, show n - (k + 1) = m by omega, List.replicate_succ, List.set_cons_zero, List.replicate_succ', List.append_assoc]
  rfl
theorem fillR_ends (n : Nat) : ((fillR (n + 2) (n + 2)).set 0 1).set (n + 1) 1 = fewRow n := by
  unfold fillR fewRow
  rw [Nat.sub_self, List.replicate_zero, List.append_nil, List.replicate_succ, List.set_cons_zero, List.set_cons_succ, List.replicate_succ', List.set_append_right _ _ (by simp), List.length_replicate, Nat.sub_self]
  rfl
theorem ownI_n {w : World} {B n c : Nat} {a : Option Addr} {l : List Int} (h : ownI w B (.slice a n c) l) : n = l.length := by
  obtain ⟨a', c', e⟩ := ownI_form h
  cases e; rfl
theorem ownI_set {w : World} {B g n c : Nat} {l : List Int} (h : ownI w B (.slice (some ⟨g, 0, none⟩) n c) l) (k : Nat) (x : Int) : ownI (w.setCell ⟨g, k, none⟩ (.int .i64 x)) B (.slice (some ⟨g, 0, none⟩) n c) (l.set k x) := by
  have hn := ownI_n h
  subst hn
  have h2 := (World.ownsRow.stored h k (.int .i64 x)).1
  unfold ownI
  have e : intV (l.set k x) = (intV l).set k (.int .i64 x) := by unfold intV; rw [List.map_set]
  rw [e, List.length_set]
  exact h2
theorem ownI_at {w : World} {B g n c : Nat} {l : List Int} (h : ownI w B (.slice (some ⟨g, 0, none⟩) n c) l) {k : Nat} (hk : k < l.length) : w.cell? ⟨g, k, none⟩ = some (.int .i64 l[k]) ∧ w.frozen? ⟨g, k, none⟩ = false := by
  have hn := ownI_n h
  subst hn
  refine ⟨?_, World.ownsRow.frozenAt h k⟩
  rw [World.ownsRow.cellAt h k (by omega)]
  unfold intV
  rw [List.getElem?_map, List.getElem?_eq_getElem hk]
  rfl
theorem mk_intsI (w : World) (n : Nat) (hn : n ≤ 1000000) : ∃ w', (Instr.makeSlice 48 (.int .i64 (n : Int)) (.int .i64 (n : Int))).run Try.prog w = .ok (.slice (some ⟨w.heap.size, 0, none⟩) n n) w' ∧ ownI w' w.heap.size (.slice (some ⟨w.heap.size, 0, none⟩) n n) (List.replicate n 0) ∧ Below w.heap.size w w' := by
  obtain ⟨ii, hii, hii0, hii1, hii2⟩ := info_parts info_intC
  obtain ⟨w3, hmr, hob, hgb⟩ := run_make_full (P := Try.prog) w w.heap.size 48 3 ii (.int .i64 0) 1 Try.underlying48 hii hii0 hii1 .i64 .i64 n (by rw [hii2]; omega) (by unfold maxLen; omega) (Nat.le_refl _)
  refine ⟨w3, hmr, ?_, Below.of_grown hgb (Nat.le_refl _) (fun k e => by cases e)⟩
  unfold ownI
  rw [List.length_replicate]
  have e : intV (List.replicate n 0) = (madeCells (Value.int .i64 0).cells (n * 1)).toList := by
    rw [Nat.mul_one]
    show _ = (madeCells #[Value.int .i64 0] n).toList
    rw [toList_madeCells_one]
    unfold intV
    rw [List.map_replicate]
  rw [e]
  exact hob
theorem rows_one {w : World} {g n c : Nat} {B : Nat} {l : List Int} (h : ownI w B (.slice (some ⟨g, 0, none⟩) n c) l) (hc : l.length ≤ c) : SlRows (w.alloc (.cells #[.slice (some ⟨g, 0, none⟩) l.length c] 48)) (w.alloc (.cells #[.slice (some ⟨g, 0, none⟩) l.length c] 48)).heap.size (some ⟨w.heap.size, 0, none⟩) [l] := fun _ => by
  refine ⟨w.heap.size, 0, rfl, by simp, fun j row hr => ?_⟩
  have hj : j = 0 := by have := (List.getElem?_eq_some_iff.1 hr).1; simp at this; exact this
  subst hj
  have e : row = l := by simpa using hr.symm
  subst e
  have hb := (Below.refl w.heap.size w).alloc (Nat.le_refl _) (.cells #[.slice (some ⟨g, 0, none⟩) row.length c] 48)
  exact ⟨_, c, cell_new rfl rfl rfl, hc, (h.slI.below hb).more hb.size⟩
/-- What the law's loop keeps. -/
def FsQ (n lim m i : Nat) (q : Int) : Prop := 0 ≤ q ∧ q ≤ ((i * (lim + 1) : Nat) : Int) ∧ (i ≤ m → q ≤ (n : Int)) ∧ (i = m + 1 → q = (n : Int) + 1)
theorem FsQ.next {n lim m i : Nat} {q z : Int} (h : FsQ n lim m i q) (h1 : q < z) (h2 : z - q ≤ (lim : Int) + 1) (h3 : i + 1 ≤ m → z ≤ (n : Int)) (h4 : i + 1 = m + 1 → z = (n : Int) + 1) : FsQ n lim m (i + 1) z := by
  obtain ⟨a, b, -, -⟩ := h
  refine ⟨by omega, ?_, h3, h4⟩
  rw [Nat.add_mul, Nat.one_mul]
  omega
theorem FsQ.end_ {n lim m : Nat} {q : Int} (h : FsQ n lim m (m + 1) q) : n / (lim + 1) ≤ m := by
  obtain ⟨-, b, -, d⟩ := h
  have e := d rfl
  have : n < (m + 1) * (lim + 1) := by omega
  exact Nat.le_of_lt_succ ((Nat.div_lt_iff_lt_mul (by omega)).2 this)
set_option maxHeartbeats 16000000 in
theorem fewest_walk (length limit : Int) (A : Option Addr) (c : Nat) (l : List Int) (w : World) (hs : SlI w w.heap.size A l) (hlm : l.length ≤ 9223372036854775807) :
    Calls Try.prog 5 #[.int .i64 length, .int .i64 limit, .slice A l.length c] w fun e w' => e = .returned (.bool true) ∧ Below w.heap.size w w' := by
  have HAv := Lib.hid (alive34_any w)
  have HS := Lib.hid hs
  clear hs
  by_cases g1 : length < 1
  · have d9 : decide (length < 1) = true := decide_eq_true g1
    clear g1
    go_enter Try.func5, Try.ntmps5
    go_wp2_with ((go_at_call 17; refine HAv.out.mono ?_; rintro e w1 ⟨rfl, hb1⟩))
    go_ret
    exact ⟨rfl, hb1⟩
  have d0 : decide (length < 1) = false := decide_eq_false g1
  by_cases g2 : 28 < length
  · have d9 : decide (28 < length) = true := decide_eq_true g2
    clear g2
    go_enter Try.func5, Try.ntmps5
    go_wp2_with ((go_at_call 17; refine HAv.out.mono ?_; rintro e w1 ⟨rfl, hb1⟩))
    go_ret
    exact ⟨rfl, hb1⟩
  have d1 : decide (28 < length) = false := decide_eq_false g2
  by_cases g3 : limit < 1
  · have d9 : decide (limit < 1) = true := decide_eq_true g3
    clear g3
    go_enter Try.func5, Try.ntmps5
    go_wp2_with ((go_at_call 17; refine HAv.out.mono ?_; rintro e w1 ⟨rfl, hb1⟩))
    go_ret
    exact ⟨rfl, hb1⟩
  have d2 : decide (limit < 1) = false := decide_eq_false g3
  by_cases g4 : 40 < limit
  · have d9 : decide (40 < limit) = true := decide_eq_true g4
    clear g4
    go_enter Try.func5, Try.ntmps5
    go_wp2_with ((go_at_call 17; refine HAv.out.mono ?_; rintro e w1 ⟨rfl, hb1⟩))
    go_ret
    exact ⟨rfl, hb1⟩
  have d3 : decide (40 < limit) = false := decide_eq_false g4
  by_cases g5 : 100 < l.length
  · have d9 : decide (100 < l.length) = true := decide_eq_true g5
    have d8 : decide ((100 : Int) < (l.length : Int)) = true := decide_eq_true (by omega)
    clear g5
    go_enter Try.func5, Try.ntmps5
    go_wp2_with ((go_at_call 17; refine HAv.out.mono ?_; rintro e w1 ⟨rfl, hb1⟩))
    go_ret
    exact ⟨rfl, hb1⟩
  have d4 : decide (100 < l.length) = false := decide_eq_false g5
  have d5 : decide ((100 : Int) < (l.length : Int)) = false := decide_eq_false (by omega)
  obtain ⟨n, hn⟩ : ∃ n : Nat, length = (n : Int) := ⟨length.toNat, by omega⟩
  obtain ⟨lim, hlim⟩ : ∃ n : Nat, limit = (n : Int) := ⟨limit.toNat, by omega⟩
  subst hn hlim
  have hn1 : 1 ≤ n := by omega
  have hn28 : n ≤ 28 := by omega
  have hl1 : 1 ≤ lim := by omega
  have hl40 : lim ≤ 40 := by omega
  clear g1 g2 g3 g4 hlm
  go_enter Try.func5, Try.ntmps5
  go_upto_region 4 with ((go_at_call 17; refine HAv.out.mono ?_; rintro e w1 ⟨rfl, hb1⟩))
  refine abs_world (Q := fun W => Code.wp _ _ _ _ W) (F := fun W => Below w.heap.size w W) _ hb1 ?_
  clear hb1 HAv d0 d1 d2 d3 d4 d5
  intro W1 hb1
  have HB1 := Lib.hid hb1
  clear hb1
  obtain ⟨w2, hmk, hrow, hb2⟩ := mk_intsI W1 (n + 2) (by omega)
  have hmr : (Instr.makeSlice 48 (.int .i64 ((n : Int) + 2)) (.int .i64 ((n : Int) + 2))).run Try.prog W1 = .ok (.slice (some ⟨W1.heap.size, 0, none⟩) (n + 2) (n + 2)) w2 := hmk
  have hf0 : fillR (n + 2) 0 = List.replicate (n + 2) 0 := by simp [fillR]
  rw [← hf0] at hrow
  have HX : Hid (ownI w2 W1.heap.size (.slice (some ⟨W1.heap.size, 0, none⟩) (n + 2) (n + 2)) (fillR (n + 2) 0) ∧ Below W1.heap.size W1 w2) := ⟨hrow, hb2⟩
  clear hf0
  clear hmk hrow hb2
  go_upto_region 6 with fail
  clear hmr
  refine abs_world (Q := fun W => Code.wp _ _ _ _ W) (F := fun W => ownI W W1.heap.size (.slice (some ⟨W1.heap.size, 0, none⟩) (n + 2) (n + 2)) (fillR (n + 2) 0) ∧ Below W1.heap.size W1 W) _ HX.out ?_
  clear HX w2
  rintro W2 ⟨ho2, hb2⟩
  have HO2 := Lib.hid ho2
  have HB2 := Lib.hid hb2
  clear ho2 hb2
  obtain ⟨m, hm⟩ : ∃ m, m = n + 2 := ⟨_, rfl⟩
  rw [← hm] at HO2 ⊢
  have hm30 : m ≤ 30 := by omega
  have hm2 : 2 ≤ m := by omega
  have HM := Lib.hid hm
  clear hm
  go_wp2
  go_loopw [9] (fun s9 wr => ∃ k : Nat, k ≤ m ∧ s9 = .int .i64 (k : Int) ∧ Hid (ownI wr W1.heap.size (.slice (some ⟨W1.heap.size, 0, none⟩) m m) (fillR m k)) ∧ Hid (Below W1.heap.size W1 wr)) (fun s9 _ => m - (intOf s9).toNat)
  case atStart => exact ⟨0, Nat.zero_le _, rfl, HO2.out, HB2.out⟩
  case round =>
    obtain ⟨k, hk, rfl, HO, HB⟩ := hrel
    clear HO2 HB2
    by_cases hlt : k < m
    case pos =>
      obtain ⟨y0, yf⟩ := ownI_at HO.out (k := k) (by rw [fillR_len hk]; exact hlt)
      have ho := ownI_set HO.out k 2
      rw [fillR_next hlt] at ho
      have HO3 := Lib.hid ho
      have HB3 := Lib.hid (HB.out.setCell (p := ⟨W1.heap.size, k, none⟩) (Nat.le_refl _) (.int .i64 2))
      clear ho HO
      go_wp2
      go_roundw
      case rel => exact ⟨k + 1, by omega, by go_num, HO3.out, HB3.out⟩
      case measure => simp [intOf]; omega
    case neg =>
      obtain rfl : k = m := by omega
      obtain rfl : k = n + 2 := HM.out
      obtain ⟨y0, yf⟩ := ownI_at HO.out (k := 0) (by rw [fillR_len (Nat.le_refl _)]; omega)
      have ho1 := ownI_set HO.out 0 1
      obtain ⟨z0, zf⟩ := ownI_at ho1 (k := n + 1) (by rw [List.length_set, fillR_len (Nat.le_refl _)]; omega)
      have zf0 := (ownI_at HO.out (k := n + 1) (by rw [fillR_len (Nat.le_refl _)]; omega)).2
      have zg0 := (ownI_at HO.out (k := n + 1) (by rw [fillR_len (Nat.le_refl _)]; omega)).1
      have ho2 := ownI_set ho1 (n + 1) 1
      rw [fillR_ends] at ho2
      have hb3 := (HB.out.setCell (p := ⟨W1.heap.size, 0, none⟩) (Nat.le_refl _) (.int .i64 1)).setCell (p := ⟨W1.heap.size, n + 1, none⟩) (Nat.le_refl _) (.int .i64 1)
      have HX : Hid (ownI ((wr.setCell ⟨W1.heap.size, 0, none⟩ (.int .i64 1)).setCell ⟨W1.heap.size, n + 1, none⟩ (.int .i64 1)) W1.heap.size (.slice (some ⟨W1.heap.size, 0, none⟩) (n + 2) (n + 2)) (fewRow n) ∧ Below W1.heap.size W1 ((wr.setCell ⟨W1.heap.size, 0, none⟩ (.int .i64 1)).setCell ⟨W1.heap.size, n + 1, none⟩ (.int .i64 1))) := ⟨ho2, hb3⟩
      clear ho1 ho2 hb3 HO HB hk hlt HM hm30 hm2
      go_upto_region 10 with fail
      refine abs_world (Q := fun W => Code.wp _ _ _ _ W) (F := fun W => ownI W W1.heap.size (.slice (some ⟨W1.heap.size, 0, none⟩) (n + 2) (n + 2)) (fewRow n) ∧ Below W1.heap.size W1 W) _ HX.out ?_
      clear HX y0 yf z0 zf zf0 zg0
      rintro W3 ⟨ho3, hb3⟩
      have hr1 := rows_one ho3 (by rw [fewRow_len]; exact Nat.le_refl _)
      have hal := (Below.refl W3.heap.size W3).alloc (Nat.le_refl _) (.cells #[.slice (some ⟨W1.heap.size, 0, none⟩) (n + 2) (n + 2)] 48)
      rw [fewRow_len] at hr1
      have hbn : Calls Try.prog 12 #[.slice (some ⟨W3.heap.size, 0, none⟩) 1 1, .int .i64 (lim : Int)] (W3.alloc (.cells #[.slice (some ⟨W1.heap.size, 0, none⟩) (n + 2) (n + 2)] 48)) fun e w' => e = .returned (.tuple #[.int .i64 (binR [fewRow n] (lim : Int)).1, .int .i64 (binR [fewRow n] (lim : Int)).2]) ∧ Below (W3.alloc (.cells #[.slice (some ⟨W1.heap.size, 0, none⟩) (n + 2) (n + 2)] 48)).heap.size (W3.alloc (.cells #[.slice (some ⟨W1.heap.size, 0, none⟩) (n + 2) (n + 2)] 48)) w' :=
        Bindings_any (some ⟨W3.heap.size, 0, none⟩) 1 [fewRow n] lim _ hr1 (fun row hr => by rw [List.mem_singleton.1 hr, fewRow_len]; omega)
      rw [few_bin hn1 hn28 hl1 hl40] at hbn
      obtain ⟨qn, hqn⟩ : ∃ qn, qn = n / (lim + 1) := ⟨_, rfl⟩
      rw [← hqn] at hbn
      have hqn28 : qn ≤ 28 := by rw [hqn]; exact Nat.le_trans (Nat.div_le_self _ _) hn28
      have HQn := Lib.hid hqn
      have HBn := Lib.hid hbn
      have HB3 : Hid (∀ W, Below (W3.alloc (.cells #[.slice (some ⟨W1.heap.size, 0, none⟩) (n + 2) (n + 2)] 48)).heap.size (W3.alloc (.cells #[.slice (some ⟨W1.heap.size, 0, none⟩) (n + 2) (n + 2)] 48)) W → Below w.heap.size w W) := fun W hb => HB1.out.trans ((hb3.trans ((hal.trans (hb.mono hal.size)).mono hb3.size)).mono HB1.out.size)
      clear ho3 hb3 hr1 hal hbn hqn HB1
      go_upto_region 13 with ((go_at_call 12; refine HBn.out.mono ?_; rintro e w4 ⟨rfl, hb4⟩))
      refine abs_world (Q := fun W => Code.wp _ _ _ _ W) (F := fun W => Below w.heap.size w W) _ (HB3.out w4 hb4) ?_
      clear hb4 HBn HB3
      intro W4 hb4
      have HB4 := Lib.hid hb4
      clear hb4
      go_wp2
      go_loop [12, 13] (fun s12 s13 => ∃ (i : Nat) (q : Int), i ≤ l.length + 1 ∧ s13 = .int .i64 (i : Int) ∧ s12 = .int .i64 q ∧ 0 ≤ q ∧ q ≤ 30 ∧ Hid (FsQ n lim l.length i q)) (fun _ s13 => l.length + 1 - (intOf s13).toNat)
      case atStart => exact ⟨0, 0, by omega, rfl, rfl, by omega, by omega, ⟨by omega, by simp, fun _ => by omega, fun h => by omega⟩⟩
      case round =>
        obtain ⟨i, q, hi, rfl, rfl, hq0, hq30, HQ⟩ := hrel
        by_cases hle : i ≤ l.length
        case pos =>
          have e0 : decide (i ≤ l.length) = true := decide_eq_true hle
          have hqn' := HQ.out.2.2.1 hle
          by_cases hlt : i < l.length
          case pos =>
            have e1 : decide (i < l.length) = true := decide_eq_true hlt
            obtain ⟨b, off, z, hA, hbl, hz, hcz⟩ := HS.out.at_ hlt
            have hc4 := (bcell HB4.out hbl _).trans hcz
            subst hA
            clear hz hcz
            by_cases h1 : z ≤ q
            · have e2 : decide (z ≤ q) = true := decide_eq_true h1
              clear h1
              go_wp2
              go_ret
              exact ⟨rfl, HB4.out⟩
            have e2 : decide (z ≤ q) = false := decide_eq_false h1
            by_cases h2 : (n : Int) + 1 < z
            · have e3 : decide ((n : Int) + 1 < z) = true := decide_eq_true h2
              clear h1 h2
              go_wp2
              go_ret
              exact ⟨rfl, HB4.out⟩
            have e3 : decide ((n : Int) + 1 < z) = false := decide_eq_false h2
            have hz1 : q < z := by omega
            have hz2 : z ≤ (n : Int) + 1 := by omega
            by_cases h3 : (lim : Int) + 1 < z - q
            · have e4 : decide ((lim : Int) + 1 < z - q) = true := decide_eq_true h3
              clear h1 h2 h3
              go_wp2
              go_ret
              exact ⟨rfl, HB4.out⟩
            have e4 : decide ((lim : Int) + 1 < z - q) = false := decide_eq_false h3
            by_cases h4 : (n : Int) < z
            · have e5 : decide ((n : Int) < z) = true := decide_eq_true h4
              clear h1 h2 h3 h4
              go_wp2
              go_ret
              exact ⟨rfl, HB4.out⟩
            have e5 : decide ((n : Int) < z) = false := decide_eq_false h4
            have HQ2 := Lib.hid (HQ.out.next (z := z) hz1 (by omega) (fun _ => by omega) (fun h => by omega))
            clear h1 h2 h3 HQ
            go_wp2
            go_round
            case rel => exact ⟨i + 1, z, by omega, by go_num, rfl, by omega, by omega, HQ2.out⟩
            case measure => simp [intOf]; omega
          case neg =>
            obtain rfl : i = l.length := by omega
            have e1 : decide (l.length < l.length) = false := decide_eq_false hlt
            have e2 : decide ((n : Int) + 1 ≤ q) = false := decide_eq_false (by omega)
            by_cases h3 : (lim : Int) + 1 < (n : Int) + 1 - q
            · have e4 : decide ((lim : Int) + 1 < (n : Int) + 1 - q) = true := decide_eq_true h3
              clear h3
              go_wp2
              go_ret
              exact ⟨rfl, HB4.out⟩
            have e4 : decide ((lim : Int) + 1 < (n : Int) + 1 - q) = false := decide_eq_false h3
            have HQ2 := Lib.hid (HQ.out.next (z := (n : Int) + 1) (by omega) (by omega) (fun h => by omega) (fun _ => rfl))
            clear h3 HQ
            go_wp2
            go_round
            case rel => exact ⟨l.length + 1, (n : Int) + 1, by omega, by go_num, rfl, by omega, by omega, HQ2.out⟩
            case measure => simp [intOf]
        case neg =>
          obtain rfl : i = l.length + 1 := by omega
          have e0 : decide (l.length + 1 ≤ l.length) = false := decide_eq_false (by omega)
          have hend := HQ.out.end_
          rw [← HQn.out] at hend
          have e1 : decide (qn ≤ l.length) = true := decide_eq_true hend
          clear hle HQ hend
          go_wp2
          go_ret
          exact ⟨rfl, HB4.out⟩
end Go.Proofs.Ythedmiilkeclaaa
