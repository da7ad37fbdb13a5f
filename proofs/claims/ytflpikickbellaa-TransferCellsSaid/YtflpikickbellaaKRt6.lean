/- Layer 32: the reference's planned. -/
import Derived.Test.YtflpikickbellaaKRt5
namespace Go.Proofs.Ytflpikickbellaa
open Go.RowKit Go.Shelf Go.Sort
set_option maxRecDepth 100000

theorem ordE_zero {s : Sft} (h : (ordE s).2 = 0) : sftE s = 0 := by
  by_cases e : sftE s = 0
  · exact e
  · rw [ordE_e e] at h; exact absurd h e
theorem plndE_e {s : Sft} (h : (ordE s).2 ≠ 0) : plndE s = ([], (ordE s).2) := by unfold plndE; rw [if_pos h]
theorem plndE_many {s : Sft} (h : (ordE s).2 = 0) (hs : stackB s = true) : plndE s = ([], 4) := by unfold plndE; rw [if_neg (by simpa using h), if_pos hs]
theorem plndE_ok {s : Sft} (h : (ordE s).2 = 0) (hs : stackB s = false) : plndE s = ((ordE s).1, 0) := by
  unfold plndE
  rw [if_neg (by simpa using h), hs]
  simp only [Bool.false_eq_true, if_false]
  rw [← h]
/-- How many of the first loops come to a needle. -/
def cntT (s : Sft) (t : Int) (i : Nat) : Nat := (s.to_.take i).countP fun u => decide (u = t)
theorem cntT_next {s : Sft} {t : Int} {i : Nat} (hi : i < s.to_.length) : cntT s t (i + 1) = cntT s t i + if s.to_.getD i 0 = t then 1 else 0 := by
  unfold cntT
  rw [List.take_succ_eq_append_getElem hi, List.countP_append, List.getD_eq_getElem?_getD, List.getElem?_eq_getElem hi, Option.getD_some]
  congr 1
  by_cases e : s.to_[i] = t
  · rw [if_pos e, List.countP_cons_of_pos (by simpa using e)]; rfl
  · rw [if_neg e, List.countP_cons_of_neg (by simpa using e)]; rfl
theorem cntT_le (s : Sft) (t : Int) (i : Nat) : cntT s t i ≤ i := by
  have h := List.countP_le_length (p := fun u => decide (u = t)) (l := s.to_.take i)
  rw [List.length_take] at h
  unfold cntT; omega
theorem stack_true {s : Sft} {t : Int} (h : 6 < cntT s t s.to_.length) : stackB s = true := by
  unfold cntT at h
  rw [List.take_length] at h
  unfold stackB
  rw [List.any_eq_true]
  obtain ⟨u, hu, he⟩ := List.countP_pos_iff.1 (Nat.lt_of_le_of_lt (Nat.zero_le 6) h)
  have e : u = t := by simpa using he
  subst e
  exact ⟨u, hu, by simpa using h⟩
theorem stack_false {s : Sft} (hs : SftOk s) (h : ∀ t : Int, 0 ≤ t → t ≤ 100 → ¬ 6 < cntT s t s.to_.length) : stackB s = false := by
  unfold stackB
  rw [List.any_eq_false]
  intro t ht
  obtain ⟨i, hi⟩ := List.mem_iff_getElem?.1 ht
  have hil := (List.getElem?_eq_some_iff.1 hi).1
  have h1 := hs.to_ i hil
  rw [List.getD_eq_getElem?_getD, hi, Option.getD_some] at h1
  have h2 := h t h1.1 h1.2.1
  unfold cntT at h2
  rw [List.take_length] at h2
  simpa using h2
set_option maxHeartbeats 8000000 in
theorem rplnd_any (A F : Option Addr) (c fc : Nat) (s : Sft) (hl : s.to_.length ≤ 4611686018427387904) (hf : s.first.length ≤ 4611686018427387904) (w : World) (h : SfAt A F s w) :
    Calls Try.prog 48 #[sftV A F c fc s] w fun e w' => LPost w (plndE s) e w' := by
  have hb0 := al_t w (sftB A F c fc s)
  have HX0 : Hid (SfBx w.heap.size A F c fc s (w.alloc (sftB A F c fc s)) ∧ Below w.heap.size w (w.alloc (sftB A F c fc s))) := ⟨SfBx.new c fc h, hb0⟩
  have c0 := HX0.out.1.c0
  have c1 := HX0.out.1.c1
  have HO := Lib.hid (rorder_any A F c fc s hl hf _ HX0.out.1.at_)
  obtain ⟨r, hr⟩ : ∃ r, r = plndE s := ⟨_, rfl⟩
  rw [← hr]
  clear h hb0
  by_cases hE : (ordE s).2 = 0
  case neg =>
    have HR : Hid (r = ([], (ordE s).2)) := by show _ = _; rw [hr, plndE_e hE]
    have d0 : ((ordE s).2 != 0) = true := by simpa using hE
    have HO2 := Lib.hid (show Calls _ _ _ _ fun e w' => ∃ a n k, e = .returned (.tuple #[.slice a n k, .int .i64 (ordE s).2]) ∧ Below (w.alloc (sftB A F c fc s)).heap.size (w.alloc (sftB A F c fc s)) w' from Calls.mono HO.out fun e w' ⟨a, k, he, _, hb⟩ => ⟨a, _, k, he, hb⟩)
    obtain ⟨x, hx⟩ : ∃ x, x = (ordE s).2 := ⟨_, rfl⟩
    rw [← hx] at HR d0 HO2
    clear hr hE hx HO
    go_enter Try.func48, Try.ntmps48
    go_wp2_with fail
    refine HO2.out.mono ?_
    rintro e w1 ⟨a, n, k, rfl, hb1⟩
    have HB := Lib.hid (HX0.out.2.trans (hb1.mono HX0.out.2.size))
    clear hb1
    go_wp2
    go_ret2
    exact LPost.none HR.out HB.out
  case pos =>
  have hs := sftE_ok (ordE_zero hE)
  have HS := Lib.hid hs
  have hn40 : s.to_.length ≤ 40 := hs.len
  have HMa : Hid (stackB s = true → r = ([], 4)) := fun h => hr.trans (plndE_many hE h)
  have HOk : Hid (stackB s = false → r = ((ordE s).1, 0)) := fun h => hr.trans (plndE_ok hE h)
  have HO2 := Lib.hid (show Calls _ _ _ _ fun e w' => ∃ a k, e = .returned (.tuple #[.slice a (ordE s).1.length k, .int .i64 0]) ∧ SlI w' w'.heap.size a (ordE s).1 ∧ Below (w.alloc (sftB A F c fc s)).heap.size (w.alloc (sftB A F c fc s)) w' from Calls.mono HO.out fun e w' ⟨a, k, he, hsl, hb⟩ => ⟨a, k, by rw [he, hE], hsl, hb⟩)
  obtain ⟨l, hlE⟩ : ∃ l, l = (ordE s).1 := ⟨_, rfl⟩
  rw [← hlE] at HO2 HOk
  obtain ⟨pb, hpb⟩ : ∃ pb, pb = w.heap.size := ⟨_, rfl⟩
  clear hr hE hs HO hlE
  go_enter Try.func48, Try.ntmps48
  go_upto_region 4 with ((go_at_call 10; refine HO2.out.mono ?_; rintro e w1 ⟨a, k, rfl, hsl, hb1⟩))
  refine abs_world (Q := fun W => Code.wp _ _ _ _ W) (F := fun W => SfBx w.heap.size A F c fc s W ∧ SlI W W.heap.size a l ∧ Below w.heap.size w W) _ ⟨HX0.out.1.to hb1, hsl, HX0.out.2.trans (hb1.mono HX0.out.2.size)⟩ ?_
  clear HX0 c0 c1 hb1 hsl HO2
  rintro W1 ⟨hx, hsl, hb1⟩
  rw [← hpb] at hx ⊢
  have HX := Lib.hid (And.intro hx (And.intro hsl hb1))
  have c0 := hx.c0
  clear hx hsl hb1 hpb
  go_wp2
  go_loopw [6] (fun s6 wr => ∃ t : Int, 0 ≤ t ∧ t ≤ 101 ∧ s6 = .int .i64 t ∧ Hid (W1 = wr) ∧ Hid (∀ u : Int, 0 ≤ u → u < t → ¬ 6 < cntT s u s.to_.length)) (fun s6 _ => (101 - intOf s6).toNat)
  case atStart => exact ⟨0, by omega, by omega, rfl, rfl, fun u h1 h2 => absurd h2 (by omega)⟩
  case round =>
    obtain ⟨t, ht0, ht1, rfl, HW, HT⟩ := hrel
    obtain rfl := HW.out
    clear HW
    by_cases ht2 : t ≤ 100
    case neg =>
      have dd : decide (t ≤ 100) = false := decide_eq_false ht2
      have HR2 := Lib.hid (HOk.out (stack_false HS.out fun u h1 h2 => HT.out u h1 (by omega)))
      clear HT ht2
      go_wp2
      go_ret2
      exact LPost.some_ HR2.out HX.out.2.1 HX.out.2.2
    case pos =>
      have dd : decide (t ≤ 100) = true := decide_eq_true ht2
      go_wp2
      go_loopw [7, 8] (fun s7 s8 wq => ∃ i : Nat, i ≤ s.to_.length ∧ s8 = .int .i64 (i : Int) ∧ s7 = .int .i64 ((cntT s t i : Nat) : Int) ∧ Hid (W1 = wq)) (fun _ s8 _ => s.to_.length - (intOf s8).toNat)
      case atStart => exact ⟨0, Nat.zero_le _, rfl, rfl, rfl⟩
      case round =>
        obtain ⟨i, hi, rfl, rfl, HW⟩ := hrel
        obtain rfl := HW.out
        clear HW
        by_cases hlt : i < s.to_.length
        case pos =>
          obtain ⟨b, off, hA, hcl⟩ := HX.out.1.to_at hlt
          have HNx := Lib.hid (cntT_next (t := t) hlt)
          have hle := cntT_le s t i
          obtain ⟨z, hz⟩ : ∃ z, z = s.to_.getD i 0 := ⟨_, rfl⟩
          rw [← hz] at hcl HNx
          obtain ⟨k, hk⟩ : ∃ k, k = cntT s t i := ⟨_, rfl⟩
          rw [← hk] at HNx hle ⊢
          subst hA
          clear hz hk
          by_cases e : z = t
          · have d1 : (z == t) = true := by simpa using e
            have HN2 : Hid (cntT s t (i + 1) = k + 1) := by show _ = _; rw [HNx.out, if_pos e]
            clear e HNx
            go_wp2
            go_roundw
            case rel => exact ⟨i + 1, by omega, by go_num, by rw [HN2.out]; go_num, by first | rfl | trivial⟩
            case measure => simp [intOf]; omega
          · have d1 : (z == t) = false := by simpa using e
            have HN2 : Hid (cntT s t (i + 1) = k) := by show _ = _; rw [HNx.out, if_neg e]; rfl
            clear e HNx
            go_wp2
            go_roundw
            case rel => exact ⟨i + 1, by omega, by go_num, by rw [HN2.out], by first | rfl | trivial⟩
            case measure => simp [intOf]; omega
        case neg =>
          obtain rfl : i = s.to_.length := by omega
          obtain ⟨k, hk⟩ : ∃ k, k = cntT s t s.to_.length := ⟨_, rfl⟩
          have HKk : Hid (k = cntT s t s.to_.length) := hk
          rw [← hk]
          clear hk
          by_cases h6 : 6 < k
          · have d1 : decide (6 < k) = true := decide_eq_true h6
            have d2 : decide ((6 : Int) < (k : Int)) = true := decide_eq_true (by omega)
            have HR2 := Lib.hid (HMa.out (stack_true (t := t) (by rw [← HKk.out]; exact h6)))
            clear HT HKk h6
            go_wp2
            go_ret2
            exact LPost.none HR2.out HX.out.2.2
          · have d1 : decide (6 < k) = false := decide_eq_false h6
            have d2 : decide ((6 : Int) < (k : Int)) = false := decide_eq_false (by omega)
            have HT2 : Hid (∀ u : Int, 0 ≤ u → u < t + 1 → ¬ 6 < cntT s u s.to_.length) := fun u h1 h2 => by
              by_cases e : u = t
              · subst e; rw [← HKk.out]; exact h6
              · exact HT.out u h1 (by omega)
            clear HT HKk h6
            go_wp2
            go_roundw
            case rel => exact ⟨t + 1, by omega, by omega, by go_num, by first | rfl | trivial, HT2.out⟩
            case measure => simp [intOf]; omega
end Go.Proofs.Ytflpikickbellaa
