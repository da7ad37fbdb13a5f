/- The reference's layer 30: Great, in, Has, Held. The reference's layer 30: Held. -/
import Derived.Test.YthedmiilkeclaaaGreatKPa
import Derived.Test.YthedmiilkeclaaaGreatKPd
import Derived.Test.YthedmiilkeclaaaGreatKPe
namespace Go.Proofs.YthedmiilkeclaaaGreat
open Go.RowKit Go.Shelf
set_option maxRecDepth 100000

/-- The box of a state. -/
theorem bed_box (w : World) (s : BedS) (p : BedP) (w1 : World) (hb : Below (w.heap.size + 1) (w.alloc (.cells #[.int .i64 s.rack, .slice p.ah s.hooks.length p.ch, .slice p.af s.feeds.length p.cf, .slice p.am s.made.length p.cm] 48)) w1) :
    w1.cell? ⟨w.heap.size, 0, none⟩ = some (.int .i64 s.rack) ∧ w1.cell? ⟨w.heap.size, 1, none⟩ = some (.slice p.ah s.hooks.length p.ch) ∧ w1.cell? ⟨w.heap.size, 2, none⟩ = some (.slice p.af s.feeds.length p.cf) ∧ w1.cell? ⟨w.heap.size, 3, none⟩ = some (.slice p.am s.made.length p.cm) :=
  ⟨(bcell hb (by omega) _).trans (cell_new rfl rfl rfl), (bcell hb (by omega) _).trans (cell_new rfl rfl rfl), (bcell hb (by omega) _).trans (cell_new rfl rfl rfl), (bcell hb (by omega) _).trans (cell_new rfl rfl rfl)⟩
set_option maxHeartbeats 1000000 in
theorem rin_any (s : BedS) (p : BedP) (c : Int) (hn : s.feeds.length ≤ 10000) (w : World) (hs : BedAt w w.heap.size p s) :
    Calls Tryz.prog 124 #[s.val p, .int .i64 c] w fun e w' => e = .returned (.int .i64 (idxE (fun f : Fd => decide (f.car = c)) s.feeds)) ∧ Below w.heap.size w w' := by
  have HCS := Lib.hid (bed_box w s p)
  have HAl := Lib.hid ((Below.refl w.heap.size w).alloc (Nat.le_refl _) (.cells #[.int .i64 s.rack, .slice p.ah s.hooks.length p.ch, .slice p.af s.feeds.length p.cf, .slice p.am s.made.length p.cm] 48))
  unfold BedS.val
  go_enter Tryz.func124, Tryz.ntmps124
  go_wp2
  go_loopw [5] (fun s5 wr => ∃ k : Nat, k ≤ s.feeds.length ∧ s5 = .int .i64 k ∧ Hid (∀ j y, j < k → s.feeds[j]? = some y → decide (y.car = c) = false) ∧ Below (w.heap.size + 1) (w.alloc (.cells #[.int .i64 s.rack, .slice p.ah s.hooks.length p.ch, .slice p.af s.feeds.length p.cf, .slice p.am s.made.length p.cm] 48)) wr) (fun s5 _ => s.feeds.length - (intOf s5).toNat)
  case atStart => exact ⟨0, Nat.zero_le _, rfl, (fun j _ hj => absurd hj (Nat.not_lt_zero j)), Below.refl _ _⟩
  case round =>
    obtain ⟨k, hk, rfl, H, hbw⟩ := hrel
    have hbww : Below w.heap.size w wr := HAl.out.trans (hbw.mono (by omega))
    obtain ⟨c0, c1, c2, c3⟩ := HCS.out wr hbw
    by_cases hlt : k < s.feeds.length
    · obtain ⟨b, off, f, hA, hB, hr, q0, q1, q2⟩ := hs.feeds.at_ hlt
      have d0 := (bcell hbww hB _).trans q0
      rw [hA] at c2
      have HR := Lib.hid hr
      clear hs hr q0 q1 q2 hA
      by_cases he : f.car = c
      · have HF : Hid (idxE (fun f : Fd => decide (f.car = c)) s.feeds = k) := idxE_hit HR.out (decide_eq_true he) H.out
        have e1 : (f.car == c) = true := by simp [he]
        clear H he
        go_wp2
        go_ret
        exact ⟨ret_int HF.out.symm, hbww⟩
      · have HQ : Hid (∀ j y, j < k + 1 → s.feeds[j]? = some y → decide (y.car = c) = false) := fun j y hj hy => by
          by_cases e : j = k
          · subst e; rw [HR.out] at hy; injection hy with hy; subst hy; exact decide_eq_false he
          · exact H.out j y (by omega) hy
        have e1 : (f.car == c) = false := by simp [he]
        clear H he
        go_wp2
        go_roundw
        case rel => exact ⟨k + 1, by omega, by go_num, HQ, hbw⟩
        case measure => simp [intOf]; omega
    · have HF : Hid (idxE (fun f : Fd => decide (f.car = c)) s.feeds = -1) := idxE_none (fun j y hj => H.out j y (by omega))
      clear H hs
      go_wp2
      go_ret
      exact ⟨ret_int HF.out.symm, hbww⟩
set_option maxHeartbeats 1000000 in
theorem rhas_any (A : Option Addr) (cap : Nat) (l : List Int) (x : Int) (hn : l.length ≤ 1000000) (w : World) (hs : SlI w w.heap.size A l) :
    Calls Tryz.prog 113 #[.slice A l.length cap, .int .i64 x] w fun e w' => e = .returned (.bool (l.any fun y => decide (y = x))) ∧ w = w' := by
  go_enter Tryz.func113, Tryz.ntmps113
  go_wp2
  go_loopw [5] (fun s5 wr => ∃ k : Nat, k ≤ l.length ∧ s5 = .int .i64 k ∧ Hid (∀ y ∈ l.take k, decide (y = x) = false) ∧ w = wr) (fun s5 _ => l.length - (intOf s5).toNat)
  case atStart => exact ⟨0, Nat.zero_le _, rfl, (fun r hr => by simp at hr), rfl⟩
  case round =>
    obtain ⟨k, hk, rfl, H, rfl⟩ := hrel
    by_cases hlt : k < l.length
    · obtain ⟨b, off, y, rfl, hB, hr, hc⟩ := hs.at_ hlt
      have HR := Lib.hid hr
      clear hs hr
      by_cases he : y = x
      · have HF : Hid ((l.any fun y => decide (y = x)) = true) := List.any_eq_true.2 ⟨y, List.mem_of_getElem? HR.out, decide_eq_true he⟩
        have e1 : (y == x) = true := by simp [he]
        clear H he
        go_wp2
        go_ret
        exact ⟨ret_bool HF.out.symm, rfl⟩
      · have HQ : Hid (∀ z ∈ l.take (k + 1), decide (z = x) = false) := fun z hz => by
          obtain ⟨hk', e⟩ := List.getElem?_eq_some_iff.1 HR.out
          rw [List.take_succ_eq_append_getElem hk', e] at hz
          rcases List.mem_append.1 hz with h | h
          · exact H.out z h
          · rw [List.mem_singleton.1 h]; exact decide_eq_false he
        have e1 : (y == x) = false := by simp [he]
        clear H he
        go_wp2
        go_roundw
        case rel => exact ⟨k + 1, by omega, by go_num, HQ, by first | rfl | trivial⟩
        case measure => simp [intOf]; omega
    · have HF : Hid ((l.any fun y => decide (y = x)) = false) := by
        unfold Hid
        rw [List.any_eq_false]
        intro z hz
        have := H.out z (by rw [List.take_of_length_le (by omega)]; exact hz)
        simp [this]
      clear H hs
      go_wp2
      go_ret
      exact ⟨ret_bool HF.out.symm, rfl⟩
end Go.Proofs.YthedmiilkeclaaaGreat
namespace Go.Proofs.YthedmiilkeclaaaGreat
open Go.RowKit Go.Shelf
set_option maxRecDepth 100000

def hkAt (b n : Int) (h : Hk) : Bool := decide (h.bed = b ∧ h.at_ = n)
/-- The loops of a needle. -/
def heldAt (l : List Hk) (b n : Int) : List Int := match l.find? (hkAt b n) with | some h => h.loops | none => []
theorem heldAt_hit {l : List Hk} {b n : Int} {k : Nat} {h : Hk} (hr : l[k]? = some h) (hm : hkAt b n h = true) (hn : ∀ j y, j < k → l[j]? = some y → hkAt b n y = false) : heldAt l b n = h.loops := by
  have hf : l.find? (hkAt b n) = some h := by
    obtain ⟨hk, e⟩ := List.getElem?_eq_some_iff.1 hr
    rw [List.find?_eq_some_iff_getElem]
    refine ⟨hm, k, hk, e, fun j hj => ?_⟩
    have := hn j (l[j]'(by omega)) hj (List.getElem?_eq_getElem _)
    simp [this]
  unfold heldAt; rw [hf]
theorem heldAt_none {l : List Hk} {b n : Int} (hn : ∀ y ∈ l, hkAt b n y = false) : heldAt l b n = [] := by
  have hf : l.find? (hkAt b n) = none := List.find?_eq_none.2 fun x hx => by simp [hn x hx]
  unfold heldAt; rw [hf]
def intsOut (l : List Int) (w : World) (e : Ending) (w' : World) : Prop := ∃ A c, e = .returned (.slice A l.length c) ∧ SlI w' w'.heap.size A l ∧ Below w.heap.size w w'
set_option maxHeartbeats 4000000 in
theorem rheld_any (s : BedS) (p : BedP) (b n : Int) (hn : s.hooks.length ≤ 10000) (hl : ∀ h ∈ s.hooks, h.loops.length ≤ 1000000) (w : World) (hs : BedAt w w.heap.size p s) :
    Calls Tryz.prog 116 #[s.val p, .int .u8 b, .int .i64 n] w fun e w' => intsOut (heldAt s.hooks b n) w e w' := by
  have HCS := Lib.hid (bed_box w s p)
  have HAl := Lib.hid ((Below.refl w.heap.size w).alloc (Nat.le_refl _) (.cells #[.int .i64 s.rack, .slice p.ah s.hooks.length p.ch, .slice p.af s.feeds.length p.cf, .slice p.am s.made.length p.cm] 48))
  obtain ⟨i0, hi, hz0, hz1, hz2⟩ := info_parts info_int'
  unfold BedS.val
  go_enter Tryz.func116, Tryz.ntmps116
  go_wp2
  go_loopw [7] (fun s7 wr => ∃ k : Nat, k ≤ s.hooks.length ∧ s7 = .int .i64 k ∧ Hid (∀ j y, j < k → s.hooks[j]? = some y → hkAt b n y = false) ∧ Below (w.heap.size + 1) (w.alloc (.cells #[.int .i64 s.rack, .slice p.ah s.hooks.length p.ch, .slice p.af s.feeds.length p.cf, .slice p.am s.made.length p.cm] 48)) wr) (fun s7 _ => s.hooks.length - (intOf s7).toNat)
  case atStart => exact ⟨0, Nat.zero_le _, rfl, (fun j _ hj => absurd hj (Nat.not_lt_zero j)), Below.refl _ _⟩
  case round =>
    obtain ⟨k, hk, rfl, H, hbw⟩ := hrel
    have hbww : Below w.heap.size w wr := HAl.out.trans (hbw.mono (by omega))
    obtain ⟨c0, c1, c2, c3⟩ := HCS.out wr hbw
    by_cases hlt : k < s.hooks.length
    · obtain ⟨bb, off, h, A', C', hA, hB, hr, q0, q1, q2, hC, hsi⟩ := hs.hooks.at_ hlt
      have d0 := (bcell hbww hB _).trans q0
      have d1 := (bcell hbww hB _).trans q1
      have d2 := (bcell hbww hB _).trans q2
      rw [hA] at c1
      have HR := Lib.hid hr
      have hll := hl h (List.mem_of_getElem? hr)
      have HSi := Lib.hid (hsi.below hbww)
      have HBw := Lib.hid hbww
      have hQ : hkAt b n h = false → ∀ j y, j < k + 1 → s.hooks[j]? = some y → hkAt b n y = false := fun hh j y hj hy => by
        by_cases e : j = k
        · subst e; rw [HR.out] at hy; injection hy with hy; subst hy; exact hh
        · exact H.out j y (by omega) hy
      have HQ := Lib.hid hQ
      clear hs hl hr q0 q1 q2 hA hsi hQ
      by_cases he : h.bed = b
      case neg =>
        have HQ2 := Lib.hid (HQ.out (decide_eq_false (fun hh => he hh.1)))
        have e1 : (h.bed == b) = false := by simp [he]
        clear H he HQ
        go_wp2
        go_roundw
        case rel => exact ⟨k + 1, by omega, by go_num, HQ2, hbw⟩
        case measure => simp [intOf]; omega
      case pos =>
        have e1 : (h.bed == b) = true := by simp [he]
        by_cases he2 : h.at_ = n
        case neg =>
          have HQ2 := Lib.hid (HQ.out (decide_eq_false (fun hh => he2 hh.2)))
          have e2 : (h.at_ == n) = false := by simp [he2]
          clear H he he2 HQ
          go_wp2
          go_roundw
          case rel => exact ⟨k + 1, by omega, by go_num, HQ2, hbw⟩
          case measure => simp [intOf]; omega
        case pos =>
          have HF : Hid (heldAt s.hooks b n = h.loops) := heldAt_hit HR.out (decide_eq_true ⟨he, he2⟩) H.out
          have e2 : (h.at_ == n) = true := by simp [he2]
          clear H he he2 HQ HR
          generalize h.loops = L at HF d2 hll HSi hC
          cases A' with
          | none =>
            have hL : L = [] := by
              cases L with
              | nil => rfl
              | cons a t =>
                obtain ⟨_, _, e, _⟩ := HSi.out (by simp)
                cases e
            subst hL
            have HO : Hid (∀ A c w', Below w.heap.size w w' → intsOut (heldAt s.hooks b n) w (.returned (.slice A 0 c)) w') := fun A c w' hb => by
              rw [HF.out]; exact ⟨A, c, rfl, SlI.nil, hb⟩
            clear HF HSi
            rw [List.length_nil] at d2
            have k1 := fun o => cell_al c1 o
            have k2 := fun o => cell_al d2 o
            go_wp2
            go_ret
            exact HO.out _ _ _ (HBw.out.alloc HBw.out.size _)
          | some ad =>
            have hnew : ∀ j u, (intV L)[j]? = some u → (wr.alloc (.cells #[] 3)).cell? (ad.add j) = some u := fun j u hu => by
              have hne : L ≠ [] := fun e => by subst e; simp [intV] at hu
              obtain ⟨b2, off2, e, hB2, hc⟩ := HSi.out hne
              cases e
              unfold intV at hu
              rw [List.getElem?_map] at hu
              cases hz : L[j]? with
              | none => rw [hz] at hu; cases hu
              | some z =>
                rw [hz] at hu
                simp only [Option.map_some, Option.some.injEq] at hu
                rw [show (⟨b2, off2, none⟩ : Addr).add j = ⟨b2, off2 + j, none⟩ by unfold Addr.add; split <;> simp_all, ← hu]
                exact (bcell ((Below.refl w.heap.size wr).alloc HBw.out.size _) hB2 _).trans (hc j z hz)
            have HN := Lib.hid hnew
            have HLn : Hid ((intV L).length = L.length) := by simp [Hid, intV]
            have H1 : Hid (∀ u ∈ intV L, u.oneCell' = true) := fun u hu => by
              obtain ⟨x, _, rfl⟩ := List.mem_map.1 hu
              rfl
            have k1 := fun o => cell_al c1 o
            have k2 := fun o => cell_al d2 o
            clear hnew HSi
            go_wp2_with (at_builtin; refine wpList_append_own _ rfl _ _ 22 rfl wr.heap.size 3 i0 (.int .i64 0) 1 8 Tryz.underlying22 hi hz0 hz1 hz2 rfl (by decide) _ 0 [] rfl (World.ownsRow_lit wr #[] 0 (Nat.le_refl _) (by decide) rfl) ad L.length C' (intV L) rfl (by rw [HLn.out, Nat.mul_one]) HN.out H1.out (by unfold maxLen; omega) (by omega) (by simp) ?_; intro v' w1 hown' hgrow _; have HOw := Lib.hid hown'; have HG := Lib.hid hgrow; clear hown' hgrow)
            have ho := HOw.out
            rw [Nat.zero_add, List.nil_append] at ho
            obtain ⟨a2, c2', rfl, _⟩ := own_slice ho
            have hT : SlI w1 w1.heap.size a2 L := ownI.slI (B := wr.heap.size) (n := L.length) (c := c2') ho
            have hB : Below w.heap.size w w1 := HBw.out.trans ((((Below.refl _ wr).alloc (Nat.le_refl _) _).grown HG.out (by simp) (fun k e => by cases e; exact Nat.le_refl _)).mono HBw.out.size)
            have HO := Lib.hid (show intsOut (heldAt s.hooks b n) w (.returned (.slice a2 L.length c2')) w1 by rw [HF.out]; exact ⟨a2, c2', rfl, hT, hB⟩)
            clear ho hT hB HOw HG HF
            go_ret
            exact HO.out
    · have HF : Hid (heldAt s.hooks b n = []) := heldAt_none fun y hy => by
        obtain ⟨j, hj, e⟩ := List.mem_iff_getElem.1 hy
        exact H.out j y (by omega) (by rw [List.getElem?_eq_getElem hj, e])
      have HO : Hid (intsOut (heldAt s.hooks b n) w (.returned (.slice none 0 0)) wr) := by
        unfold Hid; rw [HF.out]; exact ⟨none, 0, rfl, SlI.nil, hbww⟩
      clear H hs hl HF
      go_wp2
      go_ret
      exact HO.out
end Go.Proofs.YthedmiilkeclaaaGreat
