/- Layer 28, the program: depth. -/
import Derived.Test.YtbibndpkcilblaaKSo2
namespace Go.Proofs.Ytbibndpkcilblaa
open Go.RowKit Go.Shelf Go.Sort Go.Maps
set_option maxRecDepth 100000

/-- The lowest row, while the map is gone through. -/
structure LowI (lp : List Lp) (i : Nat) (ss : List Int) (low : Int) : Prop where
  a : low = rowN lp i ∨ ∃ x ∈ ss, low = rowN lp x.toNat
  b : low ≤ rowN lp i
  c : ∀ x ∈ ss, low ≤ rowN lp x.toNat
theorem LowI.start (lp : List Lp) (i : Nat) : LowI lp i [] (rowN lp i) := ⟨Or.inl rfl, Int.le_refl _, fun x hx => by cases hx⟩
theorem LowI.step {lp : List Lp} {i : Nat} {ss : List Int} {low : Int} (h : LowI lp i ss low) (x : Int) : LowI lp i (ss ++ [x]) (min low (rowN lp x.toNat)) := by
  refine ⟨?_, by have := h.b; omega, fun y hy => ?_⟩
  · by_cases hc : low ≤ rowN lp x.toNat
    · rw [Int.min_eq_left hc]
      rcases h.a with h1 | ⟨y, hy, h1⟩
      · exact Or.inl h1
      · exact Or.inr ⟨y, List.mem_append_left _ hy, h1⟩
    · rw [Int.min_eq_right (by omega)]
      exact Or.inr ⟨x, List.mem_append_right _ List.mem_cons_self, rfl⟩
  · rcases List.mem_append.1 hy with hy | hy
    · have := h.c y hy; omega
    · rw [List.mem_singleton.1 hy]; omega
theorem run_mark {lp : List Lp} {drop : List Int} {x : Int} (h : (gO (runL lp drop) x).isSome = true) : ∃ k : Nat, x = (k : Int) ∧ k < lp.length ∧ runF lp drop k = true := by
  unfold gO at h
  by_cases hc : 0 ≤ x ∧ runL lp drop x.toNat = true
  · obtain ⟨h1, h2⟩ := hc
    by_cases hl : lp.length ≤ x.toNat
    · rw [runL_hi lp drop _ hl] at h2; cases h2
    · exact ⟨x.toNat, by omega, by omega, by rw [← runL_lo (by omega)]; exact h2⟩
  · rw [if_neg hc] at h; cases h
theorem mark_run {lp : List Lp} {drop : List Int} {k : Nat} (hk : k < lp.length) (h : runF lp drop k = true) : (gO (runL lp drop) (k : Int)).isSome = true := by
  unfold gO
  rw [if_pos ⟨by omega, by rw [Int.toNat_natCast, runL_lo hk]; exact h⟩]; rfl
/-- The depth of a live loop, counted. -/
def depZ (lp : List Lp) (i : Nat) : Int := (deepI lp (runF lp [(i : Int)]) lp.length).1
theorem LowI.done {lp : List Lp} {bound : List Int} {K lv : Nat} (hG : GrN lp bound K lv) {i : Nat} (hi : i < lp.length) (hlv : lv ≤ i) {ss : List Int} {low : Int} (h : LowI lp i ss low) (hs : ∀ x, x ∈ ss ↔ (gO (runL lp [(i : Int)]) x).isSome = true) :
    rowN lp i - low + 1 = depZ lp i := by
  have hfi : runF lp [(i : Int)] i = true := (runF_iff hG.fwd _ hi).2 (Or.inr List.mem_cons_self)
  have hl : LowR lp (runF lp [(i : Int)]) K low := by
    refine ⟨fun j hj hr => ?_, ?_⟩
    · have := h.c (j : Int) ((hs _).2 (mark_run hj hr))
      rwa [Int.toNat_natCast] at this
    · rcases h.a with h1 | ⟨x, hx, h1⟩
      · exact ⟨i, hi, hfi, h1.symm⟩
      · obtain ⟨k, rfl, hk, hr⟩ := run_mark ((hs x).1 hx)
        rw [Int.toNat_natCast] at h1
        exact ⟨k, hk, hr, h1.symm⟩
  unfold depZ
  rw [deep_is hG hi hlv hl, ((hG.row i hi).2.2).1 hlv]
theorem one_drop {lp : List Lp} {lv i : Nat} (hi : i < lp.length) (hlv : lv ≤ i) : DropOk lp lv [(i : Int)] := ⟨fun d hd => by rw [List.mem_singleton.1 hd]; omega, List.pairwise_singleton _ _⟩
set_option maxHeartbeats 8000000 in
theorem pdepth_any (t : Pw) (K : Nat) (hG : GrN t.lp t.bound K t.next) (hM : t.lp.length ≤ 2600) (hK : K ≤ 12) (a k b : Option Addr) (c kc bc : Nat) (i : Nat) (hi : i < t.lp.length) (hlv : t.next ≤ i) (w : World) (hp : PcAt w w.heap.size a k b t.lp (kidsA t.lp) t.bound) :
    Calls Try.prog 49 #[.agg #[.slice a t.lp.length c, .slice k t.lp.length kc, .slice b t.bound.length bc, .int .i64 (t.next : Int)], .int .i64 (i : Int)] w fun e w' => RetE (depZ t.lp i) w e w' := by
  have hal := al_t w (.cells #[.slice a t.lp.length c, .slice k t.lp.length kc, .slice b t.bound.length bc, .int .i64 (t.next : Int)] 63)
  obtain ⟨g1, -⟩ := bxT_at (bxT_new w 63 [.slice a t.lp.length c, .slice k t.lp.length kc, .slice b t.bound.length bc, .int .i64 (t.next : Int)])
  obtain ⟨qb, hqb⟩ : ∃ qb, qb = w.heap.size := ⟨_, rfl⟩
  have HB : Hid (LdB qb a k b c kc bc t w (w.alloc (.cells #[.slice a t.lp.length c, .slice k t.lp.length kc, .slice b t.bound.length bc, .int .i64 (t.next : Int)] 63))) := by
    rw [hqb]
    exact ⟨hp.to hal, g1 0 _ rfl, g1 1 _ rfl, g1 2 _ rfl, g1 3 _ rfl, hal⟩
  have HGn := Lib.hid hG
  have HI := Lib.hid hi
  have HLv := Lib.hid hlv
  have HMl := Lib.hid hM
  have HQb := Lib.hid hqb
  clear hp hal g1 hG hi hlv hM hqb
  go_enter Try.func49, Try.ntmps49
  go_upto_region 1 with fail
  refine abs_world (Q := fun W => Code.wp _ _ _ _ W) (F := fun W => LdB qb a k b c kc bc t w W) _ HB.out ?_
  rw [← HQb.out]
  clear HB HQb
  rintro W h
  obtain ⟨lb, lo, l, A', C', ha, hlB, hl, q0, -⟩ := h.pc.lp.at_ HI.out
  have hrow : rowN t.lp i = l.row := by unfold rowN; rw [List.getD_eq_getElem?_getD, hl]; rfl
  subst ha
  have y0 := h.c0
  have y1 := h.c1
  have y2 := h.c2
  have y3 := h.c3
  have hrw := HGn.out.row i HI.out
  obtain ⟨M, hMe⟩ : ∃ M, M = t.lp.length := ⟨_, rfl⟩
  have HMe := Lib.hid hMe
  obtain ⟨r0, hr0⟩ : ∃ r0, r0 = rowN t.lp i := ⟨_, rfl⟩
  have HR0 := Lib.hid hr0
  rw [← hrow, ← hr0] at q0
  rw [← hr0] at hrw
  have hr1 : 0 ≤ r0 := hrw.1
  have hr2 : r0 ≤ 12 := by have := hrw.2.1; omega
  have hM1 : M ≤ 2600 := by have := HMl.out; omega
  have hiM : (i : Int) < (M : Int) := by have := HI.out; omega
  have hi0 : (0 : Int) ≤ (i : Int) := by omega
  have hb1 := al_t W (.cells #[.int .i64 (i : Int)] 3)
  have hru := prun_any t.lp t.bound K t.next HGn.out HMl.out hK (some ⟨lb, lo, none⟩) k b c kc t.bound.length bc (t.next : Int) t.bound (some ⟨W.heap.size, 0, none⟩) 1 [(i : Int)] (one_drop HI.out HLv.out) (W.alloc (.cells #[.int .i64 (i : Int)] 3)) (h.pc.to hb1) (lit_sl W [(i : Int)] _ rfl)
  have hl1 : [(i : Int)].length = 1 := rfl
  rw [hl1, ← hMe] at hru
  have HC := Lib.hid hru
  have HL := Lib.hid h
  rw [← hMe] at y0 y1 ⊢
  clear hru h hl hrow hr0 hrw hMe hb1 hl1 hlB
  go_wp2_with fail
  refine HC.out.mono ?_
  rintro e w5 ⟨mb, nn, rfl, hm, hlo, hb5⟩
  have h5 := HL.out.to ((al_t W (.cells #[.int .i64 (i : Int)] 3)).trans (hb5.mono (al_t W (.cells #[.int .i64 (i : Int)] 3)).size))
  have HL5 := Lib.hid h5
  obtain ⟨D, hown, hmd, -, hmem, -, -⟩ := hm.keys
  have HHas := Lib.hid hmd.has
  have HMem := Lib.hid hmem
  have HQ : Hid (∀ W', LdB qb (some ⟨lb, lo, none⟩) k b c kc bc t w W' → ∀ j, j < t.lp.length → W'.cell? ⟨lb, lo + j * 4, none⟩ = some (.int .i64 (rowN t.lp j))) := fun W' h j hj => by
    obtain ⟨b2, o2, l2, A2, C2, e2, -, hl2, q2, -⟩ := h.pc.lp.at_ hj
    simp only [Option.some.injEq, Addr.mk.injEq] at e2
    obtain ⟨rfl, rfl, -⟩ := e2
    rw [q2]
    unfold rowN
    rw [List.getD_eq_getElem?_getD, hl2]; rfl
  clear hm hlo hb5 h5 hmd hmem y0 y1 y2 y3 q0 HL HC
  go_wp2_with (first
    | (at_range; refine wpList_range_own _ rfl _ 71 rfl 3 4 (int_keyed Try.underlying3) Try.underlying71 _ mb nn _ rfl hown ?_; intro w0 hrg0 hg0 hs0)
    | fail)
  go_frame
  have HRg0 := Lib.hid hrg0
  have HX0 : Hid (Below w5.heap.size w5 w0) := Below.of_grown hg0 (Nat.le_refl _) (fun k e => by cases e)
  have HTo : Hid (∀ W', Below w5.heap.size w5 W' → LdB qb (some ⟨lb, lo, none⟩) k b c kc bc t w W') := fun W' hb => HL5.out.to hb
  have HOwn := Lib.hid hown
  clear hrg0 hg0 hs0 HL5 hown
  go_loopw [5] (fun s5 wr => ∃ (left : Lit → Bool) (cnt : Nat) (ss : List Int) (low : Int), s5 = .int .i64 low ∧ 0 ≤ low ∧ low ≤ 12 ∧ Hid (wr.ranges Try.prog 3 rawR mb w5.heap.size nn D left cnt) ∧ Hid (CollectedI D left ss) ∧ Hid (LowI t.lp i ss low) ∧ Hid (Below w5.heap.size w5 wr)) (fun _ wr => wr.rangeLeft mb w5.heap.size)
  case atStart => exact ⟨_, _, [], r0, rfl, hr1, hr2, HRg0.out, CollectedI.start D, by have := LowI.start t.lp i; rw [← HR0.out] at this; exact this, HX0.out⟩
  case round =>
    obtain ⟨left, cnt, ss, low, rfl, hlo0, hlo1, HRg, HCo, HLo, HX⟩ := hrel
    clear HRg0 HX0
    go_wp2_with (first
      | (at_next; refine wpList_next_ranges _ rfl _ rfl 3 (int_keyed Try.underlying3) rawR encZ id (fun key kl hk => by obtain ⟨x, hx, _⟩ := Maps.keyOf_i64 Try.underlying3 hk; exact ⟨x, hx⟩) (fun v _ _ => ⟨v, rfl⟩) mb w5.heap.size nn _ _ _ rfl HRg.out ?_ ?_)
      | fail)
    · intro hc0 hl0
      have hz := (HLo.out).done HGn.out HI.out HLv.out (fun x => by
        rw [HCo.out.2 x, ← HHas.out x]
        exact ⟨fun h => h.1, fun h => ⟨h, hl0 _⟩⟩)
      rw [← HR0.out] at hz
      have HZ := Lib.hid hz
      have q0 := HQ.out wr (HTo.out wr HX.out) i HI.out
      rw [← HR0.out] at q0
      have y0 := (HTo.out wr HX.out).c0
      rw [← HMe.out] at y0
      clear hc0 hl0 hz HRg HCo HLo
      go_wp2
      go_ret
      exact ⟨by rw [← HZ.out]; rfl, (HTo.out wr HX.out).bel⟩
    · intro x c kl yd yp w2 cnt2 hkey hlk hv hat hrg2 hlt hg2 hs2 hen
      obtain ⟨x', ex, rfl, _⟩ := Maps.keyOf_i64 Try.underlying3 hkey
      obtain rfl : x = x' := encZ_inj ex
      have HC2 := Lib.hid (HCo.out.step hlk hat)
      have hhx : has D (.int .i64 x) = true := ((HC2.out.2 x).1 (List.mem_append_right _ List.mem_cons_self)).1
      obtain ⟨j, rfl, hj, -⟩ := run_mark (by rw [← HHas.out x]; exact hhx)
      have HX2 : Hid (Below w5.heap.size w5 w2) := HX.out.trans (Below.of_grown hg2 HX.out.size (fun k e => by cases e; exact Nat.le_refl _))
      have q0 := HQ.out w2 (HTo.out w2 HX2.out) j hj
      have y0 := (HTo.out w2 HX2.out).c0
      rw [← HMe.out] at y0
      have HL2 := Lib.hid (HLo.out.step (j : Int))
      rw [Int.toNat_natCast] at HL2
      have hrw := HGn.out.row j hj
      have hjM : (j : Int) < (M : Int) := by have := HMe.out; omega
      have hj0 : (0 : Int) ≤ (j : Int) := by omega
      obtain ⟨r, hr⟩ : ∃ r, r = rowN t.lp j := ⟨_, rfl⟩
      rw [← hr] at q0 HL2 hrw
      have hrr1 : 0 ≤ r := hrw.1
      have hrr2 : r ≤ 12 := by have := hrw.2.1; omega
      have HRg2 := Lib.hid hrg2
      have HLe : Hid (wr.rangeLeft mb w5.heap.size = cnt ∧ cnt2 < cnt) := ⟨HRg.out.left_eq, hlt⟩
      clear hs2 hrg2 hlk hat hg2 hlt HRg HCo HLo hkey hv ex hhx hj hr hrw HX
      go_wp2
      go_roundw
      case rel => exact ⟨_, cnt2, _, min low r, rfl, by omega, by omega, HRg2.out, HC2.out, HL2.out, HX2.out⟩
      case measure => rw [HRg2.out.left_eq, HLe.out.1]; exact HLe.out.2
end Go.Proofs.Ytbibndpkcilblaa
