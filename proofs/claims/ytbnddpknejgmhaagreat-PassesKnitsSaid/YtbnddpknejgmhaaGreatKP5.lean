/- Layer 30: Check of a state, walked. -/
import Derived.Test.YtbnddpknejgmhaaGreatKP3
import Derived.Test.YtbnddpknejgmhaaGreatKP4
namespace Go.Proofs.YtbnddpknejgmhaaGreat
open Go.RowKit Go.Shelf Go.Sort
set_option maxRecDepth 100000

theorem all_snoc {α : Type} {f : α → Bool} {l : List α} {k : Nat} {r : α} (hr : l[k]? = some r) (h : ∀ x ∈ l.take k, f x = true) (hf : f r = true) : ∀ x ∈ l.take (k + 1), f x = true := fun x hx => by
  obtain ⟨hk', e⟩ := List.getElem?_eq_some_iff.1 hr
  rw [List.take_succ_eq_append_getElem hk', e] at hx
  rcases List.mem_append.1 hx with h' | h'
  · exact h x h'
  · rw [List.mem_singleton.1 h']; exact hf
theorem bed_hook {s : BedS} {h : Hk} (hm : h ∈ s.hooks) (hh : hookOk h = false) : bedE s = 8 := by
  have : s.hooks.all hookOk = false := List.all_eq_false.2 ⟨h, hm, by simp [hh]⟩
  unfold bedE bedOk; rw [this]; simp
theorem bed_feed {s : BedS} {h : Fd} (hm : h ∈ s.feeds) (hh : feedOk h = false) : bedE s = 8 := by
  have : s.feeds.all feedOk = false := List.all_eq_false.2 ⟨h, hm, by simp [hh]⟩
  unfold bedE bedOk; rw [this]; simp
theorem madeAll_false : ∀ {l : List Mk} {i k : Nat} {m : Mk}, l[k]? = some m → madeOk (i + k) m = false → madeAll i l = false
  | x :: l, i, 0, m, h, hm => by
    simp at h; subst h
    simp only [madeAll]; rw [show madeOk i x = false from hm]; rfl
  | x :: l, i, k + 1, m, h, hm => by
    simp only [madeAll]
    rw [madeAll_false (l := l) (i := i + 1) (k := k) (by simpa using h) (by rw [show i + 1 + k = i + (k + 1) by omega]; exact hm), Bool.and_false]
theorem madeAll_true : ∀ {l : List Mk} {i : Nat}, (∀ k m, l[k]? = some m → madeOk (i + k) m = true) → madeAll i l = true
  | [], _, _ => rfl
  | x :: l, i, h => by
    simp only [madeAll]
    rw [show madeOk i x = true from h 0 x rfl, madeAll_true (l := l) (i := i + 1) (fun k m hk => by
      rw [show i + 1 + k = i + (k + 1) by omega]; exact h (k + 1) m (by simpa using hk))]; rfl
theorem bed_made {s : BedS} {k : Nat} {m : Mk} (hm : s.made[k]? = some m) (hh : madeOk k m = false) : bedE s = 8 := by
  have := madeAll_false (i := 0) hm (by rw [Nat.zero_add]; exact hh)
  unfold bedE bedOk; rw [this]; simp
theorem and_odd {x : Int} (h : -217 ≤ x ∧ x ≤ 217) : (bits .and .i64 x 1 == 1) = decide (x % 2 = 1) := by
  have hall : (List.range 435).all (fun i : Nat => decide ((bits .and .i64 ((i : Int) - 217) 1 == 1) = decide (((i : Int) - 217) % 2 = 1))) = true := by decide +kernel
  have := of_decide_eq_true (List.all_eq_true.1 hall (x + 217).toNat (List.mem_range.2 (by omega)))
  rw [show (((x + 217).toNat : Nat) : Int) - 217 = x by omega] at this
  exact this
def heldKB (l : List Hk) : List Int := l.flatMap (·.loops)
theorem heldK_snoc {l : List Hk} {k : Nat} {h : Hk} (hr : l[k]? = some h) : heldKB (l.take (k + 1)) = heldKB (l.take k) ++ h.loops := by
  obtain ⟨hk', e⟩ := List.getElem?_eq_some_iff.1 hr
  rw [List.take_succ_eq_append_getElem hk', e]; simp [heldKB]
theorem intV_app (a b : List Int) : intV (a ++ b) = intV a ++ intV b := by simp [intV]
theorem intV_lenB (a : List Int) : (intV a).length = a.length := by simp [intV]
theorem intV_one (a : List Int) : ∀ u ∈ intV a, u.oneCell' = true := by
  intro u hu
  obtain ⟨x, _, rfl⟩ := List.mem_map.1 hu
  rfl
theorem slI_news {W : World} {B b off : Nat} {l : List Int} (h : SlI W B (some ⟨b, off, none⟩) l) : ∀ j u, (intV l)[j]? = some u → W.cell? ((⟨b, off, none⟩ : Addr).add j) = some u := fun j u hu => by
  unfold intV at hu
  rw [List.getElem?_map] at hu
  cases hz : l[j]? with
  | none => rw [hz] at hu; cases hu
  | some z =>
    rw [hz] at hu
    simp only [Option.map_some, Option.some.injEq] at hu
    obtain ⟨b', off', e, _, hc⟩ := h (fun e => by subst e; simp at hz)
    cases e
    rw [show (⟨b, off, none⟩ : Addr).add j = ⟨b, off + j, none⟩ by unfold Addr.add; split <;> simp_all, hc j z hz, hu]
def RetB8 (s : BedS) (w : World) (e : Ending) (w' : World) : Prop := e = .returned (.int .i64 (bedE s)) ∧ Below w.heap.size w w'
theorem RetB8.mk' {s : BedS} {x : Int} {w w' : World} (h : bedE s = x) (hb : Below w.heap.size w w') : RetB8 s w (.returned (.int .i64 x)) w' := ⟨by rw [h], hb⟩
set_option maxHeartbeats 16000000 in
theorem bcheck_any (s : BedS) (p : BedP) (hwf : s.wf) (hn : s.hooks.length ≤ 10000 ∧ s.feeds.length ≤ 10000 ∧ s.made.length ≤ 10000) (w : World) (hs : BedAt w w.heap.size p s) :
    Calls Tryz.prog 28 #[s.val p] w fun e w' => RetB8 s w e w' := by
  have hal : Below w.heap.size w (w.alloc (.cells #[.int .i64 s.rack, .slice p.ah s.hooks.length p.ch, .slice p.af s.feeds.length p.cf, .slice p.am s.made.length p.cm] 39)) := (Below.refl _ w).alloc (Nat.le_refl _) _
  have HAl := Lib.hid hal
  have hcs : ∀ w1 : World, Below (w.heap.size + 1) (w.alloc (.cells #[.int .i64 s.rack, .slice p.ah s.hooks.length p.ch, .slice p.af s.feeds.length p.cf, .slice p.am s.made.length p.cm] 39)) w1 →
      w1.cell? ⟨w.heap.size, 0, none⟩ = some (.int .i64 s.rack) ∧ w1.cell? ⟨w.heap.size, 1, none⟩ = some (.slice p.ah s.hooks.length p.ch) ∧ w1.cell? ⟨w.heap.size, 2, none⟩ = some (.slice p.af s.feeds.length p.cf) ∧ w1.cell? ⟨w.heap.size, 3, none⟩ = some (.slice p.am s.made.length p.cm) := fun w1 hb =>
    ⟨(bcell hb (by omega) _).trans (cell_new rfl rfl rfl), (bcell hb (by omega) _).trans (cell_new rfl rfl rfl), (bcell hb (by omega) _).trans (cell_new rfl rfl rfl), (bcell hb (by omega) _).trans (cell_new rfl rfl rfl)⟩
  have HCS := Lib.hid hcs
  have HS := Lib.hid hs
  have HW := Lib.hid hwf
  obtain ⟨hnh, hnf, hnm⟩ := hn
  unfold BedS.val
  clear hal hcs hs hwf
  by_cases hr1 : s.rack < -8
  · have HF : Hid (bedE s = 8) := by unfold Hid bedE bedOk; rw [decide_eq_false (by omega)]; simp
    go_enter Tryz.func28, Tryz.ntmps28
    go_wp2
    go_ret
    exact RetB8.mk' HF.out HAl.out
  by_cases hr2 : 8 < s.rack
  · have HF : Hid (bedE s = 8) := by unfold Hid bedE bedOk; rw [decide_eq_false (by omega)]; simp
    go_enter Tryz.func28, Tryz.ntmps28
    go_wp2
    go_ret
    exact RetB8.mk' HF.out HAl.out
  by_cases hr3 : 4000 < s.made.length
  · have HF : Hid (bedE s = 8) := by unfold Hid bedE bedOk; rw [decide_eq_false (by omega)]; simp
    go_enter Tryz.func28, Tryz.ntmps28
    go_wp2
    go_ret
    exact RetB8.mk' HF.out HAl.out
  have HTop : Hid (decide (-8 ≤ s.rack ∧ s.rack ≤ 8 ∧ s.made.length ≤ 4000) = true) := decide_eq_true (by omega)
  obtain ⟨i0, hi, hz0, hz1, hz2⟩ := info_parts info_int'
  go_enter Tryz.func28, Tryz.ntmps28
  go_upto_region 4 with fail
  obtain ⟨w0, hw0⟩ : ∃ w0, w0 = w.alloc (.cells #[.int .i64 s.rack, .slice p.ah s.hooks.length p.ch, .slice p.af s.feeds.length p.cf, .slice p.am s.made.length p.cm] 39) := ⟨_, rfl⟩
  rw [← hw0] at HAl HCS ⊢
  have hz00 : w0.heap.size = w.heap.size + 1 := by rw [hw0]; simp
  clear hw0 hr1 hr2 hr3
  obtain ⟨c0, c1, c2, c3⟩ := HCS.out w0 (Below.refl _ _)
  go_wp2
  go_loopw [3, 5, 28] (fun s3 s5 s28 wr => ∃ (k : Nat) (vo v5 : Value), k ≤ s.hooks.length ∧ s28 = .int .i64 (k : Int) ∧ vo = s3 ∧ v5 = s5 ∧ Hid (∀ h ∈ s.hooks.take k, hookOk h = true) ∧ Hid (wr.ownsRow w0.heap.size 3 1 vo (heldKB (s.hooks.take k)).length (intV (heldKB (s.hooks.take k)))) ∧ (heldKB (s.hooks.take k)).length ≤ 6 * k ∧ Below w0.heap.size w0 wr) (fun _ _ s28 _ => s.hooks.length - (intOf s28).toNat)
  case atStart => exact ⟨0, _, _, Nat.zero_le _, rfl, rfl, rfl, (fun h hh => by simp at hh), World.ownsRow_nil _ _ _ _, Nat.zero_le _, Below.refl _ _⟩
  case round =>
    obtain ⟨k, vo, v5, hk, rfl, rfl, rfl, H, HOw, hhl, hbw⟩ := hrel
    clear c0 c1 c2 c3
    by_cases hlt : k < s.hooks.length
    case pos =>
      obtain ⟨b, off, h, A', C', hA, hB, hr, q0, q1, q2, hC, hsi⟩ := HS.out.hooks.at_ hlt
      have hbww : Below w.heap.size w wr := HAl.out.trans (hbw.mono HAl.out.size)
      have d0 := (bcell hbww hB _).trans q0
      have d1 := (bcell hbww hB _).trans q1
      have d2 := (bcell hbww hB _).trans q2
      have hmem := List.mem_of_getElem? hr
      have hwh := HW.out.1 h hmem
      rw [hA]
      have HSi := Lib.hid (hsi.below hbww)
      have HBad : Hid (hookOk h = false → bedE s = 8) := fun hh => bed_hook hmem hh
      have HR := Lib.hid hr
      have HN := Lib.hid (fun w => needle_any h.at_ w)
      have HB := Lib.hid hbww
      have hbz := hbw.size
      clear q0 q1 q2 hr hmem hsi hA
      by_cases g1 : 1 < h.bed
      · have HF : Hid (bedE s = 8) := HBad.out (by unfold hookOk; exact decide_eq_false (by omega))
        clear HBad H
        go_wp2
        go_ret
        exact RetB8.mk' HF.out (HB.out.alloc HB.out.size _)
      by_cases g2 : needleP h.at_
      case neg =>
        have HF : Hid (bedE s = 8) := HBad.out (by unfold hookOk; exact decide_eq_false (fun hh => g2 hh.2.1))
        rw [decide_eq_false g2] at HN
        clear HBad H g2
        go_wp2_with (go_at_call 39; refine (HN.out _).mono ?_; rintro e w1 ⟨rfl, rfl⟩)
        go_ret
        exact RetB8.mk' HF.out (HB.out.alloc HB.out.size _)
      case pos =>
        have HNe := Lib.hid g2
        rw [decide_eq_true g2] at HN
        clear g2
        by_cases g3 : h.loops.length = 0
        · have HF : Hid (bedE s = 8) := HBad.out (by unfold hookOk; exact decide_eq_false (fun ⟨_, _, hh, _⟩ => by omega))
          have g3' : (((h.loops.length : Nat) : Int) == 0) = true := by simp [g3]
          clear HBad H
          go_wp2_with (go_at_call 39; refine (HN.out _).mono ?_; rintro e w1 ⟨rfl, rfl⟩)
          go_ret
          exact RetB8.mk' HF.out (HB.out.alloc HB.out.size _)
        by_cases g4 : 6 < h.loops.length
        · have HF : Hid (bedE s = 8) := HBad.out (by unfold hookOk; exact decide_eq_false (fun ⟨_, _, _, hh⟩ => by omega))
          have g3' : (((h.loops.length : Nat) : Int) == 0) = false := beq_eq_false_iff_ne.2 (by omega)
          clear HBad H g3
          go_wp2_with (go_at_call 39; refine (HN.out _).mono ?_; rintro e w1 ⟨rfl, rfl⟩)
          go_ret
          exact RetB8.mk' HF.out (HB.out.alloc HB.out.size _)
        have hok : hookOk h = true := by unfold hookOk; exact decide_eq_true ⟨by omega, HNe.out, by omega, by omega⟩
        have HQ := Lib.hid (all_snoc HR.out H.out hok)
        have HH := Lib.hid (heldK_snoc HR.out)
        have g3' : (((h.loops.length : Nat) : Int) == 0) = false := beq_eq_false_iff_ne.2 (by omega)
        obtain ⟨b2, off2, rfl, _, _⟩ := HSi.out (fun e => g3 (by rw [e]; rfl))
        have hnew := fun o => slI_news (HSi.out.below ((Below.refl w.heap.size wr).alloc HB.out.size o))
        have HNw := Lib.hid hnew
        have HL := Lib.hid (intV_lenB h.loops)
        clear HBad H hok hnew g3 HNe HSi
        generalize heldKB (s.hooks.take k) = hk0 at HOw hhl HH
        go_wp2_with (first
          | (go_at_call 39; refine (HN.out _).mono ?_; rintro e w1 ⟨rfl, rfl⟩)
          | (at_builtin; refine wpList_append_own _ rfl _ _ 43 rfl w0.heap.size 3 i0 (.int .i64 0) 1 8 Tryz.underlying43 hi hz0 hz1 hz2 rfl (by decide) _ _ _ rfl (HOw.out.alloc _) ⟨b2, off2, none⟩ h.loops.length C' (intV h.loops) rfl (by rw [HL.out, Nat.mul_one]) (HNw.out _) (intV_one _) (by unfold maxLen; omega) (by omega) (by simp; omega) ?_; intro v' w4 hown4 hgrow4 _; have HO4 := Lib.hid hown4; have HG4 := Lib.hid hgrow4; clear hown4 hgrow4))
        go_roundw
        case rel =>
          refine ⟨k + 1, v', _, by omega, by go_num, rfl, rfl, HQ, ?_, ?_, ?_⟩
          · rw [HH.out, intV_app, List.length_append]; exact HO4.out
          · rw [HH.out, List.length_append]; omega
          · exact ((hbw.alloc hbz _).grown HG4.out (by simp; omega) (fun g e => (HOw.out.lt g e).1))
        case measure => simp [intOf]; omega
    case neg =>
      obtain rfl : k = s.hooks.length := by omega
      rw [List.take_length] at H HOw hhl
      have HHk : Hid (∀ h ∈ s.hooks, hookOk h = true) := H.out
      obtain ⟨a3, c3, rfl, hc3⟩ := own_slice HOw.out
      have hsh : SlI wr wr.heap.size a3 (heldKB s.hooks) := ownI.slI HOw.out
      have HSh := Lib.hid hsh
      have hhl2 : (heldKB s.hooks).length ≤ 60000 := by omega
      obtain ⟨w1, rfl⟩ : ∃ w1, w1 = wr := ⟨wr, rfl⟩
      have HB1 := Lib.hid hbw
      have hz01 := hbw.size
      obtain ⟨c0, c1, c2, c3'⟩ := HCS.out w1 (hbw.mono (by omega))
      clear H HOw hhl hsh hbw hlt hk
      go_wp2
      clear c0 c1 c2 c3'
      go_loopw [7, 8, 61] (fun s7 s8 s61 wr => ∃ (k : Nat) (v7 v8 : Value), k ≤ s.feeds.length ∧ s61 = .int .i64 (k : Int) ∧ v7 = s7 ∧ v8 = s8 ∧ Hid (∀ h ∈ s.feeds.take k, feedOk h = true) ∧ Below w1.heap.size w1 wr) (fun _ _ s61 _ => s.feeds.length - (intOf s61).toNat)
      case atStart => exact ⟨0, _, _, Nat.zero_le _, rfl, rfl, rfl, (fun h hh => by simp at hh), Below.refl _ _⟩
      case round =>
        obtain ⟨k, v7, v8, hk, rfl, rfl, rfl, H, hbw⟩ := hrel
        by_cases hlt : k < s.feeds.length
        case pos =>
          obtain ⟨b, off, f, hA, hB, hr, q0, q1, q2⟩ := HS.out.feeds.at_ hlt
          have hbww : Below w.heap.size w wr := HAl.out.trans ((HB1.out.trans (hbw.mono HB1.out.size)).mono HAl.out.size)
          have d0 := (bcell hbww hB _).trans q0
          have d1 := (bcell hbww hB _).trans q1
          have d2 := (bcell hbww hB _).trans q2
          have hmem := List.mem_of_getElem? hr
          rw [hA]
          have HBad : Hid (feedOk f = false → bedE s = 8) := fun hh => bed_feed hmem hh
          have HR := Lib.hid hr
          have HB := Lib.hid hbww
          have hbz := hbw.size
          clear q0 q1 q2 hr hmem hA
          have hfo : feedOk f = (decide (carP f.car) && (if f.fresh then decide (f.place = 0) else decide (f.place % 2 = 1 ∧ -217 ≤ f.place ∧ f.place ≤ 217))) := rfl
          obtain ⟨fc, ff, fp⟩ := f
          simp only at d0 d1 d2 hfo
          have HO := Lib.hid hfo
          clear hfo
          obtain ⟨qb, hqb⟩ : ∃ qb, qb = (bits .and .i64 fp 1 == 1) := ⟨_, rfl⟩
          have hqd : qb = true ∨ qb = false := by cases qb <;> simp
          have HQd : Hid (-217 ≤ fp ∧ fp ≤ 217 → qb = decide (fp % 2 = 1)) := fun h => by rw [hqb]; exact and_odd h
          by_cases n1 : fp < -217
          · have hm1 : decide (-217 ≤ fp) = false := decide_eq_false (by omega)
            rcases hqd with hq | hq
            · rw [hq] at hqb
              have hqb' := hqb.symm
              clear hqb
              by_cases f1 : fc < 1
              · have HF : Hid (bedE s = 8) := HBad.out (by rw [HO.out, decide_eq_false (fun h => by unfold carP at h; omega)]; rfl)
                clear HBad H HO HQd
                go_wp2
                go_ret
                exact RetB8.mk' HF.out (HB.out.alloc HB.out.size _)
              by_cases f2 : 6 < fc
              · have HF : Hid (bedE s = 8) := HBad.out (by rw [HO.out, decide_eq_false (fun h => by unfold carP at h; omega)]; rfl)
                clear HBad H HO HQd
                go_wp2
                go_ret
                exact RetB8.mk' HF.out (HB.out.alloc HB.out.size _)
              have hcp : decide (carP fc) = true := decide_eq_true (by unfold carP; omega)
              cases ff with
              | true =>
                by_cases f3 : fp = 0
                · have hok : feedOk ⟨fc, true, fp⟩ = true := by rw [HO.out, hcp, f3]; rfl
                  have HQ := Lib.hid (all_snoc HR.out H.out hok)
                  have e3 : (fp != 0) = false := by simp [f3]
                  have e4 : (fp == 0) = true := by simp [f3]
                  clear HBad H HO HQd hok f3 hcp
                  go_wp2
                  go_roundw
                  case rel => exact ⟨k + 1, _, _, by omega, by go_num, rfl, rfl, HQ, hbw.alloc hbz _⟩
                  case measure => simp [intOf]; omega
                · have HF : Hid (bedE s = 8) := HBad.out (by rw [HO.out, hcp, if_pos rfl, decide_eq_false f3]; rfl)
                  have e3 : (fp != 0) = true := by simp [f3]
                  have e4 : (fp == 0) = false := by simp [f3]
                  clear HBad H HO HQd hcp f3
                  go_wp2
                  go_ret
                  exact RetB8.mk' HF.out (HB.out.alloc HB.out.size _)
              | false =>
                have HF : Hid (bedE s = 8) := HBad.out (by rw [HO.out, hcp, if_neg (by simp), decide_eq_false (fun h => by omega)]; rfl)
                clear HBad H HO HQd hcp
                go_wp2
                go_ret
                exact RetB8.mk' HF.out (HB.out.alloc HB.out.size _)
            · rw [hq] at hqb
              have hqb' := hqb.symm
              clear hqb
              by_cases f1 : fc < 1
              · have HF : Hid (bedE s = 8) := HBad.out (by rw [HO.out, decide_eq_false (fun h => by unfold carP at h; omega)]; rfl)
                clear HBad H HO HQd
                go_wp2
                go_ret
                exact RetB8.mk' HF.out (HB.out.alloc HB.out.size _)
              by_cases f2 : 6 < fc
              · have HF : Hid (bedE s = 8) := HBad.out (by rw [HO.out, decide_eq_false (fun h => by unfold carP at h; omega)]; rfl)
                clear HBad H HO HQd
                go_wp2
                go_ret
                exact RetB8.mk' HF.out (HB.out.alloc HB.out.size _)
              have hcp : decide (carP fc) = true := decide_eq_true (by unfold carP; omega)
              cases ff with
              | true =>
                by_cases f3 : fp = 0
                · have hok : feedOk ⟨fc, true, fp⟩ = true := by rw [HO.out, hcp, f3]; rfl
                  have HQ := Lib.hid (all_snoc HR.out H.out hok)
                  have e3 : (fp != 0) = false := by simp [f3]
                  have e4 : (fp == 0) = true := by simp [f3]
                  clear HBad H HO HQd hok f3 hcp
                  go_wp2
                  go_roundw
                  case rel => exact ⟨k + 1, _, _, by omega, by go_num, rfl, rfl, HQ, hbw.alloc hbz _⟩
                  case measure => simp [intOf]; omega
                · have HF : Hid (bedE s = 8) := HBad.out (by rw [HO.out, hcp, if_pos rfl, decide_eq_false f3]; rfl)
                  have e3 : (fp != 0) = true := by simp [f3]
                  have e4 : (fp == 0) = false := by simp [f3]
                  clear HBad H HO HQd hcp f3
                  go_wp2
                  go_ret
                  exact RetB8.mk' HF.out (HB.out.alloc HB.out.size _)
              | false =>
                have HF : Hid (bedE s = 8) := HBad.out (by rw [HO.out, hcp, if_neg (by simp), decide_eq_false (fun h => by omega)]; rfl)
                clear HBad H HO HQd hcp
                go_wp2
                go_ret
                exact RetB8.mk' HF.out (HB.out.alloc HB.out.size _)
          have hm1 : decide (-217 ≤ fp) = true := decide_eq_true (by omega)
          by_cases n2 : 217 < fp
          · have hm2 : decide (fp ≤ 217) = false := decide_eq_false (by omega)
            rcases hqd with hq | hq
            · rw [hq] at hqb
              have hqb' := hqb.symm
              clear hqb
              by_cases f1 : fc < 1
              · have HF : Hid (bedE s = 8) := HBad.out (by rw [HO.out, decide_eq_false (fun h => by unfold carP at h; omega)]; rfl)
                clear HBad H HO HQd
                go_wp2
                go_ret
                exact RetB8.mk' HF.out (HB.out.alloc HB.out.size _)
              by_cases f2 : 6 < fc
              · have HF : Hid (bedE s = 8) := HBad.out (by rw [HO.out, decide_eq_false (fun h => by unfold carP at h; omega)]; rfl)
                clear HBad H HO HQd
                go_wp2
                go_ret
                exact RetB8.mk' HF.out (HB.out.alloc HB.out.size _)
              have hcp : decide (carP fc) = true := decide_eq_true (by unfold carP; omega)
              cases ff with
              | true =>
                by_cases f3 : fp = 0
                · have hok : feedOk ⟨fc, true, fp⟩ = true := by rw [HO.out, hcp, f3]; rfl
                  have HQ := Lib.hid (all_snoc HR.out H.out hok)
                  have e3 : (fp != 0) = false := by simp [f3]
                  have e4 : (fp == 0) = true := by simp [f3]
                  clear HBad H HO HQd hok f3 hcp
                  go_wp2
                  go_roundw
                  case rel => exact ⟨k + 1, _, _, by omega, by go_num, rfl, rfl, HQ, hbw.alloc hbz _⟩
                  case measure => simp [intOf]; omega
                · have HF : Hid (bedE s = 8) := HBad.out (by rw [HO.out, hcp, if_pos rfl, decide_eq_false f3]; rfl)
                  have e3 : (fp != 0) = true := by simp [f3]
                  have e4 : (fp == 0) = false := by simp [f3]
                  clear HBad H HO HQd hcp f3
                  go_wp2
                  go_ret
                  exact RetB8.mk' HF.out (HB.out.alloc HB.out.size _)
              | false =>
                have HF : Hid (bedE s = 8) := HBad.out (by rw [HO.out, hcp, if_neg (by simp), decide_eq_false (fun h => by omega)]; rfl)
                clear HBad H HO HQd hcp
                go_wp2
                go_ret
                exact RetB8.mk' HF.out (HB.out.alloc HB.out.size _)
            · rw [hq] at hqb
              have hqb' := hqb.symm
              clear hqb
              by_cases f1 : fc < 1
              · have HF : Hid (bedE s = 8) := HBad.out (by rw [HO.out, decide_eq_false (fun h => by unfold carP at h; omega)]; rfl)
                clear HBad H HO HQd
                go_wp2
                go_ret
                exact RetB8.mk' HF.out (HB.out.alloc HB.out.size _)
              by_cases f2 : 6 < fc
              · have HF : Hid (bedE s = 8) := HBad.out (by rw [HO.out, decide_eq_false (fun h => by unfold carP at h; omega)]; rfl)
                clear HBad H HO HQd
                go_wp2
                go_ret
                exact RetB8.mk' HF.out (HB.out.alloc HB.out.size _)
              have hcp : decide (carP fc) = true := decide_eq_true (by unfold carP; omega)
              cases ff with
              | true =>
                by_cases f3 : fp = 0
                · have hok : feedOk ⟨fc, true, fp⟩ = true := by rw [HO.out, hcp, f3]; rfl
                  have HQ := Lib.hid (all_snoc HR.out H.out hok)
                  have e3 : (fp != 0) = false := by simp [f3]
                  have e4 : (fp == 0) = true := by simp [f3]
                  clear HBad H HO HQd hok f3 hcp
                  go_wp2
                  go_roundw
                  case rel => exact ⟨k + 1, _, _, by omega, by go_num, rfl, rfl, HQ, hbw.alloc hbz _⟩
                  case measure => simp [intOf]; omega
                · have HF : Hid (bedE s = 8) := HBad.out (by rw [HO.out, hcp, if_pos rfl, decide_eq_false f3]; rfl)
                  have e3 : (fp != 0) = true := by simp [f3]
                  have e4 : (fp == 0) = false := by simp [f3]
                  clear HBad H HO HQd hcp f3
                  go_wp2
                  go_ret
                  exact RetB8.mk' HF.out (HB.out.alloc HB.out.size _)
              | false =>
                have HF : Hid (bedE s = 8) := HBad.out (by rw [HO.out, hcp, if_neg (by simp), decide_eq_false (fun h => by omega)]; rfl)
                clear HBad H HO HQd hcp
                go_wp2
                go_ret
                exact RetB8.mk' HF.out (HB.out.alloc HB.out.size _)
          have hm2 : decide (fp ≤ 217) = true := decide_eq_true (by omega)
          by_cases hodd : fp % 2 = 1
          · have hq := HQd.out (by omega)
            rw [decide_eq_true hodd] at hq
            rw [hq] at hqb
            have hqb' := hqb.symm
            clear hqb
            by_cases f1 : fc < 1
            · have HF : Hid (bedE s = 8) := HBad.out (by rw [HO.out, decide_eq_false (fun h => by unfold carP at h; omega)]; rfl)
              clear HBad H HO HQd
              go_wp2
              go_ret
              exact RetB8.mk' HF.out (HB.out.alloc HB.out.size _)
            by_cases f2 : 6 < fc
            · have HF : Hid (bedE s = 8) := HBad.out (by rw [HO.out, decide_eq_false (fun h => by unfold carP at h; omega)]; rfl)
              clear HBad H HO HQd
              go_wp2
              go_ret
              exact RetB8.mk' HF.out (HB.out.alloc HB.out.size _)
            have hcp : decide (carP fc) = true := decide_eq_true (by unfold carP; omega)
            cases ff with
            | true =>
              by_cases f3 : fp = 0
              · have hok : feedOk ⟨fc, true, fp⟩ = true := by rw [HO.out, hcp, f3]; rfl
                have HQ := Lib.hid (all_snoc HR.out H.out hok)
                have e3 : (fp != 0) = false := by simp [f3]
                have e4 : (fp == 0) = true := by simp [f3]
                clear HBad H HO HQd hok f3 hcp
                go_wp2
                go_roundw
                case rel => exact ⟨k + 1, _, _, by omega, by go_num, rfl, rfl, HQ, hbw.alloc hbz _⟩
                case measure => simp [intOf]; omega
              · have HF : Hid (bedE s = 8) := HBad.out (by rw [HO.out, hcp, if_pos rfl, decide_eq_false f3]; rfl)
                have e3 : (fp != 0) = true := by simp [f3]
                have e4 : (fp == 0) = false := by simp [f3]
                clear HBad H HO HQd hcp f3
                go_wp2
                go_ret
                exact RetB8.mk' HF.out (HB.out.alloc HB.out.size _)
            | false =>
              have hok : feedOk ⟨fc, false, fp⟩ = true := by rw [HO.out, hcp, if_neg (by simp), decide_eq_true ⟨hodd, by omega, by omega⟩]; rfl
              have HQ := Lib.hid (all_snoc HR.out H.out hok)
              clear HBad H HO HQd hok hcp
              go_wp2
              go_roundw
              case rel => exact ⟨k + 1, _, _, by omega, by go_num, rfl, rfl, HQ, hbw.alloc hbz _⟩
              case measure => simp [intOf]; omega
          · have hq := HQd.out (by omega)
            rw [decide_eq_false hodd] at hq
            rw [hq] at hqb
            have hqb' := hqb.symm
            clear hqb
            by_cases f1 : fc < 1
            · have HF : Hid (bedE s = 8) := HBad.out (by rw [HO.out, decide_eq_false (fun h => by unfold carP at h; omega)]; rfl)
              clear HBad H HO HQd
              go_wp2
              go_ret
              exact RetB8.mk' HF.out (HB.out.alloc HB.out.size _)
            by_cases f2 : 6 < fc
            · have HF : Hid (bedE s = 8) := HBad.out (by rw [HO.out, decide_eq_false (fun h => by unfold carP at h; omega)]; rfl)
              clear HBad H HO HQd
              go_wp2
              go_ret
              exact RetB8.mk' HF.out (HB.out.alloc HB.out.size _)
            have hcp : decide (carP fc) = true := decide_eq_true (by unfold carP; omega)
            cases ff with
            | true =>
              by_cases f3 : fp = 0
              · have hok : feedOk ⟨fc, true, fp⟩ = true := by rw [HO.out, hcp, f3]; rfl
                have HQ := Lib.hid (all_snoc HR.out H.out hok)
                have e3 : (fp != 0) = false := by simp [f3]
                have e4 : (fp == 0) = true := by simp [f3]
                clear HBad H HO HQd hok f3 hcp
                go_wp2
                go_roundw
                case rel => exact ⟨k + 1, _, _, by omega, by go_num, rfl, rfl, HQ, hbw.alloc hbz _⟩
                case measure => simp [intOf]; omega
              · have HF : Hid (bedE s = 8) := HBad.out (by rw [HO.out, hcp, if_pos rfl, decide_eq_false f3]; rfl)
                have e3 : (fp != 0) = true := by simp [f3]
                have e4 : (fp == 0) = false := by simp [f3]
                clear HBad H HO HQd hcp f3
                go_wp2
                go_ret
                exact RetB8.mk' HF.out (HB.out.alloc HB.out.size _)
            | false =>
              have HF : Hid (bedE s = 8) := HBad.out (by rw [HO.out, hcp, if_neg (by simp), decide_eq_false (fun h => hodd h.1)]; rfl)
              clear HBad H HO HQd hcp
              go_wp2
              go_ret
              exact RetB8.mk' HF.out (HB.out.alloc HB.out.size _)
        case neg =>
          obtain rfl : k = s.feeds.length := by omega
          rw [List.take_length] at H
          have HF := Lib.hid H.out
          obtain ⟨w2, rfl⟩ : ∃ w2, w2 = wr := ⟨wr, rfl⟩
          have HB2 := Lib.hid hbw
          have hz12 := hbw.size
          have hb02 := HB1.out.trans (hbw.mono HB1.out.size)
          have HB02 := Lib.hid hb02
          obtain ⟨c0, c1, c2, c3'⟩ := HCS.out w2 (hb02.mono (by omega))
          clear H hlt hk hbw hb02
          go_wp2
          clear c0 c1 c2 c3'
          go_loopw [9, 10, 109] (fun s9 s10 s109 wr => ∃ (k : Nat) (v9 v10 : Value), k ≤ s.made.length ∧ s109 = .int .i64 (k : Int) ∧ v9 = s9 ∧ v10 = s10 ∧ Hid (∀ j m, j < k → s.made[j]? = some m → madeOk j m = true) ∧ Below w2.heap.size w2 wr) (fun _ _ s109 _ => s.made.length - (intOf s109).toNat)
          case atStart => exact ⟨0, _, _, Nat.zero_le _, rfl, rfl, rfl, (fun j _ hj _ => absurd hj (Nat.not_lt_zero j)), Below.refl _ _⟩
          case round =>
            obtain ⟨k, v9, v10, hk, rfl, rfl, rfl, H, hbw⟩ := hrel
            by_cases hlt : k < s.made.length
            case pos =>
              obtain ⟨b, off, m, A', C', hA, hB, hr, q0, q1, q2, q3, hC, hsi⟩ := HS.out.made.at_ hlt
              have hbww : Below w.heap.size w wr := HAl.out.trans ((HB02.out.trans (hbw.mono HB02.out.size)).mono HAl.out.size)
              have d0 := (bcell hbww hB _).trans q0
              have d1 := (bcell hbww hB _).trans q1
              have d2 := (bcell hbww hB _).trans q2
              have d3 := (bcell hbww hB _).trans q3
              have hmem := List.mem_of_getElem? hr
              have hwm := HW.out.2 m hmem
              rw [hA]
              have HBad : Hid (madeOk k m = false → bedE s = 8) := fun hh => bed_made hr hh
              have HR := Lib.hid hr
              have HB := Lib.hid hbww
              have hbz := hbw.size
              have HN := Lib.hid (fun w => needle_any m.at_ w)
              have HSi := Lib.hid (hsi.below hbww)
              have HMk : Hid (madeOk k m = (decide (m.bed ≤ 1 ∧ needleP m.at_ ∧ carP m.car ∧ m.parents.length ≤ 6) && distB m.parents k)) := rfl
              clear q0 q1 q2 q3 hr hmem hA hsi
              by_cases g1 : 1 < m.bed
              · have HF2 : Hid (bedE s = 8) := HBad.out (by rw [HMk.out, decide_eq_false (fun ⟨hh, _⟩ => by omega)]; rfl)
                clear HBad H HMk
                go_wp2
                go_ret
                exact RetB8.mk' HF2.out (HB.out.alloc HB.out.size _)
              by_cases g2 : needleP m.at_
              case neg =>
                have HF2 : Hid (bedE s = 8) := HBad.out (by rw [HMk.out, decide_eq_false (fun ⟨_, hh, _⟩ => g2 hh)]; rfl)
                rw [decide_eq_false g2] at HN
                clear HBad H HMk g2
                go_wp2_with ((go_at_call 39; refine (HN.out _).mono ?_; rintro e wn ⟨rfl, rfl⟩))
                go_ret
                exact RetB8.mk' HF2.out (HB.out.alloc HB.out.size _)
              case pos =>
                have HNe := Lib.hid g2
                rw [decide_eq_true g2] at HN
                clear g2
                by_cases g3 : m.car < 1
                · have HF2 : Hid (bedE s = 8) := HBad.out (by rw [HMk.out, decide_eq_false (fun ⟨_, _, hh, _⟩ => by unfold carP at hh; omega)]; rfl)
                  clear HBad H HMk
                  go_wp2_with ((go_at_call 39; refine (HN.out _).mono ?_; rintro e wn ⟨rfl, rfl⟩))
                  go_ret
                  exact RetB8.mk' HF2.out (HB.out.alloc HB.out.size _)
                by_cases g4 : 6 < m.car
                · have HF2 : Hid (bedE s = 8) := HBad.out (by rw [HMk.out, decide_eq_false (fun ⟨_, _, hh, _⟩ => by unfold carP at hh; omega)]; rfl)
                  clear HBad H HMk
                  go_wp2_with ((go_at_call 39; refine (HN.out _).mono ?_; rintro e wn ⟨rfl, rfl⟩))
                  go_ret
                  exact RetB8.mk' HF2.out (HB.out.alloc HB.out.size _)
                by_cases g5 : 6 < m.parents.length
                · have HF2 : Hid (bedE s = 8) := HBad.out (by rw [HMk.out, decide_eq_false (fun ⟨_, _, _, hh⟩ => by omega)]; rfl)
                  clear HBad H HMk
                  go_wp2_with ((go_at_call 39; refine (HN.out _).mono ?_; rintro e wn ⟨rfl, rfl⟩))
                  go_ret
                  exact RetB8.mk' HF2.out (HB.out.alloc HB.out.size _)
                have hdec : decide (m.bed ≤ 1 ∧ needleP m.at_ ∧ carP m.car ∧ m.parents.length ≤ 6) = true := decide_eq_true ⟨by omega, HNe.out, by unfold carP; omega, by omega⟩
                have HDi := Lib.hid (fun o => distinct_any A' C' m.parents (by omega) (k : Int) (wr.alloc o) ((HSi.out.below ((Below.refl w.heap.size wr).alloc HB.out.size o)).more (by have := HB.out.size; simp; omega)))
                have hdd : distB' m.parents k = distB m.parents k := rfl
                rw [hdd] at HDi
                rw [hdec, Bool.true_and] at HMk
                clear hdec hdd HNe
                cases hq : distB m.parents k with
                | false =>
                  rw [hq] at HDi
                  have HF2 : Hid (bedE s = 8) := HBad.out (by rw [HMk.out, hq])
                  clear HBad H HMk hq
                  go_wp2_with (first
                    | (go_at_call 39; refine (HN.out _).mono ?_; rintro e wn ⟨rfl, rfl⟩)
                    | (go_at_call 52; refine (HDi.out _).mono ?_; rintro e wd ⟨rfl, hbd⟩))
                  go_ret
                  exact RetB8.mk' HF2.out ((HB.out.alloc HB.out.size _).trans (hbd.mono (by have := HB.out.size; simp; omega)))
                | true =>
                  rw [hq] at HDi
                  have HQ : Hid (∀ j m', j < k + 1 → s.made[j]? = some m' → madeOk j m' = true) := fun j m' hj hm' => by
                    by_cases e : j = k
                    · subst e
                      have h2 := HR.out
                      rw [h2] at hm'; cases hm'
                      rw [HMk.out, hq]
                    · exact H.out j m' (by omega) hm'
                  clear HBad H HMk hq
                  go_wp2_with (first
                    | (go_at_call 39; refine (HN.out _).mono ?_; rintro e wn ⟨rfl, rfl⟩)
                    | (go_at_call 52; refine (HDi.out _).mono ?_; rintro e wd ⟨rfl, hbd⟩))
                  go_roundw
                  case rel => exact ⟨k + 1, _, _, by omega, by go_num, rfl, rfl, HQ, (hbw.alloc hbz _).trans (hbd.mono (by simp; omega))⟩
                  case measure => simp [intOf]; omega
            case neg =>
              obtain rfl : k = s.made.length := by omega
              have HMd : Hid (madeAll 0 s.made = true) := madeAll_true (fun j m hm => by
                rw [Nat.zero_add]
                exact H.out j m (List.getElem?_eq_some_iff.1 hm).1 hm)
              obtain ⟨w3, rfl⟩ : ∃ w3, w3 = wr := ⟨wr, rfl⟩
              have hb03 := HB02.out.trans (hbw.mono HB02.out.size)
              obtain ⟨c0, c1, c2, c3'⟩ := HCS.out w3 (hb03.mono (by omega))
              have hb13 := HB2.out.trans (hbw.mono HB2.out.size)
              have HB03 := Lib.hid hb03
              have HB13 := Lib.hid hb13
              have HRh := Lib.hid (fun (W : World) (hb : Below w.heap.size w W) => risingH_any p.ah p.ch s.hooks (by omega) (fun h hh => by
                have h1 := HHk.out h hh
                have h2 := HW.out.1 h hh
                unfold hookOk at h1
                have h3 := of_decide_eq_true h1
                exact ⟨h2.1, h3.1, h3.2.1.1, h3.2.1.2⟩) W ((HS.out.hooks.below hb).more hb.size))
              have HRf := Lib.hid (fun (W : World) (hb : Below w.heap.size w W) => risingF_any p.af p.cf s.feeds (by omega) (fun h hh => by
                have h1 := HF.out h hh
                unfold feedOk at h1
                rw [Bool.and_eq_true] at h1
                exact of_decide_eq_true h1.1) W ((HS.out.feeds.below hb).more hb.size))
              have HDh := Lib.hid (fun (W : World) (hb : Below w1.heap.size w1 W) => distinct_any a3 c3 (heldKB s.hooks) (by omega) (s.made.length : Int) W ((HSh.out.below hb).more hb.size))
              have hdd : distB' (heldKB s.hooks) (s.made.length : Int) = distB (heldL s) s.made.length := rfl
              rw [hdd] at HDh
              have HE : Hid (bedOk s = (risB ltH s.hooks && risB ltF s.feeds && distB (heldL s) s.made.length)) := by
                have e1 : s.hooks.all hookOk = true := List.all_eq_true.2 HHk.out
                have e2 : s.feeds.all feedOk = true := List.all_eq_true.2 HF.out
                unfold Hid bedOk
                rw [HTop.out, e1, e2, HMd.out]
                simp
              have HBw3 := Lib.hid (HAl.out.trans (hb03.mono HAl.out.size))
              clear H hlt hk hbw hb03 hb13 hdd
              generalize risB ltH s.hooks = r1 at HRh HE
              generalize risB ltF s.feeds = r2 at HRf HE
              generalize distB (heldL s) s.made.length = r3 at HDh HE
              cases r1 with
              | false =>
                have HG : Hid (bedE s = 8) := by unfold Hid bedE; rw [HE.out]; rfl
                clear HE
                go_wp2_with ((go_at_call 53; refine (HRh.out _ HBw3.out).mono ?_; rintro e wa ⟨rfl, hba⟩; have hb0a := HB03.out.trans (hba.mono HB03.out.size); obtain ⟨ca0, ca1, ca2, ca3⟩ := HCS.out wa (hb0a.mono (by omega))))
                go_ret
                exact RetB8.mk' HG.out (HBw3.out.trans (hba.mono HBw3.out.size))
              | true =>
                cases r2 with
                | false =>
                  have HG : Hid (bedE s = 8) := by unfold Hid bedE; rw [HE.out]; rfl
                  clear HE
                  go_wp2_with (first
                    | (go_at_call 53; refine (HRh.out _ HBw3.out).mono ?_; rintro e wa ⟨rfl, hba⟩; have hb0a := HB03.out.trans (hba.mono HB03.out.size); obtain ⟨ca0, ca1, ca2, ca3⟩ := HCS.out wa (hb0a.mono (by omega)))
                    | (go_at_call 55; refine (HRf.out _ (HBw3.out.trans (hba.mono HBw3.out.size))).mono ?_; rintro e wb ⟨rfl, hbb⟩; have hbab := hba.trans (hbb.mono hba.size); have hb0b := HB03.out.trans (hbab.mono HB03.out.size); obtain ⟨cb0, cb1, cb2, cb3⟩ := HCS.out wb (hb0b.mono (by omega))))
                  go_ret
                  exact RetB8.mk' HG.out (HBw3.out.trans (hbab.mono HBw3.out.size))
                | true =>
                  cases r3 with
                  | false =>
                    have HG : Hid (bedE s = 8) := by unfold Hid bedE; rw [HE.out]; rfl
                    clear HE
                    go_wp2_with (first
                      | (go_at_call 53; refine (HRh.out _ HBw3.out).mono ?_; rintro e wa ⟨rfl, hba⟩; have hb0a := HB03.out.trans (hba.mono HB03.out.size); obtain ⟨ca0, ca1, ca2, ca3⟩ := HCS.out wa (hb0a.mono (by omega)))
                      | (go_at_call 55; refine (HRf.out _ (HBw3.out.trans (hba.mono HBw3.out.size))).mono ?_; rintro e wb ⟨rfl, hbb⟩; have hbab := hba.trans (hbb.mono hba.size); have hb0b := HB03.out.trans (hbab.mono HB03.out.size); obtain ⟨cb0, cb1, cb2, cb3⟩ := HCS.out wb (hb0b.mono (by omega)))
                      | (go_at_call 52; refine (HDh.out _ (HB13.out.trans (hbab.mono HB13.out.size))).mono ?_; rintro e wd ⟨rfl, hbd⟩))
                    go_ret
                    exact RetB8.mk' HG.out (HBw3.out.trans ((hbab.trans (hbd.mono hbab.size)).mono HBw3.out.size))
                  | true =>
                    have HG : Hid (bedE s = 0) := by unfold Hid bedE; rw [HE.out]; rfl
                    clear HE
                    go_wp2_with (first
                      | (go_at_call 53; refine (HRh.out _ HBw3.out).mono ?_; rintro e wa ⟨rfl, hba⟩; have hb0a := HB03.out.trans (hba.mono HB03.out.size); obtain ⟨ca0, ca1, ca2, ca3⟩ := HCS.out wa (hb0a.mono (by omega)))
                      | (go_at_call 55; refine (HRf.out _ (HBw3.out.trans (hba.mono HBw3.out.size))).mono ?_; rintro e wb ⟨rfl, hbb⟩; have hbab := hba.trans (hbb.mono hba.size); have hb0b := HB03.out.trans (hbab.mono HB03.out.size); obtain ⟨cb0, cb1, cb2, cb3⟩ := HCS.out wb (hb0b.mono (by omega)))
                      | (go_at_call 52; refine (HDh.out _ (HB13.out.trans (hbab.mono HB13.out.size))).mono ?_; rintro e wd ⟨rfl, hbd⟩))
                    go_ret
                    exact RetB8.mk' HG.out (HBw3.out.trans ((hbab.trans (hbd.mono hbab.size)).mono HBw3.out.size))
end Go.Proofs.YtbnddpknejgmhaaGreat
