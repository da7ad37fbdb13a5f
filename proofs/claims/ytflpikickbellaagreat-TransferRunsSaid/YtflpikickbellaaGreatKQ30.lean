/- Layer 30: On. -/
import Derived.Test.YtflpikickbellaaGreatKQ29
namespace Go.Proofs.YtflpikickbellaaGreat
open Go.RowKit Go.Shelf
set_option maxRecDepth 100000

theorem madeAll_at : ∀ {l : List Mk} {i k : Nat} {m : Mk}, madeAll i l = true → l[k]? = some m → madeOk (i + k) m = true
  | x :: l, i, 0, m, h, hm => by
    simp at hm; subst hm
    simp only [madeAll, Bool.and_eq_true] at h
    exact h.1
  | x :: l, i, k + 1, m, h, hm => by
    simp only [madeAll, Bool.and_eq_true] at h
    have := madeAll_at (l := l) (i := i + 1) (k := k) h.2 (by simpa using hm)
    rwa [show i + 1 + k = i + (k + 1) by omega] at this
theorem bed_made0 {s : BedS} (h : bedE s = 0) : madeAll 0 s.made = true := by
  unfold bedE at h
  cases hb : bedOk s with
  | false => rw [hb] at h; simp at h
  | true =>
    unfold bedOk at hb
    simp only [Bool.and_eq_true] at hb
    exact hb.1.1.1.2
theorem bed_parents {s : BedS} (h : bedE s = 0) : ∀ m ∈ s.made, m.parents.length ≤ 6 := fun m hm => by
  obtain ⟨k, hk⟩ := List.mem_iff_getElem?.1 hm
  have := madeAll_at (bed_made0 h) hk
  unfold madeOk at this
  rw [Bool.and_eq_true] at this
  exact (of_decide_eq_true this.1).2.2.2
theorem bed_loops {s : BedS} (h : bedE s = 0) : ∀ x ∈ s.hooks, 0 < x.loops.length ∧ x.loops.length ≤ 6 := fun x hx => by
  have := (bed_zero h).1 x hx
  unfold hookOk at this
  have h2 := of_decide_eq_true this
  exact ⟨h2.2.2.1, h2.2.2.2⟩
theorem bed_seek {s : BedS} (h : bedE s = 0) (hwf : s.wf) (hn : s.hooks.length ≤ 9000) : Seek s.hooks := ⟨hn, fun x hx => by
  have := (bed_zero h).1 x hx
  unfold hookOk at this
  have h2 := of_decide_eq_true this
  have h3 := hwf.1 x hx
  unfold Hk.wf at h3
  unfold Hk.near
  unfold needleP at h2
  exact ⟨h3.1, h2.1, h2.2.1.1, h2.2.1.2⟩, (bed_zero h).2.2.1⟩
def onR (s : BedS) (b n : Int) : List Int × Int := if bedE s ≠ 0 then ([], bedE s) else if ¬ (b ≤ 1 ∧ needleP n) then ([], 2) else (heldAt s.hooks b n, 0)
def onOut (s : BedS) (b n : Int) (w : World) (e : Ending) (w' : World) : Prop := ∃ A c, e = .returned (.tuple #[.slice A (onR s b n).1.length c, .int .i64 (onR s b n).2]) ∧ SlI w' w'.heap.size A (onR s b n).1 ∧ Below w.heap.size w w'
theorem onOut.mk' {s : BedS} {b n : Int} {l : List Int} {x : Int} {w w' : World} {A : Option Addr} {c : Nat} (h : onR s b n = (l, x)) (hs : SlI w' w'.heap.size A l) (hb : Below w.heap.size w w') : onOut s b n w (.returned (.tuple #[.slice A l.length c, .int .i64 x])) w' := ⟨A, c, by rw [h], by rw [h]; exact hs, hb⟩
theorem onOut.nil {s : BedS} {b n : Int} {x : Int} {w w' : World} {A : Option Addr} {c : Nat} (h : onR s b n = ([], x)) (hb : Below w.heap.size w w') : onOut s b n w (.returned (.tuple #[.slice A 0 c, .int .i64 x])) w' := onOut.mk' h SlI.nil hb
set_option maxHeartbeats 4000000 in
theorem on_any (s : BedS) (p : BedP) (hwf : s.wf) (hn : s.hooks.length ≤ 9000 ∧ s.feeds.length ≤ 9000 ∧ s.made.length ≤ 9000) (b n : Int) (hb : 0 ≤ b) (w : World) (hs : BedAt w w.heap.size p s) :
    Calls Tryz.prog 13 #[s.val p, .int .u8 b, .int .i64 n] w fun e w' => onOut s b n w e w' := by
  have HC := Lib.hid (fun (w1 : World) (hb : Below w.heap.size w w1) => bcheck_any s p hwf ⟨by omega, by omega, by omega⟩ w1 ((hs.below hb).more hb.size))
  have HAl := Lib.hid ((Below.refl w.heap.size w).alloc (Nat.le_refl _) (.cells #[.int .i64 s.rack, .slice p.ah s.hooks.length p.ch, .slice p.af s.feeds.length p.cf, .slice p.am s.made.length p.cm] 39))
  have HCS := Lib.hid (bed_box w s p)
  have HN := Lib.hid (fun w => needle_any n w)
  unfold RetB8 at HC
  by_cases he : bedE s = 0
  case neg =>
    have HF : Hid (onR s b n = ([], bedE s)) := by unfold Hid onR; rw [if_pos he]
    have e1 : (bedE s == 0) = false := by simp [he]
    have e2 : (bedE s != 0) = true := by simp [he]
    unfold BedS.val at HC ⊢
    generalize bedE s = x at HC HF e1 e2
    clear hs he
    go_enter Tryz.func13, Tryz.ntmps13
    go_upto_region 1 with fail
    obtain ⟨c0, c1, c2, c3⟩ := HCS.out _ (Below.refl _ _)
    go_wp2_with fail
    refine (HC.out _ HAl.out).mono ?_
    rintro e w1 ⟨rfl, hb1⟩
    have HB1 := Lib.hid (HAl.out.trans (hb1.mono (by simp)))
    clear hb1
    go_wp2
    go_ret2
    exact onOut.nil HF.out HB1.out
  rw [he] at HC
  by_cases hbn : b ≤ 1 ∧ needleP n
  case neg =>
    have HF : Hid (onR s b n = ([], 2)) := by unfold Hid onR; rw [if_neg (by simpa using he), if_pos hbn]
    unfold BedS.val at HC ⊢
    by_cases hb1 : 1 < b
    · clear hs he hbn
      go_enter Tryz.func13, Tryz.ntmps13
      go_upto_region 1 with fail
      obtain ⟨c0, c1, c2, c3⟩ := HCS.out _ (Below.refl _ _)
      go_wp2_with fail
      refine (HC.out _ HAl.out).mono ?_
      rintro e w1 ⟨rfl, hb1⟩
      have HB1 := Lib.hid (HAl.out.trans (hb1.mono (by simp)))
      clear hb1
      go_wp2
      go_ret2
      exact onOut.nil HF.out HB1.out
    · have hnp : ¬ needleP n := fun h => hbn ⟨by omega, h⟩
      rw [decide_eq_false hnp] at HN
      clear hs he hbn hnp
      go_enter Tryz.func13, Tryz.ntmps13
      go_upto_region 1 with fail
      obtain ⟨c0, c1, c2, c3⟩ := HCS.out _ (Below.refl _ _)
      go_wp2_with fail
      refine (HC.out _ HAl.out).mono ?_
      rintro e w1 ⟨rfl, hb1⟩
      have HB1 := Lib.hid (HAl.out.trans (hb1.mono (by simp)))
      clear hb1
      go_wp2_with (go_at_call 37; refine (HN.out _).mono ?_; rintro e w2 ⟨rfl, rfl⟩)
      go_ret2
      exact onOut.nil HF.out HB1.out
  case pos =>
    have HF : Hid (onR s b n = (heldAt s.hooks b n, 0)) := by unfold Hid onR; rw [if_neg (by simpa using he), if_neg (by simpa using hbn)]
    have HCo := Lib.hid (fun (w1 : World) (hb : Below w.heap.size w w1) => copied_any s p hn ⟨fun h hh => (bed_loops he h hh).2, bed_parents he⟩ w1 ((hs.below hb).more hb.size))
    have HTk := Lib.hid (fun (B pb : Nat) (w1 : World) (hBw : B ≤ w1.heap.size) (h : WorkX 90 w1 B pb s []) => take_any B pb s [] (bed_seek he hwf hn.1) b n ⟨hb, hbn.1⟩ hbn.2 w1 hBw h)
    rw [decide_eq_true hbn.2] at HN
    unfold BedS.val at HC HCo ⊢
    have hb1 : ¬ 1 < b := by omega
    clear hs he hbn
    go_enter Tryz.func13, Tryz.ntmps13
    go_upto_region 1 with fail
    obtain ⟨c0, c1, c2, c3⟩ := HCS.out _ (Below.refl _ _)
    go_wp2_with fail
    refine (HC.out _ HAl.out).mono ?_
    rintro e w1 ⟨rfl, hb1⟩
    have HB1 := Lib.hid (HAl.out.trans (hb1.mono (by simp)))
    obtain ⟨d0, d1, d2, d3⟩ := HCS.out w1 (hb1.mono (by simp))
    clear hb1 c0 c1 c2 c3
    go_wp2_with (go_at_call 37; refine (HN.out _).mono ?_; rintro e w2 ⟨rfl, rfl⟩)
    refine (HCo.out _ HB1.out).mono ?_
    rintro e w2 ⟨pb, rfl, hw2, hb2⟩
    have HW2 := Lib.hid hw2
    have HB2 := Lib.hid hb2
    clear hw2 hb2 d0 d1 d2 d3
    go_wp2_with fail
    refine (HTk.out _ _ _ HB2.out.size HW2.out).mono ?_
    rintro e w3 ⟨v, rfl, hw3, hb3⟩
    obtain ⟨A, c, rfl, _, hs3⟩ := rowI_form (hw3.row List.mem_cons_self)
    have HS3 := Lib.hid hs3
    have HB3 := Lib.hid (HB1.out.trans ((HB2.out.trans hb3).mono HB1.out.size))
    clear hw3 hb3 hs3
    go_wp2
    go_ret2
    exact onOut.mk' HF.out HS3.out HB3.out
end Go.Proofs.YtflpikickbellaaGreat
