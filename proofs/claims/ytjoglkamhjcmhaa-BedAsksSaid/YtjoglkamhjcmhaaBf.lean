/- Layer 30: Feed. -/
import Derived.Test.YtjoglkamhjcmhaaBs2
import Derived.Test.YtjoglkamhjcmhaaBd1
import Derived.Test.YtjoglkamhjcmhaaBr0
namespace Go.Proofs.Ytjoglkamhjcmhaa
open Go.RowKit Go.Shelf
set_option maxRecDepth 100000

theorem ris_pair {α : Type} {lt : α → α → Bool} (tr : ∀ a b c, lt a b = true → lt b c = true → lt a c = true) : ∀ {l : List α}, risB lt l = true → l.Pairwise (fun a b => lt a b = true)
  | [], _ => List.Pairwise.nil
  | [a], _ => List.pairwise_singleton _ _
  | a :: b :: t, h => by
    simp only [risB, Bool.and_eq_true] at h
    have ih := ris_pair tr (l := b :: t) h.2
    refine List.Pairwise.cons (fun x hx => ?_) ih
    rcases List.mem_cons.1 hx with rfl | hx
    · exact h.1
    · exact tr _ _ _ h.1 ((List.pairwise_cons.1 ih).1 x hx)
theorem ltF_tr (a b c : Fd) (h1 : ltF a b = true) (h2 : ltF b c = true) : ltF a c = true := by
  unfold ltF at *
  simp only [decide_eq_true_eq] at *
  omega
theorem feeds_mono {l : List Fd} (h : risB ltF l = true) (c : Int) : ∀ i j, i ≤ j → j < l.length → cmpF l c j < 0 → cmpF l c i < 0 := fun i j hij hj hc => by
  rcases Nat.lt_or_eq_of_le hij with e | e
  · have hp := List.pairwise_iff_getElem.1 (ris_pair ltF_tr h) i j (by omega) hj e
    unfold ltF at hp
    have hp2 := of_decide_eq_true hp
    unfold cmpF at hc ⊢
    rw [getF_at (List.getElem?_eq_getElem hj)] at hc
    rw [getF_at (List.getElem?_eq_getElem (show i < l.length by omega))]
    omega
  · subst e; exact hc
/-- The carrier, if it is in. -/
def feedAt (l : List Fd) (c : Int) : Option Fd := l.find? fun f => decide (f.car = c)
theorem found_feed {l : List Fd} {c : Int} (h : risB ltF l = true) {i : Nat} {q : Bool} (hf : Found (cmpF l c) l.length i q) : (q = true → ∃ f, l[i]? = some f ∧ feedAt l c = some f) ∧ (q = false → feedAt l c = none) := by
  constructor
  · rintro rfl
    have h1 := hf.is.symm
    rw [Bool.and_eq_true, decide_eq_true_eq, decide_eq_true_eq] at h1
    have hg : l[i]? = some l[i] := List.getElem?_eq_getElem h1.1
    refine ⟨l[i], hg, ?_⟩
    unfold feedAt
    rw [List.find?_eq_some_iff_getElem]
    have h2 := h1.2
    unfold cmpF at h2
    rw [getF_at hg] at h2
    refine ⟨by simp; omega, i, h1.1, rfl, fun j hj => ?_⟩
    have h3 := hf.lo j hj
    unfold cmpF at h3
    rw [getF_at (List.getElem?_eq_getElem (show j < l.length by omega))] at h3
    simp; omega
  · rintro rfl
    have h1 := hf.is.symm
    unfold feedAt
    rw [List.find?_eq_none]
    intro x hx
    obtain ⟨j, hj, rfl⟩ := List.mem_iff_getElem.1 hx
    have hcj : cmpF l c j = l[j].car - c := by unfold cmpF; rw [getF_at (List.getElem?_eq_getElem hj)]
    rcases Nat.lt_or_ge j i with e | e
    · have := hf.lo j e
      rw [hcj] at this; simp; omega
    · have h2 := hf.hi j e hj
      rw [hcj] at h2
      have hin : i < l.length := by omega
      rw [decide_eq_true hin, Bool.true_and, decide_eq_false_iff_not] at h1
      have hci : cmpF l c i = l[i].car - c := by unfold cmpF; rw [getF_at (List.getElem?_eq_getElem hin)]
      have h3 := hf.hi i (Nat.le_refl _) hin
      rw [hci] at h1 h3
      rcases Nat.lt_or_eq_of_le e with e2 | e2
      · have hp := List.pairwise_iff_getElem.1 (ris_pair ltF_tr h) i j hin hj e2
        unfold ltF at hp
        have hp2 := of_decide_eq_true hp
        simp; omega
      · subst e2; simp; omega
theorem bed_zero {s : BedS} (h : bedE s = 0) : (∀ h ∈ s.hooks, hookOk h = true) ∧ (∀ f ∈ s.feeds, feedOk f = true) ∧ risB ltH s.hooks = true ∧ risB ltF s.feeds = true ∧ s.made.length ≤ 4000 := by
  unfold bedE at h
  cases hb : bedOk s with
  | false => rw [hb] at h; simp at h
  | true =>
    unfold bedOk at hb
    simp only [Bool.and_eq_true] at hb
    exact ⟨List.all_eq_true.1 hb.1.1.1.1.1.2, List.all_eq_true.1 hb.1.1.1.1.2, hb.1.1.2, hb.1.2, (of_decide_eq_true hb.1.1.1.1.1.1).2.2⟩
theorem feed_car {s : BedS} (h : ∀ f ∈ s.feeds, feedOk f = true) : ∀ f ∈ s.feeds, carP f.car := fun f hf => by
  have := h f hf
  unfold feedOk at this
  rw [Bool.and_eq_true] at this
  exact of_decide_eq_true this.1
set_option maxHeartbeats 1000000 in
theorem carrier_any (pb : Nat) (A : Option Addr) (cp : Nat) (l : List Fd) (hn : l.length ≤ 10000) (hk : ∀ h ∈ l, carP h.car) (c : Int) (hc : carP c) (hr : risB ltF l = true) (w : World) (hp : w.cell? ⟨pb, 2, none⟩ = some (.slice A l.length cp)) (hs : SlF w w.heap.size A l) :
    Calls Try.prog 38 #[.pointer (some ⟨pb, 0, none⟩), .int .i64 c] w fun e w' => ∃ (i : Nat) (q : Bool), e = .returned (.tuple #[.int .i64 (i : Int), .bool q]) ∧ Found (cmpF l c) l.length i q ∧ Below w.heap.size w w' := by
  have HB := Lib.hid (bsF_any A cp l hn hk c hc (feeds_mono hr c) w hs)
  clear hs hk hc hr
  go_enter Try.func38, Try.ntmps38
  go_wp2_with (go_at_call 55; refine HB.out.mono ?_; rintro e w1 ⟨i, q, rfl, hf, hb1⟩)
  go_ret2
  exact ⟨i, q, rfl, hf, hb1⟩
def feedR (s : BedS) (c : Int) : Fd × Bool × Int := if bedE s ≠ 0 then (defF, false, bedE s) else if ¬ carP c then (defF, false, 2) else match feedAt s.feeds c with | some f => (f, true, 0) | none => (defF, false, 0)
def feedOut (s : BedS) (c : Int) (w : World) (e : Ending) (w' : World) : Prop := e = .returned (.tuple #[(feedR s c).1.val, .bool (feedR s c).2.1, .int .i64 (feedR s c).2.2]) ∧ Below w.heap.size w w'
theorem feedOut.mk' {s : BedS} {c : Int} {f : Fd} {q : Bool} {x : Int} {w w' : World} (h : feedR s c = (f, q, x)) (hb : Below w.heap.size w w') : feedOut s c w (.returned (.tuple #[f.val, .bool q, .int .i64 x])) w' := ⟨by rw [h], hb⟩
/-- A carrier lies at the head of a block. -/
def FdAt (W : World) (b : Nat) (f : Fd) : Prop := W.cell? ⟨b, 0, none⟩ = some (.int .i64 f.car) ∧ W.cell? ⟨b, 1, none⟩ = some (.bool f.fresh) ∧ W.cell? ⟨b, 2, none⟩ = some (.int .i64 f.place)
theorem FdAt.stored {W : World} {b : Nat} {f g : Fd} (h : FdAt W b g) : FdAt (((W.setCell ⟨b, 0, none⟩ (.int .i64 f.car)).setCell ⟨b, 1, none⟩ (.bool f.fresh)).setCell ⟨b, 2, none⟩ (.int .i64 f.place)) b f := by
  obtain ⟨c0, c1, c2⟩ := h
  exact ⟨set_other (by decide) (set_other (by decide) (set_same c0)), set_other (by decide) (set_same (set_other (by decide) c1)), set_same (set_other (by decide) (set_other (by decide) c2))⟩
theorem feed_close {W : World} {tmps : Array Value} {f : Fd} {q : Bool} {x : Int} {b : Nat} {R : Ending → World → Prop} (hF : FdAt W b f) (h4 : tmps[4]?.getD undef = .pointer (some ⟨b, 0, none⟩)) (h5 : tmps[5]?.getD undef = .bool q) (h6 : tmps[6]?.getD undef = .int .i64 x) (hR : R (.returned (.tuple #[f.val, .bool q, .int .i64 x])) W) :
    bodyPost Try.prog Try.f15 R .ret { tmps := tmps, defers := [] } W := by
  obtain ⟨c0, c1, c2⟩ := hF
  refine bodyPost_ret (v := .tuple #[f.val, .bool q, .int .i64 x]) ?_ rfl hR
  simp [results, Try.results15, go_sem, h4, h5, h6, c0, c1, c2, Fd.val]
theorem feed_stores {B : Nat} {a W : World} (h : Below B a W) {b : Nat} (hb : B ≤ b) (f : Fd) : Below B a (((W.setCell ⟨b, 0, none⟩ (.int .i64 f.car)).setCell ⟨b, 1, none⟩ (.bool f.fresh)).setCell ⟨b, 2, none⟩ (.int .i64 f.place)) :=
  ((h.setCell (p := ⟨b, 0, none⟩) hb _).setCell (p := ⟨b, 1, none⟩) hb _).setCell (p := ⟨b, 2, none⟩) hb _
set_option maxHeartbeats 4000000 in
theorem feed_any (s : BedS) (p : BedP) (hwf : s.wf) (hn : s.hooks.length ≤ 10000 ∧ s.feeds.length ≤ 10000 ∧ s.made.length ≤ 10000) (c : Int) (w : World) (hs : BedAt w w.heap.size p s) :
    Calls Try.prog 15 #[s.val p, .int .i64 c] w fun e w' => feedOut s c w e w' := by
  have HC := Lib.hid (fun (w1 : World) (hb : Below w.heap.size w w1) => bcheck_any s p hwf hn w1 ((hs.below hb).more hb.size))
  unfold BedS.val at HC ⊢
  have al : ∀ (W : World) (o : Obj), Below W.heap.size W (W.alloc o) := fun W o => (Below.refl _ W).alloc (Nat.le_refl _) o
  have hb02 : ∀ o o2, Below w.heap.size w ((w.alloc o).alloc o2) := fun o o2 => (al w o).alloc (by simp) o2
  have hfacts : ∀ W, Below (w.heap.size + 2) ((w.alloc (.cells #[.int .i64 s.rack, .slice p.ah s.hooks.length p.ch, .slice p.af s.feeds.length p.cf, .slice p.am s.made.length p.cm] 26)).alloc (.cells #[.int .i64 0, .bool false, .int .i64 0] 35)) W →
      FdAt W (w.heap.size + 1) defF ∧ (∀ k, W.frozen? ⟨w.heap.size + 1, k, none⟩ = false) ∧ W.cell? ⟨w.heap.size, 0, none⟩ = some (.int .i64 s.rack) ∧ W.cell? ⟨w.heap.size, 1, none⟩ = some (.slice p.ah s.hooks.length p.ch) ∧ W.cell? ⟨w.heap.size, 2, none⟩ = some (.slice p.af s.feeds.length p.cf) ∧ W.cell? ⟨w.heap.size, 3, none⟩ = some (.slice p.am s.made.length p.cm) := fun W hb => by
    have hbx : Below (w.heap.size + 1) (w.alloc (.cells #[.int .i64 s.rack, .slice p.ah s.hooks.length p.ch, .slice p.af s.feeds.length p.cf, .slice p.am s.made.length p.cm] 26)) W := ((Below.refl _ _).alloc (by simp) _).trans (hb.mono (by omega))
    refine ⟨⟨(bcell hb (by omega) _).trans (cell_new rfl (by simp) rfl), (bcell hb (by omega) _).trans (cell_new rfl (by simp) rfl), (bcell hb (by omega) _).trans (cell_new rfl (by simp) rfl)⟩, fun k => (Below.frozen hb (p := ⟨w.heap.size + 1, k, none⟩) (by show w.heap.size + 1 < _; omega)).trans (thawed_new' _ _ _ k (by simp)), bed_box w s p W hbx⟩
  have HFa := Lib.hid hfacts
  have HB2 := Lib.hid hb02
  clear hfacts hb02 al
  by_cases he : bedE s = 0
  case neg =>
    have HF : Hid (feedR s c = (defF, false, bedE s)) := by unfold Hid feedR; rw [if_pos he]
    have e1 : (bedE s == 0) = false := by simp [he]
    have e2 : (bedE s != 0) = true := by simp [he]
    unfold RetB8 at HC
    generalize bedE s = x at HC HF e1 e2
    clear hs he
    go_enter Try.func15, Try.ntmps15
    go_wp2_with fail
    refine (HC.out _ (HB2.out _ _)).mono ?_
    rintro e w1 ⟨rfl, hb1⟩
    obtain ⟨hfd, hfr, b0, b1, b2, b3⟩ := HFa.out w1 (hb1.mono (by simp))
    have HFd := Lib.hid hfd
    obtain ⟨f0, f1, f2⟩ := hfd
    have HB1 := Lib.hid ((HB2.out _ _).trans (hb1.mono (by simp; omega)))
    clear hb1
    go_wp2
    exact feed_close (FdAt.stored (f := defF) HFd.out) rfl rfl rfl (feedOut.mk' HF.out (feed_stores HB1.out (by omega) defF))
  case pos =>
    have hz := bed_zero he
    have hcar := feed_car hz.2.1
    unfold RetB8 at HC
    rw [he] at HC
    by_cases hc : carP c
    case neg =>
      have HF : Hid (feedR s c = (defF, false, 2)) := by unfold Hid feedR; rw [if_neg (by simpa using he), if_pos hc]
      unfold carP at hc
      clear hs he hz hcar
      by_cases c1 : c < 1
      all_goals
        first | (have c2 : 6 < c := by omega) | skip
        clear hc
        go_enter Try.func15, Try.ntmps15
        go_wp2_with fail
        refine (HC.out _ (HB2.out _ _)).mono ?_
        rintro e w1 ⟨rfl, hb1⟩
        obtain ⟨hfd, hfr, b0, b1, b2, b3⟩ := HFa.out w1 (hb1.mono (by simp))
        have HFd := Lib.hid hfd
        obtain ⟨f0, f1, f2⟩ := hfd
        have HB1 := Lib.hid ((HB2.out _ _).trans (hb1.mono (by simp; omega)))
        clear hb1
        go_wp2
        exact feed_close (FdAt.stored (f := defF) HFd.out) rfl rfl rfl (feedOut.mk' HF.out (feed_stores HB1.out (by omega) defF))
    case pos =>
      have HF : Hid (feedR s c = match feedAt s.feeds c with | some f => (f, true, 0) | none => (defF, false, 0)) := by unfold Hid feedR; rw [if_neg (by simpa using he), if_neg (by simpa using hc)]
      have HS := Lib.hid hs
      have HCa := Lib.hid (fun (pb : Nat) (W : World) (hb : Below w.heap.size w W) (hp : W.cell? ⟨pb, 2, none⟩ = some (.slice p.af s.feeds.length p.cf)) => carrier_any pb p.af p.cf s.feeds hn.2.1 hcar c hc hz.2.2.2.1 W hp ((hs.feeds.below hb).more hb.size))
      have HR := Lib.hid hz.2.2.2.1
      have c1 : ¬ c < 1 := by unfold carP at hc; omega
      have c2 : ¬ 6 < c := by unfold carP at hc; omega
      clear hs he hz hcar hc
      go_enter Try.func15, Try.ntmps15
      go_wp2_with fail
      refine (HC.out _ (HB2.out _ _)).mono ?_
      rintro e w1 ⟨rfl, hb1⟩
      obtain ⟨-, -, b0, b1, b2, b3⟩ := HFa.out w1 (hb1.mono (by simp))
      have HB1 := Lib.hid hb1
      clear hb1
      go_wp2_with fail
      have hbw : ∀ o, Below w.heap.size w (w1.alloc o) := fun o => ((HB2.out _ _).trans (HB1.out.mono (by simp; omega))).alloc (by have := HB1.out.size; simp at this; omega) o
      refine (HCa.out _ _ (hbw _) (cell_new rfl rfl rfl)).mono ?_
      rintro e w2 ⟨i, q, rfl, hfo, hb2⟩
      have hb12 : Below (w.heap.size + 2) ((w.alloc (.cells #[.int .i64 s.rack, .slice p.ah s.hooks.length p.ch, .slice p.af s.feeds.length p.cf, .slice p.am s.made.length p.cm] 26)).alloc (.cells #[.int .i64 0, .bool false, .int .i64 0] 35)) w2 := (HB1.out.mono (by simp)).trans (((Below.refl _ w1).alloc (by have := HB1.out.size; simp at this; omega) _).trans (hb2.mono (by have := HB1.out.size; simp at this; simp; omega)))
      have hb02 : Below w.heap.size w w2 := (hbw _).trans (hb2.mono (by have := HB1.out.size; simp at this; simp; omega))
      obtain ⟨hfd, hfr, d0, d1, d2, d3⟩ := HFa.out w2 hb12
      have HFd := Lib.hid hfd
      obtain ⟨f0, f1, f2⟩ := hfd
      have HB02 := Lib.hid hb02
      have HFo := Lib.hid (found_feed HR.out hfo)
      have hil := hfo.le
      clear hbw hb2 hb12 hb02 b0 b1 b2 b3 hfo
      cases q with
      | false =>
        have HG : Hid (feedR s c = (defF, false, 0)) := by unfold Hid; rw [HF.out, HFo.out.2 rfl]
        clear HF HFo
        go_wp2
        exact feed_close (FdAt.stored (f := defF) HFd.out) rfl rfl rfl (feedOut.mk' HG.out (feed_stores HB02.out (by omega) defF))
      | true =>
        obtain ⟨f, hfi, hfa⟩ := HFo.out.1 rfl
        have HG : Hid (feedR s c = (f, true, 0)) := by unfold Hid; rw [HF.out, hfa]
        have hlt : i < s.feeds.length := (List.getElem?_eq_some_iff.1 hfi).1
        obtain ⟨b, off, f', hA, hB, hr, q0, q1, q2⟩ := HS.out.feeds.at_ hlt
        rw [hfi] at hr
        obtain rfl : f = f' := by simpa using hr
        have g0 := (bcell HB02.out hB _).trans q0
        have g1 := (bcell HB02.out hB _).trans q1
        have g2 := (bcell HB02.out hB _).trans q2
        rw [hA] at d2
        clear HF HFo hfi hfa q0 q1 q2 hr hA
        go_wp2
        exact feed_close (FdAt.stored (f := f) HFd.out) rfl rfl rfl (feedOut.mk' HG.out (feed_stores HB02.out (by omega) f))
end Go.Proofs.Ytjoglkamhjcmhaa
