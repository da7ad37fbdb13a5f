/- The reference's layer 30: Great, in, Has, Held. Layer 30: Feed. The reference's layer 30: Held. Layer 30: what an instruction does, plain. -/
import Derived.Test.YtbnddpknejgmhaaGreatKP2
import Derived.Test.YtbnddpknejgmhaaGreatKP1
import Derived.Test.YtbnddpknejgmhaaGreatKP4
import Derived.Test.YtbnddpknejgmhaaGreatKP3
import Derived.Test.YtbnddpknejgmhaaGreatKP5
namespace Go.Proofs.YtbnddpknejgmhaaGreat
open Go.RowKit Go.Shelf
set_option maxRecDepth 100000

/-- The box of a state. -/
theorem bed_box (w : World) (s : BedS) (p : BedP) (w1 : World) (hb : Below (w.heap.size + 1) (w.alloc (.cells #[.int .i64 s.rack, .slice p.ah s.hooks.length p.ch, .slice p.af s.feeds.length p.cf, .slice p.am s.made.length p.cm] 39)) w1) :
    w1.cell? ⟨w.heap.size, 0, none⟩ = some (.int .i64 s.rack) ∧ w1.cell? ⟨w.heap.size, 1, none⟩ = some (.slice p.ah s.hooks.length p.ch) ∧ w1.cell? ⟨w.heap.size, 2, none⟩ = some (.slice p.af s.feeds.length p.cf) ∧ w1.cell? ⟨w.heap.size, 3, none⟩ = some (.slice p.am s.made.length p.cm) :=
  ⟨(bcell hb (by omega) _).trans (cell_new rfl rfl rfl), (bcell hb (by omega) _).trans (cell_new rfl rfl rfl), (bcell hb (by omega) _).trans (cell_new rfl rfl rfl), (bcell hb (by omega) _).trans (cell_new rfl rfl rfl)⟩
set_option maxHeartbeats 1000000 in
theorem rhas_any (A : Option Addr) (cap : Nat) (l : List Int) (x : Int) (hn : l.length ≤ 1000000) (w : World) (hs : SlI w w.heap.size A l) :
    Calls Tryz.prog 34 #[.slice A l.length cap, .int .i64 x] w fun e w' => e = .returned (.bool (l.any fun y => decide (y = x))) ∧ w = w' := by
  go_enter Tryz.func34, Tryz.ntmps34
  go_wp2
  go_loopw [5] (fun s5 wr => ∃ k : Nat, k ≤ l.length ∧ s5 = .int .i64 k ∧ Hid (∀ y ∈ l.take k, decide (y = x) = false) ∧ w = wr) (fun s5 _ => l.length - (intOf s5).toNat)
  case atStart => exact ⟨0, Nat.zero_le _, rfl, (fun r hr => by simp at hr), rfl⟩
  case round =>
    obtain ⟨k, hk, rfl, H, rfl⟩ := hrel
    by_cases hlt : k < l.length
    · obtain ⟨b, off, y, rfl, hB, hr, hc⟩ := hs.at_ hlt
      have HR := Lib.hid hr
      clear hs hr
      by_cases he : y = x
      · have HF : Hid ((l.any fun y => decide (y = x)) = true) := List.any_eq_true.2 ⟨y, List.mem_of_getElem? HR.out, decide_eq_true he⟩
        have e1 : (y == x) = true := by simp [he]
        clear H he
        go_wp2
        go_ret
        exact ⟨ret_bool HF.out.symm, rfl⟩
      · have HQ : Hid (∀ z ∈ l.take (k + 1), decide (z = x) = false) := fun z hz => by
          obtain ⟨hk', e⟩ := List.getElem?_eq_some_iff.1 HR.out
          rw [List.take_succ_eq_append_getElem hk', e] at hz
          rcases List.mem_append.1 hz with h | h
          · exact H.out z h
          · rw [List.mem_singleton.1 h]; exact decide_eq_false he
        have e1 : (y == x) = false := by simp [he]
        clear H he
        go_wp2
        go_roundw
        case rel => exact ⟨k + 1, by omega, by go_num, HQ, by first | rfl | trivial⟩
        case measure => simp [intOf]; omega
    · have HF : Hid ((l.any fun y => decide (y = x)) = false) := by
        unfold Hid
        rw [List.any_eq_false]
        intro z hz
        have := H.out z (by rw [List.take_of_length_le (by omega)]; exact hz)
        simp [this]
      clear H hs
      go_wp2
      go_ret
      exact ⟨ret_bool HF.out.symm, rfl⟩
end Go.Proofs.YtbnddpknejgmhaaGreat
namespace Go.Proofs.YtbnddpknejgmhaaGreat
open Go.RowKit Go.Shelf
set_option maxRecDepth 100000

theorem ris_pair {α : Type} {lt : α → α → Bool} (tr : ∀ a b c, lt a b = true → lt b c = true → lt a c = true) : ∀ {l : List α}, risB lt l = true → l.Pairwise (fun a b => lt a b = true)
  | [], _ => List.Pairwise.nil
  | [a], _ => List.pairwise_singleton _ _
  | a :: b :: t, h => by
    simp only [risB, Bool.and_eq_true] at h
    have ih := ris_pair tr (l := b :: t) h.2
    refine List.Pairwise.cons (fun x hx => ?_) ih
    rcases List.mem_cons.1 hx with rfl | hx
    · exact h.1
    · exact tr _ _ _ h.1 ((List.pairwise_cons.1 ih).1 x hx)
theorem ltF_tr (a b c : Fd) (h1 : ltF a b = true) (h2 : ltF b c = true) : ltF a c = true := by
  unfold ltF at *
  simp only [decide_eq_true_eq] at *
  omega
theorem feeds_mono {l : List Fd} (h : risB ltF l = true) (c : Int) : ∀ i j, i ≤ j → j < l.length → cmpF l c j < 0 → cmpF l c i < 0 := fun i j hij hj hc => by
  rcases Nat.lt_or_eq_of_le hij with e | e
  · have hp := List.pairwise_iff_getElem.1 (ris_pair ltF_tr h) i j (by omega) hj e
    unfold ltF at hp
    have hp2 := of_decide_eq_true hp
    unfold cmpF at hc ⊢
    rw [getF_at (List.getElem?_eq_getElem hj)] at hc
    rw [getF_at (List.getElem?_eq_getElem (show i < l.length by omega))]
    omega
  · subst e; exact hc
/-- The carrier, if it is in. -/
def feedAt (l : List Fd) (c : Int) : Option Fd := l.find? fun f => decide (f.car = c)
theorem found_feed {l : List Fd} {c : Int} (h : risB ltF l = true) {i : Nat} {q : Bool} (hf : Found (cmpF l c) l.length i q) : (q = true → ∃ f, l[i]? = some f ∧ feedAt l c = some f) ∧ (q = false → feedAt l c = none) := by
  constructor
  · rintro rfl
    have h1 := hf.is.symm
    rw [Bool.and_eq_true, decide_eq_true_eq, decide_eq_true_eq] at h1
    have hg : l[i]? = some l[i] := List.getElem?_eq_getElem h1.1
    refine ⟨l[i], hg, ?_⟩
    unfold feedAt
    rw [List.find?_eq_some_iff_getElem]
    have h2 := h1.2
    unfold cmpF at h2
    rw [getF_at hg] at h2
    refine ⟨by simp; omega, i, h1.1, rfl, fun j hj => ?_⟩
    have h3 := hf.lo j hj
    unfold cmpF at h3
    rw [getF_at (List.getElem?_eq_getElem (show j < l.length by omega))] at h3
    simp; omega
  · rintro rfl
    have h1 := hf.is.symm
    unfold feedAt
    rw [List.find?_eq_none]
    intro x hx
    obtain ⟨j, hj, rfl⟩ := List.mem_iff_getElem.1 hx
    have hcj : cmpF l c j = l[j].car - c := by unfold cmpF; rw [getF_at (List.getElem?_eq_getElem hj)]
    rcases Nat.lt_or_ge j i with e | e
    · have := hf.lo j e
      rw [hcj] at this; simp; omega
    · have h2 := hf.hi j e hj
      rw [hcj] at h2
      have hin : i < l.length := by omega
      rw [decide_eq_true hin, Bool.true_and, decide_eq_false_iff_not] at h1
      have hci : cmpF l c i = l[i].car - c := by unfold cmpF; rw [getF_at (List.getElem?_eq_getElem hin)]
      have h3 := hf.hi i (Nat.le_refl _) hin
      rw [hci] at h1 h3
      rcases Nat.lt_or_eq_of_le e with e2 | e2
      · have hp := List.pairwise_iff_getElem.1 (ris_pair ltF_tr h) i j hin hj e2
        unfold ltF at hp
        have hp2 := of_decide_eq_true hp
        simp; omega
      · subst e2; simp; omega
theorem bed_zero {s : BedS} (h : bedE s = 0) : (∀ h ∈ s.hooks, hookOk h = true) ∧ (∀ f ∈ s.feeds, feedOk f = true) ∧ risB ltH s.hooks = true ∧ risB ltF s.feeds = true ∧ s.made.length ≤ 4000 := by
  unfold bedE at h
  cases hb : bedOk s with
  | false => rw [hb] at h; simp at h
  | true =>
    unfold bedOk at hb
    simp only [Bool.and_eq_true] at hb
    exact ⟨List.all_eq_true.1 hb.1.1.1.1.1.2, List.all_eq_true.1 hb.1.1.1.1.2, hb.1.1.2, hb.1.2, (of_decide_eq_true hb.1.1.1.1.1.1).2.2⟩
theorem feed_car {s : BedS} (h : ∀ f ∈ s.feeds, feedOk f = true) : ∀ f ∈ s.feeds, carP f.car := fun f hf => by
  have := h f hf
  unfold feedOk at this
  rw [Bool.and_eq_true] at this
  exact of_decide_eq_true this.1
set_option maxHeartbeats 1000000 in
theorem carrier_any (pb : Nat) (A : Option Addr) (cp : Nat) (l : List Fd) (hn : l.length ≤ 10000) (hk : ∀ h ∈ l, carP h.car) (c : Int) (hc : carP c) (hr : risB ltF l = true) (w : World) (hp : w.cell? ⟨pb, 2, none⟩ = some (.slice A l.length cp)) (hs : SlF w w.heap.size A l) :
    Calls Tryz.prog 94 #[.pointer (some ⟨pb, 0, none⟩), .int .i64 c] w fun e w' => ∃ (i : Nat) (q : Bool), e = .returned (.tuple #[.int .i64 (i : Int), .bool q]) ∧ Found (cmpF l c) l.length i q ∧ Below w.heap.size w w' := by
  have HB := Lib.hid (bsF_any A cp l hn hk c hc (feeds_mono hr c) w hs)
  clear hs hk hc hr
  go_enter Tryz.func94, Tryz.ntmps94
  go_wp2_with (go_at_call 115; refine HB.out.mono ?_; rintro e w1 ⟨i, q, rfl, hf, hb1⟩)
  go_ret2
  exact ⟨i, q, rfl, hf, hb1⟩
def feedR (s : BedS) (c : Int) : Fd × Bool × Int := if bedE s ≠ 0 then (defF, false, bedE s) else if ¬ carP c then (defF, false, 2) else match feedAt s.feeds c with | some f => (f, true, 0) | none => (defF, false, 0)
def feedOut (s : BedS) (c : Int) (w : World) (e : Ending) (w' : World) : Prop := e = .returned (.tuple #[(feedR s c).1.val, .bool (feedR s c).2.1, .int .i64 (feedR s c).2.2]) ∧ Below w.heap.size w w'
theorem feedOut.mk' {s : BedS} {c : Int} {f : Fd} {q : Bool} {x : Int} {w w' : World} (h : feedR s c = (f, q, x)) (hb : Below w.heap.size w w') : feedOut s c w (.returned (.tuple #[f.val, .bool q, .int .i64 x])) w' := ⟨by rw [h], hb⟩
/-- A carrier lies at the head of a block. -/
def FdAt (W : World) (b : Nat) (f : Fd) : Prop := W.cell? ⟨b, 0, none⟩ = some (.int .i64 f.car) ∧ W.cell? ⟨b, 1, none⟩ = some (.bool f.fresh) ∧ W.cell? ⟨b, 2, none⟩ = some (.int .i64 f.place)
theorem FdAt.stored {W : World} {b : Nat} {f g : Fd} (h : FdAt W b g) : FdAt (((W.setCell ⟨b, 0, none⟩ (.int .i64 f.car)).setCell ⟨b, 1, none⟩ (.bool f.fresh)).setCell ⟨b, 2, none⟩ (.int .i64 f.place)) b f := by
  obtain ⟨c0, c1, c2⟩ := h
  exact ⟨set_other (by decide) (set_other (by decide) (set_same c0)), set_other (by decide) (set_same (set_other (by decide) c1)), set_same (set_other (by decide) (set_other (by decide) c2))⟩
theorem feed_stores {B : Nat} {a W : World} (h : Below B a W) {b : Nat} (hb : B ≤ b) (f : Fd) : Below B a (((W.setCell ⟨b, 0, none⟩ (.int .i64 f.car)).setCell ⟨b, 1, none⟩ (.bool f.fresh)).setCell ⟨b, 2, none⟩ (.int .i64 f.place)) :=
  ((h.setCell (p := ⟨b, 0, none⟩) hb _).setCell (p := ⟨b, 1, none⟩) hb _).setCell (p := ⟨b, 2, none⟩) hb _
end Go.Proofs.YtbnddpknejgmhaaGreat
namespace Go.Proofs.YtbnddpknejgmhaaGreat
open Go.RowKit Go.Shelf
set_option maxRecDepth 100000

def hkAt (b n : Int) (h : Hk) : Bool := decide (h.bed = b ∧ h.at_ = n)
/-- The loops of a needle. -/
def heldAt (l : List Hk) (b n : Int) : List Int := match l.find? (hkAt b n) with | some h => h.loops | none => []
theorem heldAt_hit {l : List Hk} {b n : Int} {k : Nat} {h : Hk} (hr : l[k]? = some h) (hm : hkAt b n h = true) (hn : ∀ j y, j < k → l[j]? = some y → hkAt b n y = false) : heldAt l b n = h.loops := by
  have hf : l.find? (hkAt b n) = some h := by
    obtain ⟨hk, e⟩ := List.getElem?_eq_some_iff.1 hr
    rw [List.find?_eq_some_iff_getElem]
    refine ⟨hm, k, hk, e, fun j hj => ?_⟩
    have := hn j (l[j]'(by omega)) hj (List.getElem?_eq_getElem _)
    simp [this]
  unfold heldAt; rw [hf]
theorem heldAt_none {l : List Hk} {b n : Int} (hn : ∀ y ∈ l, hkAt b n y = false) : heldAt l b n = [] := by
  have hf : l.find? (hkAt b n) = none := List.find?_eq_none.2 fun x hx => by simp [hn x hx]
  unfold heldAt; rw [hf]
def intsOut (l : List Int) (w : World) (e : Ending) (w' : World) : Prop := ∃ A c, e = .returned (.slice A l.length c) ∧ SlI w' w'.heap.size A l ∧ Below w.heap.size w w'
end Go.Proofs.YtbnddpknejgmhaaGreat
namespace Go.Proofs.YtbnddpknejgmhaaGreat
open Go.RowKit
set_option maxRecDepth 100000

/-! ### lists that are sorted by a key: what lies before and behind a target -/
def Mono {α : Type} (f : α → Int) (l : List α) : Prop := l.Pairwise fun a b => f b ≤ 0 → f a < 0
def loF {α : Type} (f : α → Int) (l : List α) : List α := l.filter fun x => decide (f x < 0)
def hiF {α : Type} (f : α → Int) (l : List α) : List α := l.filter fun x => decide (0 < f x)
/-- The list with what is at the target replaced. -/
def setF {α : Type} (f : α → Int) (xs l : List α) : List α := loF f l ++ (xs ++ hiF f l)
theorem loF_app {α : Type} (f : α → Int) (a b : List α) : loF f (a ++ b) = loF f a ++ loF f b := List.filter_append ..
theorem hiF_app {α : Type} (f : α → Int) (a b : List α) : hiF f (a ++ b) = hiF f a ++ hiF f b := List.filter_append ..
theorem loF_all {α : Type} {f : α → Int} {l : List α} (h : ∀ x ∈ l, f x < 0) : loF f l = l := List.filter_eq_self.2 fun x hx => by simpa using h x hx
theorem hiF_all {α : Type} {f : α → Int} {l : List α} (h : ∀ x ∈ l, 0 < f x) : hiF f l = l := List.filter_eq_self.2 fun x hx => by simpa using h x hx
theorem loF_none {α : Type} {f : α → Int} {l : List α} (h : ∀ x ∈ l, 0 ≤ f x) : loF f l = [] := List.filter_eq_nil_iff.2 fun x hx => by have := h x hx; simp; omega
theorem hiF_none {α : Type} {f : α → Int} {l : List α} (h : ∀ x ∈ l, f x ≤ 0) : hiF f l = [] := List.filter_eq_nil_iff.2 fun x hx => by have := h x hx; simp; omega
theorem Mono.at_ {α : Type} {f : α → Int} {l : List α} (h : Mono f l) {i j : Nat} {a b : α} (ha : l[i]? = some a) (hb : l[j]? = some b) (hij : i < j) (hz : f b ≤ 0) : f a < 0 := by
  obtain ⟨hi, rfl⟩ := List.getElem?_eq_some_iff.1 ha
  obtain ⟨hj, rfl⟩ := List.getElem?_eq_some_iff.1 hb
  exact List.pairwise_iff_getElem.1 h i j hi hj hij hz
theorem mem_take_at {α : Type} {l : List α} {i : Nat} {x : α} (h : x ∈ l.take i) : ∃ j, j < i ∧ l[j]? = some x := by
  obtain ⟨j, hj⟩ := List.mem_iff_getElem?.1 h
  rw [List.getElem?_take] at hj
  split at hj
  · exact ⟨j, by assumption, hj⟩
  · cases hj
theorem mem_drop_at {α : Type} {l : List α} {i : Nat} {x : α} (h : x ∈ l.drop i) : ∃ j, i ≤ j ∧ l[j]? = some x := by
  obtain ⟨j, hj⟩ := List.mem_iff_getElem?.1 h
  rw [List.getElem?_drop] at hj
  exact ⟨i + j, by omega, hj⟩
/-- What a binary search over a sorted list has found. -/
theorem found_split {α : Type} {f : α → Int} {l : List α} {d : α} (hm : Mono f l) {i : Nat} {q : Bool} (hf : Found (fun j => f (l.getD j d)) l.length i q) :
    loF f l = l.take i ∧ (q = true → (∃ h, l[i]? = some h ∧ f h = 0) ∧ hiF f l = l.drop (i + 1)) ∧ (q = false → hiF f l = l.drop i ∧ ∀ x ∈ l, f x ≠ 0) := by
  have gd : ∀ {j x}, l[j]? = some x → l.getD j d = x := fun h => by rw [List.getD, h]; rfl
  have hlo : ∀ {j x}, l[j]? = some x → j < i → f x < 0 := fun h hj => by have := hf.lo _ hj; rwa [gd h] at this
  have hhi : ∀ {j x}, l[j]? = some x → i ≤ j → 0 ≤ f x := fun h hj => by have := hf.hi _ hj (List.getElem?_eq_some_iff.1 h).1; rwa [gd h] at this
  have e : l = l.take i ++ l.drop i := (List.take_append_drop i l).symm
  have ht : ∀ x ∈ l.take i, f x < 0 := fun x hx => by
    obtain ⟨j, hj, hx⟩ := mem_take_at hx
    exact hlo hx hj
  have hd : ∀ x ∈ l.drop i, 0 ≤ f x := fun x hx => by
    obtain ⟨j, hj, hx⟩ := mem_drop_at hx
    exact hhi hx hj
  have e1 : loF f l = l.take i := by
    conv => lhs; rw [e]
    rw [loF_app, loF_all ht, loF_none hd, List.append_nil]
  have e2 : hiF f l = hiF f (l.drop i) := by
    conv => lhs; rw [e]
    rw [hiF_app, hiF_none (fun x hx => by have := ht x hx; omega), List.nil_append]
  refine ⟨e1, fun hq => ?_, fun hq => ?_⟩
  · have h1 := hf.is
    rw [hq] at h1
    have h2 := h1.symm
    rw [Bool.and_eq_true, decide_eq_true_eq, decide_eq_true_eq] at h2
    have hg : l[i]? = some l[i] := List.getElem?_eq_getElem h2.1
    have hz : f l[i] = 0 := by have := h2.2; rwa [gd hg] at this
    refine ⟨⟨_, hg, hz⟩, ?_⟩
    rw [e2, List.drop_eq_getElem_cons h2.1]
    have e3 : hiF f (l[i] :: l.drop (i + 1)) = hiF f (l.drop (i + 1)) := by unfold hiF; rw [List.filter_cons, if_neg (by simp; omega)]
    rw [e3]
    refine hiF_all fun x hx => ?_
    obtain ⟨j, hj, hx⟩ := mem_drop_at hx
    rcases Int.lt_or_le 0 (f x) with h | h
    · exact h
    · have := hm.at_ hg hx (by omega) h
      omega
  · have h1 := hf.is
    rw [hq] at h1
    have h2 := h1.symm
    have hne : ∀ x ∈ l, f x ≠ 0 := fun x hx hz => by
      obtain ⟨j, hj⟩ := List.mem_iff_getElem?.1 hx
      have hl := (List.getElem?_eq_some_iff.1 hj).1
      rcases Nat.lt_or_ge j i with hji | hji
      · have := hlo hj hji; omega
      · have hil : i < l.length := by omega
        have hg : l[i]? = some l[i] := List.getElem?_eq_getElem hil
        rw [decide_eq_true hil, Bool.true_and, decide_eq_false_iff_not] at h2
        rw [gd hg] at h2
        rcases Nat.lt_or_eq_of_le hji with hji | rfl
        · have := hm.at_ hg hj hji (by omega)
          have := hhi hg (Nat.le_refl _)
          omega
        · rw [hj] at hg; cases hg; exact h2 hz
    refine ⟨?_, hne⟩
    rw [e2]
    refine hiF_all fun x hx => ?_
    have h3 := hd x hx
    have h4 := hne x (List.mem_of_mem_drop hx)
    omega
theorem Mono.sub {α : Type} {f : α → Int} {l l' : List α} (h : Mono f l) (hs : l'.Sublist l) : Mono f l' := List.Pairwise.sublist hs h
theorem Mono.filter {α : Type} {f : α → Int} {l : List α} (h : Mono f l) (p : α → Bool) : Mono f (l.filter p) := h.sub List.filter_sublist
theorem loF_lo {α : Type} {f : α → Int} {x : α} {l : List α} (h : x ∈ loF f l) : f x < 0 := by simpa using (List.mem_filter.1 h).2
theorem hiF_hi {α : Type} {f : α → Int} {x : α} {l : List α} (h : x ∈ hiF f l) : 0 < f x := by simpa using (List.mem_filter.1 h).2
theorem loF_loF {α : Type} (f : α → Int) (l : List α) : loF f (loF f l) = loF f l := loF_all fun _ h => loF_lo h
theorem hiF_hiF {α : Type} (f : α → Int) (l : List α) : hiF f (hiF f l) = hiF f l := hiF_all fun _ h => hiF_hi h
theorem loF_hiF {α : Type} (f : α → Int) (l : List α) : loF f (hiF f l) = [] := loF_none fun x h => by have := hiF_hi h; omega
theorem hiF_loF {α : Type} (f : α → Int) (l : List α) : hiF f (loF f l) = [] := hiF_none fun x h => by have := loF_lo h; omega
theorem loF_set {α : Type} (f : α → Int) (l : List α) : loF f (setF f [] l) = loF f l := by unfold setF; rw [List.nil_append, loF_app, loF_loF, loF_hiF, List.append_nil]
theorem hiF_set {α : Type} (f : α → Int) (l : List α) : hiF f (setF f [] l) = hiF f l := by unfold setF; rw [List.nil_append, hiF_app, hiF_hiF, hiF_loF, List.nil_append]

/-! ### the needle (b, n), the carrier c -/
def keyH (b n : Int) (h : Hk) : Int := placeI h ⟨b, n, []⟩
def keyF (c : Int) (f : Fd) : Int := f.car - c
theorem key_hk (b n : Int) (h : Hk) : hkAt b n h = decide (keyH b n h = 0) := by
  unfold hkAt keyH placeI
  rw [Bool.eq_iff_iff, decide_eq_true_iff, decide_eq_true_iff]
  by_cases e : h.bed = b
  · simp [e]; omega
  · rw [if_neg (by simpa using e)]; simp only []; constructor
    · intro h1; exact absurd h1.1 e
    · intro h1; exact absurd (by omega) e
theorem ltH_tr (a b c : Hk) (h1 : ltH a b = true) (h2 : ltH b c = true) : ltH a c = true := by
  unfold ltH at *
  simp only [decide_eq_true_eq] at *
  omega
theorem monoH {l : List Hk} (h : risB ltH l = true) (b n : Int) : Mono (keyH b n) l := by
  refine (ris_pair ltH_tr h).imp fun {x y} hxy => ?_
  unfold ltH at hxy
  have hxy := of_decide_eq_true hxy
  unfold keyH placeI
  intro hz
  simp only at hz ⊢
  split at hz <;> split <;> omega
theorem monoF {l : List Fd} (h : risB ltF l = true) (c : Int) : Mono (keyF c) l := by
  refine (ris_pair ltF_tr h).imp fun {x y} hxy => ?_
  unfold ltF at hxy
  have hxy := of_decide_eq_true hxy
  unfold keyF
  omega
theorem held_of {l : List Hk} {b n : Int} {i : Nat} {h : Hk} (hm : Mono (keyH b n) l) (hi : l[i]? = some h) (hz : keyH b n h = 0) : heldAt l b n = h.loops :=
  heldAt_hit hi (by rw [key_hk, hz]; rfl) fun j y hj hy => by
    have := hm.at_ hy hi hj (by omega)
    rw [key_hk]; exact decide_eq_false (by omega)
theorem held_none {l : List Hk} {b n : Int} (h : ∀ x ∈ l, keyH b n x ≠ 0) : heldAt l b n = [] := heldAt_none fun y hy => by rw [key_hk]; exact decide_eq_false (h y hy)

/-! ### what an instruction does -/
def putAt (l : List Hk) (b n : Int) (ls : List Int) : List Hk := setF (keyH b n) (if ls = [] then [] else [⟨b, n, ls⟩]) l
def colI (r b n : Int) : Int := n + b * r
def wayI (i : Ins) : Int := if i.right then 1 else -1
/-- A carrier passes a needle. -/
def passS (s : BedS) (i : Ins) : Option BedS :=
  match feedAt s.feeds i.car with
  | none => none
  | some f => if f.fresh = false ∧ wayI i * (2 * colI s.rack i.bed i.at_ - f.place) ≤ 0 then none
    else some { s with feeds := setF (keyF i.car) [⟨i.car, false, 2 * colI s.rack i.bed i.at_ + wayI i⟩] s.feeds }
def takeS (s : BedS) (b n : Int) : BedS := { s with hooks := putAt s.hooks b n [] }
def layS (s : BedS) (b n : Int) (l : List Int) : Option BedS :=
  if 6 < (heldAt s.hooks b n ++ l).length then none else some { s with hooks := putAt s.hooks b n (heldAt s.hooks b n ++ l) }
def acrossS (s : BedS) (i : Ins) (l : List Int) : Option BedS :=
  if colI s.rack i.bed i.at_ ≠ colI s.rack (1 - i.bed) i.to_ then none else layS s (1 - i.bed) i.to_ l
def loopS (s : BedS) (i : Ins) (ps : List Int) : BedS := { s with made := s.made ++ [⟨ps, i.bed, i.at_, i.car⟩] }
def bed0 : BedS := ⟨0, [], [], []⟩
/-- A knitted loop, behind what has been moved. -/
def knitS (s : BedS) (i : Ins) (old : List Int) : BedS × Int :=
  if s.made.length = 4000 then (bed0, 4) else ({ loopS s i old with hooks := putAt s.hooks i.bed i.at_ [(s.made.length : Int)] }, 0)
def yarnS (s : BedS) (i : Ins) : BedS × Int :=
  match passS s i with
  | none => (bed0, 36)
  | some t =>
    if i.op = 5 then (t, 0)
    else if i.op = 4 then
      match layS t i.bed i.at_ [(t.made.length : Int)] with
      | none => (bed0, 36)
      | some u => if t.made.length = 4000 then (bed0, 4) else (loopS u i [], 0)
    else if i.op = 6 then
      match acrossS (takeS t i.bed i.at_) i (heldAt t.hooks i.bed i.at_) with
      | none => (bed0, 36)
      | some u => knitS u i (heldAt t.hooks i.bed i.at_)
    else knitS (takeS t i.bed i.at_) i (heldAt t.hooks i.bed i.at_)
/-- A valid instruction, done on a valid state. -/
def doI (s : BedS) (i : Ins) : BedS × Int :=
  if i.op = 1 then (if (feedAt s.feeds i.car).isSome then (bed0, 36) else ({ s with feeds := setF (keyF i.car) [⟨i.car, true, 0⟩] s.feeds }, 0))
  else if i.op = 2 then (if (feedAt s.feeds i.car).isSome then ({ s with feeds := setF (keyF i.car) [] s.feeds }, 0) else (bed0, 36))
  else if i.op = 8 then ({ s with rack := i.rack }, 0)
  else if i.op = 9 then (takeS s i.bed i.at_, 0)
  else if i.op = 7 then
    match acrossS (takeS s i.bed i.at_) i (heldAt s.hooks i.bed i.at_) with
    | none => (bed0, 36)
    | some u => (u, 0)
  else yarnS s i
def doS (s : BedS) (i : Ins) : BedS × Int :=
  if bedE s ≠ 0 then (bed0, bedE s) else if i.err ≠ 0 then (bed0, i.err) else doI s i
/-- A run of instructions, from the k-th on. -/
def runI (s : BedS) : Nat → List Ins → BedS × Int × Int
  | k, [] => (s, (k : Int), 0)
  | k, i :: l => if i.err ≠ 0 then (bed0, (k : Int), i.err) else if (doI s i).2 ≠ 0 then (bed0, (k : Int), (doI s i).2) else runI (doI s i).1 (k + 1) l
def runS (s : BedS) (l : List Ins) : BedS × Int × Int :=
  if bedE s ≠ 0 then (bed0, 0, bedE s) else if 2000 < l.length then (bed0, 0, 4) else runI s 0 l
end Go.Proofs.YtbnddpknejgmhaaGreat
