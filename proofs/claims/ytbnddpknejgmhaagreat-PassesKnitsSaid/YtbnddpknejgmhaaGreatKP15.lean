/- Layer 30: states stay such that steps can be done: plain. Layer 30: states stay valid: plain. -/
import Derived.Test.YtbnddpknejgmhaaGreatKP14
import Derived.Test.YtbnddpknejgmhaaGreatKP12
namespace Go.Proofs.YtbnddpknejgmhaaGreat
open Go.RowKit
set_option maxRecDepth 100000

theorem len_le : ∀ {l : List Int} {a b : Int}, a ≤ b → l.Pairwise (· < ·) → (∀ x ∈ l, a ≤ x ∧ x < b) → (l.length : Int) ≤ b - a
  | [], a, b, hab, _, _ => by simp; omega
  | x :: l, a, b, hab, hp, hm => by
    have h1 := List.pairwise_cons.1 hp
    have hx := hm x List.mem_cons_self
    have ih := len_le (l := l) (a := x + 1) (b := b) (by omega) h1.2 (fun y hy => ⟨by have := h1.1 y hy; omega, (hm y (List.mem_cons_of_mem _ hy)).2⟩)
    simp only [List.length_cons]
    omega
theorem hooks_le {l : List Hk} (hn : ∀ h ∈ l, h.near) (hr : risB ltH l = true) : l.length ≤ 402 := by
  have hp := ris_pair ltH_tr hr
  have hp2 : (l.map fun h => h.bed * 201 + h.at_ + 100).Pairwise (· < ·) := by
    rw [List.pairwise_map]
    refine hp.imp_of_mem fun {a b} ha hb hab => ?_
    have h1 := hn a ha
    have h2 := hn b hb
    unfold Hk.near at h1 h2
    unfold ltH at hab
    have := of_decide_eq_true hab
    omega
  have := len_le (a := 0) (b := 402) (by omega) hp2 (fun x hx => by
    obtain ⟨h, hh, rfl⟩ := List.mem_map.1 hx
    have h1 := hn h hh
    unfold Hk.near at h1
    omega)
  rw [List.length_map] at this
  omega
theorem key_lt {b n : Int} {y : Hk} {ls : List Int} (h : keyH b n y < 0) : ltH y ⟨b, n, ls⟩ = true := by
  unfold keyH placeI at h
  unfold ltH
  refine decide_eq_true ?_
  simp only at h ⊢
  split at h <;> omega
theorem key_gt {b n : Int} {y : Hk} {ls : List Int} (h : 0 < keyH b n y) : ltH ⟨b, n, ls⟩ y = true := by
  unfold keyH placeI at h
  unfold ltH
  refine decide_eq_true ?_
  simp only at h ⊢
  split at h <;> omega
theorem put_pair {l : List Hk} (h : risB ltH l = true) (b n : Int) (ls : List Int) : risB ltH (putAt l b n ls) = true := by
  have hp := ris_pair ltH_tr h
  refine ris_of_pair ?_
  unfold putAt setF
  have hlo : (loF (keyH b n) l).Pairwise (fun a b => ltH a b = true) := hp.sublist List.filter_sublist
  have hhi : (hiF (keyH b n) l).Pairwise (fun a b => ltH a b = true) := hp.sublist List.filter_sublist
  have hx : ∀ x ∈ (if ls = [] then [] else [(⟨b, n, ls⟩ : Hk)]), x = ⟨b, n, ls⟩ := fun x hx => by
    split at hx
    · simp at hx
    · simpa using hx
  rw [List.pairwise_append, List.pairwise_append]
  refine ⟨hlo, ⟨?_, hhi, fun x hx' y hy => ?_⟩, fun x hx' y hy => ?_⟩
  · split
    · exact List.Pairwise.nil
    · exact List.pairwise_singleton _ _
  · rw [hx x hx']; exact key_gt (hiF_hi hy)
  · rcases List.mem_append.1 hy with hy | hy
    · rw [hx y hy]; exact key_lt (loF_lo hx')
    · exact ltH_tr _ ⟨b, n, ls⟩ _ (key_lt (loF_lo hx')) (key_gt (hiF_hi hy))
theorem mem_put {l : List Hk} {b n : Int} {ls : List Int} {x : Hk} (h : x ∈ putAt l b n ls) : x ∈ l ∨ (ls ≠ [] ∧ x = ⟨b, n, ls⟩) := by
  unfold putAt setF at h
  rcases List.mem_append.1 h with h | h
  · exact Or.inl (List.mem_filter.1 h).1
  · rcases List.mem_append.1 h with h | h
    · split at h
      · simp at h
      · rename_i hne; exact Or.inr ⟨hne, by simpa using h⟩
    · exact Or.inl (List.mem_filter.1 h).1
theorem StOk.put {s : BedS} (h : StOk s) {b n : Int} (hb : 0 ≤ b ∧ b ≤ 1) (hn : needleP n) {ls : List Int} (hl : ls.length ≤ 6) : StOk { s with hooks := putAt s.hooks b n ls } := by
  have hnear : ∀ x ∈ putAt s.hooks b n ls, x.near := fun x hx => by
    rcases mem_put hx with hx | ⟨_, rfl⟩
    · exact h.seek.near x hx
    · unfold needleP at hn; exact ⟨hb.1, hb.2, hn.1, hn.2⟩
  have hr := put_pair h.seek.ris b n ls
  refine ⟨⟨by have := hooks_le hnear hr; show (putAt s.hooks b n ls).length ≤ 9000; omega, hnear, hr⟩, fun x hx => ?_, h.rack, h.made⟩
  rcases mem_put hx with hx | ⟨_, rfl⟩
  · exact h.loops x hx
  · exact hl
theorem StOk.lay {s t : BedS} (h : StOk s) {b n : Int} (hb : 0 ≤ b ∧ b ≤ 1) (hn : needleP n) {l : List Int} (hl : layS s b n l = some t) : StOk t := by
  unfold layS at hl
  split at hl
  · cases hl
  · rename_i h6
    cases hl
    exact h.put hb hn (by omega)
theorem StOk.across {s t : BedS} (h : StOk s) {i : Ins} {l : List Int} (hb : 0 ≤ i.bed ∧ i.bed ≤ 1) (ht : needleP i.to_) (hl : acrossS s i l = some t) : StOk t := by
  unfold acrossS at hl
  split at hl
  · cases hl
  · exact h.lay (by omega) ht hl
theorem pass_same {s t : BedS} {i : Ins} (h : passS s i = some t) : t.hooks = s.hooks ∧ t.rack = s.rack ∧ t.made = s.made := by
  unfold passS at h
  split at h
  · cases h
  · split at h
    · cases h
    · cases h; exact ⟨rfl, rfl, rfl⟩
theorem StOk.pass {s t : BedS} (h : StOk s) {i : Ins} (hp : passS s i = some t) : StOk t := by
  obtain ⟨h1, h2, h3⟩ := pass_same hp
  exact ⟨by rw [h1]; exact h.seek, by rw [h1]; exact h.loops, by rw [h2]; exact h.rack, by rw [h3]; exact h.made⟩
theorem lay_same {s t : BedS} {b n : Int} {l : List Int} (h : layS s b n l = some t) : t = { s with hooks := putAt s.hooks b n (heldAt s.hooks b n ++ l) } := by
  unfold layS at h
  split at h
  · cases h
  · cases h; rfl
theorem held_put_ne {l : List Hk} {b n b' n' : Int} (hr : risB ltH l = true) (ls : List Int) (hne : b ≠ b' ∨ n ≠ n') : heldAt (putAt l b n ls) b' n' = heldAt l b' n' := by
  have hk : hkAt b' n' ⟨b, n, ls⟩ = false := decide_eq_false (fun h => by have h1 : b = b' := h.1; have h2 : n = n' := h.2; omega)
  have key0 : ∀ {x : Hk}, keyH b n x = 0 → hkAt b' n' x = false := fun {x} hz => by
    unfold keyH placeI at hz
    refine decide_eq_false (fun h => ?_)
    simp only at hz
    split at hz <;> omega
  have hm := monoH hr b n
  -- a sorted list is what lies before, at and behind
  have hsp : ∀ {l : List Hk}, Mono (keyH b n) l → l.find? (hkAt b' n') = (loF (keyH b n) l ++ hiF (keyH b n) l).find? (hkAt b' n') := by
    intro l
    induction l with
    | nil => intro _; rfl
    | cons a l ih =>
      intro hm
      have h2 := List.pairwise_cons.1 hm
      have ih2 := ih h2.2
      unfold loF hiF at ih2 ⊢
      rcases Int.lt_trichotomy (keyH b n a) 0 with hz | hz | hz
      · rw [List.filter_cons_of_pos (by simpa using hz), List.filter_cons_of_neg (by simp; omega), List.cons_append, List.find?_cons, List.find?_cons, ih2]
      · rw [List.filter_cons_of_neg (by simp; omega), List.filter_cons_of_neg (by simp; omega), List.find?_cons, key0 hz, ih2]
      · have hnil : l.filter (fun x => decide (keyH b n x < 0)) = [] := List.filter_eq_nil_iff.2 fun x hx => by
          simp only [decide_eq_true_eq]
          intro hx0
          have := h2.1 x hx (by omega)
          omega
        rw [hnil, List.nil_append] at ih2
        rw [List.filter_cons_of_neg (by simp; omega), List.filter_cons_of_pos (by simpa using hz), hnil, List.nil_append, List.find?_cons, List.find?_cons, ih2]
  have e : (putAt l b n ls).find? (hkAt b' n') = l.find? (hkAt b' n') := by
    rw [hsp hm]
    unfold putAt setF
    split
    · rw [List.nil_append]
    · rw [List.find?_append, List.find?_append, List.find?_append, List.find?_cons, hk]
      rfl
  unfold heldAt
  rw [e]
theorem held_put_nil {l : List Hk} {b n : Int} : heldAt (putAt l b n []) b n = [] := by
  unfold putAt
  rw [if_pos rfl]
  exact held_none (fun x hx => set_ne x hx)
end Go.Proofs.YtbnddpknejgmhaaGreat
namespace Go.Proofs.YtbnddpknejgmhaaGreat
open Go.RowKit
set_option maxRecDepth 100000

def eqF {α : Type} (f : α → Int) (l : List α) : List α := l.filter fun x => decide (f x = 0)
theorem split3 {α : Type} {f : α → Int} : ∀ {l : List α}, Mono f l → l = loF f l ++ (eqF f l ++ hiF f l) ∧ (eqF f l).length ≤ 1
  | [], _ => ⟨rfl, by simp [eqF]⟩
  | a :: l, h => by
    have h2 := List.pairwise_cons.1 h
    obtain ⟨e, e1⟩ := split3 (f := f) h2.2
    have up : 0 ≤ f a → ∀ b ∈ l, 0 < f b := fun ha b hb => by
      rcases Int.lt_or_le 0 (f b) with hx | hx
      · exact hx
      · have := h2.1 b hb hx; omega
    rcases Int.lt_trichotomy (f a) 0 with hz | hz | hz
    · have q1 : loF f (a :: l) = a :: loF f l := List.filter_cons_of_pos (by simpa using hz)
      have q2 : eqF f (a :: l) = eqF f l := List.filter_cons_of_neg (by simp; omega)
      have q3 : hiF f (a :: l) = hiF f l := List.filter_cons_of_neg (by simp; omega)
      rw [q1, q2, q3, List.cons_append, ← e]
      exact ⟨rfl, e1⟩
    · have hu := up (by omega)
      have q1 : loF f (a :: l) = [] := loF_none fun x hx => by
        rcases List.mem_cons.1 hx with rfl | hx
        · omega
        · have := hu x hx; omega
      have q2 : eqF f (a :: l) = a :: eqF f l := List.filter_cons_of_pos (by simpa using hz)
      have q2' : eqF f l = [] := List.filter_eq_nil_iff.2 fun x hx => by have := hu x hx; simp; omega
      have q3 : hiF f (a :: l) = hiF f l := List.filter_cons_of_neg (by simp; omega)
      have q3' : hiF f l = l := hiF_all hu
      rw [q1, q2, q2', q3, q3']
      exact ⟨rfl, by simp⟩
    · have hu := up (by omega)
      have q1 : loF f (a :: l) = [] := loF_none fun x hx => by
        rcases List.mem_cons.1 hx with rfl | hx
        · omega
        · have := hu x hx; omega
      have q2 : eqF f (a :: l) = [] := List.filter_eq_nil_iff.2 fun x hx => by
        rcases List.mem_cons.1 hx with rfl | hx
        · simp; omega
        · have := hu x hx; simp; omega
      have q3 : hiF f (a :: l) = a :: l := hiF_all fun x hx => by
        rcases List.mem_cons.1 hx with rfl | hx
        · exact hz
        · exact hu x hx
      rw [q1, q2, q3]
      exact ⟨rfl, by simp⟩
theorem held_eq {l : List Hk} {b n : Int} (h : Mono (keyH b n) l) : heldAt l b n = (eqF (keyH b n) l).flatMap (·.loops) := by
  have e : hkAt b n = fun x => decide (keyH b n x = 0) := funext fun x => key_hk b n x
  have e2 : l.find? (hkAt b n) = (eqF (keyH b n) l).head? := by rw [e]; exact List.head?_filter.symm
  have h1 := (split3 h).2
  unfold heldAt
  rw [e2]
  revert h1
  cases eqF (keyH b n) l with
  | nil => intro _; rfl
  | cons a t =>
    intro h1
    have : t = [] := List.length_eq_zero_iff.1 (by simp only [List.length_cons] at h1; omega)
    subst this
    simp
/-- The loops of the other needles. -/
def restL (l : List Hk) (b n : Int) : List Int := (loF (keyH b n) l ++ hiF (keyH b n) l).flatMap (·.loops)
theorem held_perm {l : List Hk} (hr : risB ltH l = true) (b n : Int) : (l.flatMap (·.loops)).Perm (heldAt l b n ++ restL l b n) := by
  have hm := monoH hr b n
  conv => lhs; rw [(split3 hm).1]
  rw [held_eq hm]
  unfold restL
  rw [List.flatMap_append, List.flatMap_append, List.flatMap_append, ← List.append_assoc, ← List.append_assoc]
  exact List.Perm.append_right _ List.perm_append_comm
theorem put_perm {l : List Hk} (b n : Int) (ls : List Int) : ((putAt l b n ls).flatMap (·.loops)).Perm (ls ++ restL l b n) := by
  have e : (if ls = [] then [] else [(⟨b, n, ls⟩ : Hk)]).flatMap (·.loops) = ls := by
    split
    · rename_i h; rw [h]; rfl
    · simp
  unfold putAt setF restL
  rw [List.flatMap_append, List.flatMap_append, List.flatMap_append, e, ← List.append_assoc, ← List.append_assoc]
  exact List.Perm.append_right _ List.perm_append_comm
theorem rest_nil {l : List Hk} (b n : Int) : (putAt l b n []).flatMap (·.loops) = restL l b n := by
  unfold putAt setF restL
  rw [if_pos rfl, List.nil_append]

def distP (l : List Int) (n : Int) : Prop := (∀ x ∈ l, 0 ≤ x ∧ x < n) ∧ l.Nodup
theorem distB_iff {l : List Int} {n : Int} : distB l n = true ↔ distP l n := by
  unfold distB distP
  rw [Bool.and_eq_true, decide_eq_true_iff, decide_eq_true_iff]
theorem distP.perm {l l' : List Int} {n : Int} (h : distP l n) (p : l.Perm l') : distP l' n := ⟨fun x hx => h.1 x (p.mem_iff.2 hx), p.nodup_iff.1 h.2⟩
theorem distP.sub {l l' : List Int} {n : Int} (h : distP l n) (p : l'.Sublist l) : distP l' n := ⟨fun x hx => h.1 x (p.subset hx), h.2.sublist p⟩
theorem distP.new {l : List Int} {n : Int} (h : distP l n) (hn : 0 ≤ n) : distP (n :: l) (n + 1) :=
  ⟨fun x hx => by
    rcases List.mem_cons.1 hx with rfl | hx
    · omega
    · have := h.1 x hx; omega, List.nodup_cons.2 ⟨fun hx => by have := h.1 n hx; omega, h.2⟩⟩
theorem distP.up {l : List Int} {n m : Int} (h : distP l n) (hm : n ≤ m) : distP l m := ⟨fun x hx => by have := h.1 x hx; omega, h.2⟩
theorem madeAll_snoc : ∀ {l : List Mk} {i : Nat} {m : Mk}, madeAll i l = true → madeOk (i + l.length) m = true → madeAll i (l ++ [m]) = true
  | [], i, m, _, hm => by simpa [madeAll] using hm
  | x :: l, i, m, h, hm => by
    simp only [madeAll, Bool.and_eq_true, List.cons_append] at h ⊢
    exact ⟨h.1, madeAll_snoc h.2 (by rw [show i + 1 + l.length = i + (x :: l).length by simp; omega]; exact hm)⟩
/-- A valid state. -/
structure Good (s : BedS) : Prop where
  rack : -8 ≤ s.rack ∧ s.rack ≤ 8
  len : s.made.length ≤ 4000
  hooks : ∀ h ∈ s.hooks, (0 ≤ h.bed ∧ h.bed ≤ 1) ∧ needleP h.at_ ∧ 0 < h.loops.length ∧ h.loops.length ≤ 6
  feeds : ∀ f ∈ s.feeds, feedOk f = true
  made : madeAll 0 s.made = true
  wfm : ∀ m ∈ s.made, m.wf
  rh : risB ltH s.hooks = true
  rf : risB ltF s.feeds = true
  dist : distP (heldL s) s.made.length
theorem Good.of {s : BedS} (h : bedE s = 0) (hwf : s.wf) : Good s := by
  unfold bedE at h
  cases hb : bedOk s with
  | false => rw [hb] at h; simp at h
  | true =>
    unfold bedOk at hb
    simp only [Bool.and_eq_true] at hb
    obtain ⟨⟨⟨⟨⟨⟨h1, h2⟩, h3⟩, h4⟩, h5⟩, h6⟩, h7⟩ := hb
    have h1 := of_decide_eq_true h1
    refine ⟨⟨h1.1, h1.2.1⟩, h1.2.2, fun x hx => ?_, List.all_eq_true.1 h3, h4, hwf.2, h5, h6, distB_iff.1 h7⟩
    have := of_decide_eq_true (List.all_eq_true.1 h2 x hx)
    have hw := hwf.1 x hx
    unfold Hk.wf at hw
    exact ⟨⟨hw.1, this.1⟩, this.2⟩
theorem Good.err {s : BedS} (h : Good s) : bedE s = 0 := by
  have : bedOk s = true := by
    unfold bedOk
    simp only [Bool.and_eq_true]
    refine ⟨⟨⟨⟨⟨⟨decide_eq_true ⟨h.rack.1, h.rack.2, h.len⟩, ?_⟩, ?_⟩, h.made⟩, h.rh⟩, h.rf⟩, distB_iff.2 h.dist⟩
    · rw [List.all_eq_true]
      intro x hx
      exact decide_eq_true ⟨(h.hooks x hx).1.2, (h.hooks x hx).2⟩
    · rw [List.all_eq_true]; exact h.feeds
  unfold bedE
  rw [this]
  rfl
theorem Good.wf {s : BedS} (h : Good s) : s.wf := ⟨fun x hx => by have := (h.hooks x hx).1; unfold Hk.wf; omega, h.wfm⟩
theorem Good.seek {s : BedS} (h : Good s) : Seek s.hooks := by
  have hn : ∀ x ∈ s.hooks, x.near := fun x hx => by
    obtain ⟨h1, h2, -⟩ := h.hooks x hx
    unfold needleP at h2
    exact ⟨h1.1, h1.2, h2.1, h2.2⟩
  exact ⟨by have := hooks_le hn h.rh; omega, hn, h.rh⟩
theorem Good.st {s : BedS} (h : Good s) : StOk s := ⟨h.seek, fun x hx => (h.hooks x hx).2.2.2, h.rack, by have := h.len; omega⟩
theorem feeds_le {l : List Fd} (hn : ∀ f ∈ l, feedOk f = true) (hr : risB ltF l = true) : l.length ≤ 6 := by
  have hp2 : (l.map fun f => f.car).Pairwise (· < ·) := by
    rw [List.pairwise_map]
    exact (ris_pair ltF_tr hr).imp fun {a b} hab => of_decide_eq_true hab
  have := len_le (a := 1) (b := 7) (by omega) hp2 (fun x hx => by
    obtain ⟨f, hf, rfl⟩ := List.mem_map.1 hx
    have := hn f hf
    unfold feedOk at this
    rw [Bool.and_eq_true] at this
    have := of_decide_eq_true this.1
    unfold carP at this
    omega)
  rw [List.length_map] at this
  omega
theorem Good.fd {s : BedS} (h : Good s) : FdOk s := ⟨by have := feeds_le h.feeds h.rf; omega, h.feeds, h.rf⟩
theorem Good.heldLen {s : BedS} (h : Good s) (b n : Int) : (heldAt s.hooks b n).length ≤ 6 := h.st.held b n
theorem Good.heldPerm {s : BedS} (h : Good s) (b n : Int) : (heldL s).Perm (heldAt s.hooks b n ++ restL s.hooks b n) := held_perm h.rh b n
theorem Good.heldDist {s : BedS} (h : Good s) (b n : Int) : distP (heldAt s.hooks b n) s.made.length := (h.dist.perm (h.heldPerm b n)).sub (List.sublist_append_left _ _)
/-- A needle is set anew. -/
theorem Good.put {s : BedS} (h : Good s) {b n : Int} (hb : 0 ≤ b ∧ b ≤ 1) (hn : needleP n) {ls : List Int} (hl : ls.length ≤ 6) (hd : distP (ls ++ restL s.hooks b n) s.made.length) : Good { s with hooks := putAt s.hooks b n ls } :=
  ⟨h.rack, h.len, fun x hx => by
    rcases mem_put hx with hx | ⟨hne, rfl⟩
    · exact h.hooks x hx
    · exact ⟨hb, hn, List.length_pos_iff.2 hne, hl⟩, h.feeds, h.made, h.wfm, put_pair h.rh b n ls, h.rf, hd.perm (put_perm b n ls).symm⟩
theorem take_held (s : BedS) (b n : Int) : heldL (takeS s b n) = restL s.hooks b n := rest_nil b n
theorem Good.take {s : BedS} (h : Good s) {b n : Int} (hb : 0 ≤ b ∧ b ≤ 1) (hn : needleP n) : Good (takeS s b n) :=
  h.put hb hn (by simp) ((h.dist.perm (h.heldPerm b n)).sub (by rw [List.nil_append]; exact List.sublist_append_right _ _))
theorem Good.lay {s t : BedS} (h : Good s) {b n : Int} (hb : 0 ≤ b ∧ b ≤ 1) (hn : needleP n) {l : List Int} (hd : distP (l ++ heldL s) s.made.length) (hl : layS s b n l = some t) : Good t := by
  unfold layS at hl
  split at hl
  · cases hl
  · rename_i h6
    cases hl
    refine h.put hb hn (by omega) (hd.perm ?_)
    have := List.Perm.append_left l (h.heldPerm b n)
    refine this.trans ?_
    rw [← List.append_assoc]
    exact List.Perm.append_right _ List.perm_append_comm
theorem Good.across {s t : BedS} (h : Good s) {i : Ins} (hb : 0 ≤ i.bed ∧ i.bed ≤ 1) (ht : needleP i.to_) {l : List Int} (hd : distP (l ++ heldL s) s.made.length) (hl : acrossS s i l = some t) : Good t := by
  unfold acrossS at hl
  split at hl
  · cases hl
  · exact h.lay (by omega) ht hd hl
theorem across_made {s t : BedS} {i : Ins} {l : List Int} (hl : acrossS s i l = some t) : t.made = s.made := by
  unfold acrossS at hl
  split at hl
  · cases hl
  · rw [lay_same hl]
/-- The carriers are set anew. -/
theorem Good.setFeeds {s : BedS} (h : Good s) {c : Int} {xs : List Fd} (hx : ∀ f ∈ xs, feedOk f = true ∧ f.car = c) (h1 : xs.length ≤ 1) : Good { s with feeds := setF (keyF c) xs s.feeds } := by
  have hp := ris_pair ltF_tr h.rf
  have hlo : (loF (keyF c) s.feeds).Pairwise (fun a b => ltF a b = true) := hp.sublist List.filter_sublist
  have hhi : (hiF (keyF c) s.feeds).Pairwise (fun a b => ltF a b = true) := hp.sublist List.filter_sublist
  refine ⟨h.rack, h.len, h.hooks, fun f hf => ?_, h.made, h.wfm, h.rh, ris_of_pair ?_, h.dist⟩
  · unfold setF at hf
    rcases List.mem_append.1 hf with hf | hf
    · exact h.feeds f (List.mem_filter.1 hf).1
    · rcases List.mem_append.1 hf with hf | hf
      · exact (hx f hf).1
      · exact h.feeds f (List.mem_filter.1 hf).1
  · unfold setF
    rw [List.pairwise_append, List.pairwise_append]
    refine ⟨hlo, ⟨?_, hhi, fun x hx' y hy => ?_⟩, fun x hx' y hy => ?_⟩
    · match xs, h1 with
      | [], _ => exact List.Pairwise.nil
      | [a], _ => exact List.pairwise_singleton _ _
    · have e := (hx x hx').2
      have := hiF_hi hy
      unfold keyF at this
      exact decide_eq_true (by omega)
    · have e0 := loF_lo hx'
      unfold keyF at e0
      rcases List.mem_append.1 hy with hy | hy
      · have e := (hx y hy).2
        exact decide_eq_true (by omega)
      · have := hiF_hi hy
        unfold keyF at this
        exact decide_eq_true (by omega)
theorem Good.setRack {s : BedS} (h : Good s) {r : Int} (hr : -8 ≤ r ∧ r ≤ 8) : Good { s with rack := r } := ⟨hr, h.len, h.hooks, h.feeds, h.made, h.wfm, h.rh, h.rf, h.dist⟩
theorem Good.pass {s t : BedS} (h : Good s) {i : Ins} (hb : 0 ≤ i.bed ∧ i.bed ≤ 1) (hn : needleP i.at_) (hc : carP i.car) (hp : passS s i = some t) : Good t := by
  unfold passS at hp
  split at hp
  · cases hp
  · split at hp
    · cases hp
    · cases hp
      refine h.setFeeds (fun f hf => ?_) (by simp)
      rw [List.mem_singleton] at hf
      subst hf
      refine ⟨?_, rfl⟩
      have hr := h.rack
      have hcol : -108 ≤ colI s.rack i.bed i.at_ ∧ colI s.rack i.bed i.at_ ≤ 108 := by
        unfold colI
        unfold needleP at hn
        have : i.bed = 0 ∨ i.bed = 1 := by omega
        rcases this with e | e
        · rw [e]; omega
        · rw [e]; omega
      unfold feedOk
      rw [Bool.and_eq_true]
      refine ⟨decide_eq_true hc, ?_⟩
      show decide _ = true
      refine decide_eq_true ?_
      show (2 * colI s.rack i.bed i.at_ + wayI i) % 2 = 1 ∧ -217 ≤ 2 * colI s.rack i.bed i.at_ + wayI i ∧ 2 * colI s.rack i.bed i.at_ + wayI i ≤ 217
      unfold wayI
      split <;> omega
/-- A loop is made and hung on its needle. -/
theorem Good.knit {u : BedS} (h : Good u) {i : Ins} (hb : 0 ≤ i.bed ∧ i.bed ≤ 1) (hn : needleP i.at_) (hc : carP i.car) {old : List Int} (ho : old.length ≤ 6) (hd : distP old u.made.length) (hm : u.made.length ≤ 3999) {ls : List Int} (hls : ls.length ≤ 6) (hd2 : distP (ls ++ restL u.hooks i.bed i.at_) (u.made.length + 1)) :
    Good { loopS u i old with hooks := putAt u.hooks i.bed i.at_ ls } := by
  have hwf : (⟨old, i.bed, i.at_, i.car⟩ : Mk).wf := by unfold Mk.wf; exact ⟨hb.1, by show i.bed ≤ 255; omega⟩
  refine ⟨h.rack, by simp only [loopS, List.length_append, List.length_singleton]; omega, fun x hx => ?_, h.feeds, madeAll_snoc h.made ?_, fun m hm => ?_, put_pair h.rh _ _ _, h.rf, ?_⟩
  · rcases mem_put hx with hx | ⟨hne, rfl⟩
    · exact h.hooks x hx
    · exact ⟨hb, hn, List.length_pos_iff.2 hne, hls⟩
  · unfold madeOk
    rw [Bool.and_eq_true]
    refine ⟨decide_eq_true ⟨hb.2, hn, hc, ho⟩, distB_iff.2 ?_⟩
    rw [Nat.zero_add]
    exact hd
  · rcases List.mem_append.1 hm with hm | hm
    · exact h.wfm m hm
    · rw [List.mem_singleton.1 hm]; exact hwf
  · have e : (((loopS u i old).made.length : Nat) : Int) = u.made.length + 1 := by simp [loopS]
    show distP ((putAt u.hooks i.bed i.at_ ls).flatMap (·.loops)) ((loopS u i old).made.length : Nat)
    rw [e]
    exact hd2.perm (put_perm _ _ ls).symm
theorem Good.knitS {u : BedS} (h : Good u) {i : Ins} (hb : 0 ≤ i.bed ∧ i.bed ≤ 1) (hn : needleP i.at_) (hc : carP i.car) {old : List Int} (ho : old.length ≤ 6) (hd : distP old u.made.length) (hz : (knitS u i old).2 = 0) :
    Good (knitS u i old).1 ∧ (knitS u i old).1.made = u.made ++ [⟨old, i.bed, i.at_, i.car⟩] := by
  unfold Proofs.YtbnddpknejgmhaaGreat.knitS at hz ⊢
  split at hz
  · simp at hz
  · rename_i hne
    rw [if_neg hne]
    refine ⟨h.knit hb hn hc ho hd (by have := h.len; omega) (by simp) ?_, rfl⟩
    have := h.dist.perm (h.heldPerm i.bed i.at_)
    exact (this.sub (List.sublist_append_right _ _)).new (by omega)
theorem Good.tuck {t u : BedS} (h : Good t) {i : Ins} (hb : 0 ≤ i.bed ∧ i.bed ≤ 1) (hn : needleP i.at_) (hc : carP i.car) (hl : layS t i.bed i.at_ [(t.made.length : Int)] = some u) (hm : ¬ t.made.length = 4000) : Good (loopS u i []) := by
  have h6 : (heldAt t.hooks i.bed i.at_ ++ [(t.made.length : Int)]).length ≤ 6 := by
    unfold layS at hl
    split at hl
    · cases hl
    · omega
  rw [lay_same hl]
  refine h.knit hb hn hc (by simp) ⟨fun x hx => by simp at hx, List.nodup_nil⟩ (by have := h.len; omega) h6 ?_
  have h1 := (h.dist.perm (h.heldPerm i.bed i.at_)).new (by omega)
  refine h1.perm ?_
  rw [List.append_assoc]
  exact List.perm_middle.symm
/-- How many loops an instruction makes. -/
def madeN (i : Ins) : Nat := if i.op = 3 ∨ i.op = 4 ∨ i.op = 6 then 1 else 0
theorem doI_bad {s : BedS} {i : Ins} (h : (doI s i).2 ≠ 0) : (doI s i).1 = bed0 := by
  have hk : ∀ (u : BedS) (old : List Int), (knitS u i old).2 ≠ 0 → (knitS u i old).1 = bed0 := fun u old hh => by
    unfold knitS at hh ⊢
    split at hh
    · rw [if_pos (by assumption)]
    · exact absurd rfl hh
  unfold doI at h ⊢
  repeat' split at h
  all_goals first | exact absurd rfl h | skip
  all_goals simp_all
  unfold yarnS at h ⊢
  repeat' split at h
  all_goals first | exact absurd rfl h | skip
  all_goals simp_all
theorem Ins.good_err {i : Ins} (h : i.err = 0) : i.good := by
  unfold Ins.err at h
  split at h
  · assumption
  · simp at h
/-- An instruction that can be done keeps a state valid; it makes at most one loop, behind the others. -/
theorem doI_good {s : BedS} (h : Good s) {i : Ins} (hw : i.wf) (hi : i.good) (hz : (doI s i).2 = 0) : Good (doI s i).1 ∧ ∃ l : List Mk, (doI s i).1.made = s.made ++ l ∧ l.length = madeN i := by
  have hwb := hw.2.2.1
  have none_ : madeN i = 0 → ∀ t : BedS, t.made = s.made → ∃ l : List Mk, t.made = s.made ++ l ∧ l.length = madeN i := fun e t ht => ⟨[], by rw [ht, List.append_nil], by rw [e]; rfl⟩
  have mv : 0 ≤ i.bed ∧ i.bed ≤ 1 → needleP i.at_ → ∀ {t}, Good t → distP (heldAt t.hooks i.bed i.at_ ++ heldL (takeS t i.bed i.at_)) (takeS t i.bed i.at_).made.length := fun _ _ t ht => by
    rw [take_held]
    exact ht.dist.perm (ht.heldPerm _ _)
  rcases hi with ⟨ho, h1, h2, h3, h4, h5, hc⟩ | ⟨ho, h1, h2, hc, hb, hn⟩ | ⟨ho, h1, hc, hb, hn, ht⟩ | ⟨ho, h1, h2, h3, hb, hn, ht⟩ | ⟨ho, h1, h2, h3, h4, h5, hr⟩ | ⟨ho, h1, h2, h3, h4, hb, hn⟩
  · have hm : madeN i = 0 := by unfold madeN; rw [if_neg (by omega)]
    unfold doI at hz ⊢
    rcases ho with ho | ho
    · rw [if_pos ho] at hz ⊢
      split at hz
      · simp at hz
      · rename_i hf
        rw [if_neg hf]
        refine ⟨h.setFeeds (fun f hf => ?_) (by simp), none_ hm _ rfl⟩
        rw [List.mem_singleton] at hf
        subst hf
        refine ⟨?_, rfl⟩
        unfold feedOk
        rw [Bool.and_eq_true]
        exact ⟨decide_eq_true hc, by simp⟩
    · rw [if_neg (by omega), if_pos ho] at hz ⊢
      split at hz
      · rename_i hf
        rw [if_pos hf]
        exact ⟨h.setFeeds (fun f hf => by simp at hf) (by simp), none_ hm _ rfl⟩
      · simp at hz
  · have hb' : 0 ≤ i.bed ∧ i.bed ≤ 1 := ⟨hwb, hb⟩
    unfold doI at hz ⊢
    rw [if_neg (by omega), if_neg (by omega), if_neg (by omega), if_neg (by omega), if_neg (by omega)] at hz ⊢
    unfold yarnS at hz ⊢
    cases hp : passS s i with
    | none => rw [hp] at hz; simp at hz
    | some t =>
      have hgt := h.pass hb' hn hc hp
      obtain ⟨e1, e2, e3⟩ := pass_same hp
      rw [hp] at hz
      simp only at hz ⊢
      by_cases h5 : i.op = 5
      · rw [if_pos h5]
        exact ⟨hgt, none_ (by unfold madeN; rw [if_neg (by omega)]) _ e3⟩
      · rw [if_neg h5] at hz ⊢
        have hm : madeN i = 1 := by unfold madeN; rw [if_pos (by omega)]
        by_cases h4 : i.op = 4
        · rw [if_pos h4] at hz ⊢
          cases hl : layS t i.bed i.at_ [(t.made.length : Int)] with
          | none => rw [hl] at hz; simp at hz
          | some u =>
            rw [hl] at hz
            simp only at hz ⊢
            split at hz
            · simp at hz
            · rename_i hne
              rw [if_neg hne]
              refine ⟨hgt.tuck hb' hn hc hl hne, [⟨[], i.bed, i.at_, i.car⟩], ?_, by rw [hm]; rfl⟩
              show u.made ++ _ = _
              rw [lay_same hl]
              show t.made ++ _ = _
              rw [e3]
        · rw [if_neg h4, if_neg (by omega)] at hz ⊢
          obtain ⟨g1, g2⟩ := (hgt.take hb' hn).knitS hb' hn hc (hgt.heldLen _ _) (hgt.heldDist _ _) hz
          exact ⟨g1, [_], by rw [g2]; show t.made ++ _ = _; rw [e3], by rw [hm]; rfl⟩
  · have hb' : 0 ≤ i.bed ∧ i.bed ≤ 1 := ⟨hwb, hb⟩
    unfold doI at hz ⊢
    rw [if_neg (by omega), if_neg (by omega), if_neg (by omega), if_neg (by omega), if_neg (by omega)] at hz ⊢
    unfold yarnS at hz ⊢
    cases hp : passS s i with
    | none => rw [hp] at hz; simp at hz
    | some t =>
      have hgt := h.pass hb' hn hc hp
      obtain ⟨e1, e2, e3⟩ := pass_same hp
      have hm : madeN i = 1 := by unfold madeN; rw [if_pos (by omega)]
      rw [hp] at hz
      simp only at hz ⊢
      rw [if_neg (by omega), if_neg (by omega), if_pos ho] at hz ⊢
      cases hl : acrossS (takeS t i.bed i.at_) i (heldAt t.hooks i.bed i.at_) with
      | none => rw [hl] at hz; simp at hz
      | some u =>
        rw [hl] at hz
        simp only at hz ⊢
        have hgu := (hgt.take hb' hn).across hb' ht (mv hb' hn hgt) hl
        have em : u.made = t.made := (across_made hl).trans rfl
        obtain ⟨g1, g2⟩ := hgu.knitS hb' hn hc (hgt.heldLen _ _) (by rw [em]; exact hgt.heldDist _ _) hz
        exact ⟨g1, [_], by rw [g2, em, e3], by rw [hm]; rfl⟩
  · have hb' : 0 ≤ i.bed ∧ i.bed ≤ 1 := ⟨hwb, hb⟩
    have hm : madeN i = 0 := by unfold madeN; rw [if_neg (by omega)]
    unfold doI at hz ⊢
    rw [if_neg (by omega), if_neg (by omega), if_neg (by omega), if_neg (by omega), if_pos ho] at hz ⊢
    cases hl : acrossS (takeS s i.bed i.at_) i (heldAt s.hooks i.bed i.at_) with
    | none => rw [hl] at hz; simp at hz
    | some u =>
      simp only
      exact ⟨(h.take hb' hn).across hb' ht (mv hb' hn h) hl, none_ hm _ ((across_made hl).trans rfl)⟩
  · have hm : madeN i = 0 := by unfold madeN; rw [if_neg (by omega)]
    unfold doI
    rw [if_neg (by omega), if_neg (by omega), if_pos ho]
    exact ⟨h.setRack hr, none_ hm _ rfl⟩
  · have hb' : 0 ≤ i.bed ∧ i.bed ≤ 1 := ⟨hwb, hb⟩
    have hm : madeN i = 0 := by unfold madeN; rw [if_neg (by omega)]
    unfold doI
    rw [if_neg (by omega), if_neg (by omega), if_neg (by omega), if_pos ho]
    exact ⟨h.take hb' hn, none_ hm _ rfl⟩
end Go.Proofs.YtbnddpknejgmhaaGreat
