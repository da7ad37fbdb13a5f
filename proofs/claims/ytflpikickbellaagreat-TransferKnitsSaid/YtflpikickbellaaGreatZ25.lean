/- Layer 30. -/
import Derived.Test.YtflpikickbellaaGreatZ24
namespace Go.Proofs.YtflpikickbellaaGreat
open Go.RowKit Go.Shelf Go.Sort
set_option maxRecDepth 100000
theorem flat_cut {α : Type} (g : α → List Value) (hg : ∀ x, (g x).length = 3) : ∀ (k : Nat) (L : List α), (L.map g).flatten.take (k * 3) = ((L.take k).map g).flatten ∧ (L.map g).flatten.drop (k * 3) = ((L.drop k).map g).flatten := by
 intro k
 induction k with
 | zero => intro L; simp
 | succ k ih =>
   intro L
   cases L with
   | nil => simp
   | cons a L =>
     simp only [List.map_cons, List.flatten_cons, List.take_succ_cons, List.drop_succ_cons]
     rw [show (k + 1) * 3 = (g a).length + k * 3 by rw [hg]; omega, List.take_length_add_append, List.drop_length_add_append, (ih L).1, (ih L).2]
     exact ⟨rfl, rfl⟩
theorem fd_len (x : Fd) : x.cells.length = 3 := rfl
structure FdOk (s : BedS) : Prop where
 len : s.feeds.length ≤ 9000
 ok : ∀ f ∈ s.feeds, feedOk f = true
 ris : risB ltF s.feeds = true
theorem FdOk.car {s : BedS} (h : FdOk s) : ∀ f ∈ s.feeds, carP f.car := fun f hf => by
 have := h.ok f hf
 unfold feedOk at this
 rw [Bool.and_eq_true] at this
 exact of_decide_eq_true this.1
def changeS (s : BedS) (i : Ins) : BedS × Int :=
 if i.op = 1 then (if (feedAt s.feeds i.car).isSome then (bed0, 36) else ({ s with feeds := setF (keyF i.car) [⟨i.car, true, 0⟩] s.feeds }, 0))
 else (if (feedAt s.feeds i.car).isSome then ({ s with feeds := setF (keyF i.car) [] s.feeds }, 0) else (bed0, 36))
theorem found_car {l : List Fd} {c : Int} (h : risB ltF l = true) {k : Nat} {q : Bool} (hf : Found (cmpF l c) l.length k q) :
 k ≤ l.length ∧ (feedAt l c).isSome = q ∧ (q = true → (∃ f, l[k]? = some f ∧ feedAt l c = some f ∧ f.car = c) ∧ ∀ xs, setF (keyF c) xs l = l.take k ++ (xs ++ l.drop (k + 1))) ∧ (q = false → ∀ xs, setF (keyF c) xs l = l.take k ++ (xs ++ l.drop k)) := by
 have h1 := found_feed h hf
 have h2 := found_split (f := keyF c) (d := defF) (monoF h c) hf
 refine ⟨hf.le, ?_, fun hq => ⟨?_, fun xs => ?_⟩, fun hq xs => ?_⟩
 · cases q with
   | true => obtain ⟨f, _, e⟩ := h1.1 rfl; rw [e]; rfl
   | false => rw [h1.2 rfl]; rfl
 · obtain ⟨f, e1, e2⟩ := h1.1 hq
   refine ⟨f, e1, e2, ?_⟩
   unfold feedAt at e2
   have := List.find?_some e2
   simpa using this
 · unfold setF; rw [h2.1, (h2.2.1 hq).2]
 · unfold setF; rw [h2.1, (h2.2.2 hq).1]
set_option maxHeartbeats 4000000 in
theorem change_any (B pb : Nat) (s : BedS) (i : Ins) (X : List Own) (hf : FdOk s) (hop : i.op = 1 ∨ i.op = 2) (hc : carP i.car) (w : World) (hBw : B ≤ w.heap.size) (hw : WorkX 90 w B pb s X) :
 Calls Tryz.prog 78 #[.pointer (some ⟨pb, 0, none⟩), i.val] w fun e w' => endOut B pb (changeS s i) X w e w' := by
 obtain ⟨hv, mv, vh, vf, vm, hw⟩ := hw
 obtain ⟨A, c, rfl, hlc, -⟩ := hw.slf
 have hal := (Below.refl w.heap.size w).alloc (Nat.le_refl _) (insBox i)
 have hw1 := hw.to hal
 have HAl := Lib.hid hal
 have HX := Lib.hid (fun W hb => ins_box w i (W := W) hb)
 have HCa : Hid (Calls Tryz.prog 105 #[.pointer (some ⟨pb, 0, none⟩), .int .i64 i.car] (w.alloc (insBox i)) fun e w' => ∃ (k : Nat) (q : Bool), e = .returned (.tuple #[.int .i64 (k : Int), .bool q]) ∧ Found (cmpF s.feeds i.car) s.feeds.length k q ∧ Below (w.alloc (insBox i)).heap.size (w.alloc (insBox i)) w') := by
  obtain ⟨A0, c0, e0, -, hsl⟩ := hw1.slf
  cases e0
  exact carrier_any pb A c s.feeds (by have := hf.len; omega) hf.car i.car hc hf.ris _ hw1.cells.2.2.1 hsl
 have HF := Lib.hid hf
 have HW1 := Lib.hid hw1
 have hlen : s.feeds.length ≤ 9000 := hf.len
 unfold Ins.val
 clear hw hw1 hal hf
 go_enter Tryz.func78, Tryz.ntmps78
 go_upto_region 1 with fail
 obtain ⟨x0, x1, x2, x3, x4, x5, x6⟩ := HX.out _ (Below.refl _ _)
 go_wp2_with fail
 refine HCa.out.mono ?_
 rintro e w1 ⟨k, q, rfl, hfo, hb1⟩
 have HFo := Lib.hid (found_car HF.out.ris hfo)
 have hkl := hfo.le
 have HW2 := Lib.hid (HW1.out.to hb1)
 have HB1 := Lib.hid ((HAl.out.mono hBw).trans (hb1.mono (by simp; omega)))
 obtain ⟨y0, y1, y2, y3, y4, y5, y6⟩ := HX.out w1 (hb1.mono (by simp))
 simp only [Nat.zero_add] at y0 y1 y2 y3 y4 y5 y6
 clear hfo hb1 HCa x0 x1 x2 x3 x4 x5 x6
 have hcs := HW2.out.cells
 obtain ⟨-, -, c2, -, c4⟩ := hcs
 have c4' := c4 2
 have hpl := HW2.out.base
 clear c4
 have hrf : w1.ownsRow B 125 3 (.slice A s.feeds.length c) s.feeds.length (s.feeds.map Fd.cells).flatten := HW2.out.rf
 have HRf := Lib.hid hrf
 clear hrf
 cases q with
 | true =>
   rcases hop with hop | hop
   · have hb2 : (i.op == 1) = true := by simp [hop]
     have HE : Hid (changeS s i = (bed0, 36)) := by unfold Hid changeS; rw [if_pos hop, HFo.out.2.1]; rfl
     have HR := Lib.hid (endOut.stop (pb := pb) (X := X) HE.out (by decide) (WorkX.owns ⟨hv, mv, vh, _, vm, HW2.out⟩) HB1.out)
     unfold stopE stopV at HR
     clear hop HE
     go_wp2
     exact ⟨rfl, HR.out⟩
   · have hb2 : (i.op == 1) = false := beq_eq_false_iff_ne.2 (by omega)
     obtain ⟨f, hfk, -, -⟩ := (HFo.out.2.2.1 rfl).1
     have hkl2 : k < s.feeds.length := (List.getElem?_eq_some_iff.1 hfk).1
     obtain ⟨g, rfl⟩ : ∃ g, A = some ⟨g, 0, none⟩ := by
      obtain ⟨g, cap, e, _⟩ := World.ownsRow.form HRf.out (by omega)
      exact ⟨g, (Value.slice.inj e).1⟩
     have hk9 : k < 9000 := by omega
     have HD : Hid (∀ z : Int, z = (k : Int) + 1 → Calls Tryz.prog 106 #[.slice (some ⟨g, 0, none⟩) s.feeds.length c, .int .i64 k, .int .i64 z] w1 fun e w' =>
      e = .returned (.slice (some ⟨g, 0, none⟩) (s.feeds.length - 1) c) ∧ w'.ownsRow B 125 3 (.slice (some ⟨g, 0, none⟩) (s.feeds.length - 1) c) (s.feeds.length - 1) ((s.feeds.take k ++ s.feeds.drop (k + 1)).map Fd.cells).flatten ∧ w1.grownBy w' (some g)) := by
      rintro z rfl
      have := deleteF_any B g s.feeds.length c k (s.feeds.map Fd.cells).flatten (one3f _) (by omega) w1 HRf.out hkl2 (k + 1) rfl
      rw [(flat_cut Fd.cells fd_len k s.feeds).1, (flat_cut Fd.cells fd_len (k + 1) s.feeds).2, ← List.flatten_append, ← List.map_append] at this
      exact this
     have HE : Hid (changeS s i = ({ s with feeds := s.feeds.take k ++ s.feeds.drop (k + 1) }, 0)) := by
      unfold Hid changeS
      rw [if_neg (by omega), HFo.out.2.1, if_pos rfl, (HFo.out.2.2.1 rfl).2 []]
      rfl
     clear hop hfk
     go_wp2_with fail
     refine (HD.out _ rfl).mono ?_
     rintro e w2 ⟨rfl, ho, hg⟩
     obtain ⟨-, -, d1, -, d4⟩ := HW2.out.struct hg HW2.out.pbF
     have d4' := d4 2
     have HO : Hid (endOut B pb (changeS s i) X w (.returned (.tuple #[])) (w2.setCell ⟨pb, 2, none⟩ (.slice (some ⟨g, 0, none⟩) (s.feeds.length - 1) c))) := by
      refine endOut.go HE.out ⟨hv, mv, vh, _, vm, HW2.out.setFeeds hg ?_ (fun k hk => Or.inl hk)⟩ ((HB1.out.trans (Below.of_grown hg (by omega) (fun k hk => (World.ownsRow.lt HRf.out k hk).1))).setCell (by exact hpl.1) _)
      have e1 : (s.feeds.take k ++ s.feeds.drop (k + 1)).length = s.feeds.length - 1 := by simp; omega
      unfold rowF Own.lies
      rw [e1]
      exact ho
     clear ho hg d4 HD
     go_wp2
     refine bodyPost_end (results_none rfl _ _ _) rfl ?_
     exact HO.out
 | false =>
   rcases hop with hop | hop
   · have hb2 : (i.op == 1) = true := by simp [hop]
     have HE : Hid (changeS s i = ({ s with feeds := s.feeds.take k ++ ⟨i.car, true, 0⟩ :: s.feeds.drop k }, 0)) := by
      unfold Hid changeS
      rw [if_pos hop, HFo.out.2.1, if_neg (by simp), HFo.out.2.2.2 rfl]
      rfl
     have HWl : Hid (∀ o, WorkAt 90 (w1.drew.alloc o) B pb s hv mv vh (.slice A s.feeds.length c) vm X) := fun o => HW2.out.to ((Below.drew (Below.refl _ _)).alloc (Nat.le_refl _) _)
     have HIn : Hid (Calls Tryz.prog 107 #[.slice A s.feeds.length c, .int .i64 k, .slice (some ⟨w1.heap.size, 0, none⟩) 1 1] (w1.drew.alloc (.cells #[.int .i64 i.car, .bool true, .int .i64 0] 125)) fun e w' => insOutF B s.feeds.length (.slice A s.feeds.length c) ((s.feeds.take k ++ ⟨i.car, true, 0⟩ :: s.feeds.drop k).map Fd.cells).flatten (w1.drew.alloc (.cells #[.int .i64 i.car, .bool true, .int .i64 0] 125)) e w') := by
      have e1 : ((s.feeds.take k ++ (⟨i.car, true, 0⟩ : Fd) :: s.feeds.drop k).map Fd.cells).flatten = (s.feeds.map Fd.cells).flatten.take (k * 3) ++ ([.int .i64 i.car, .bool true, .int .i64 0] ++ (s.feeds.map Fd.cells).flatten.drop (k * 3)) := by
       rw [(flat_cut Fd.cells fd_len k s.feeds).1, (flat_cut Fd.cells fd_len k s.feeds).2]; simp [Fd.cells]
      rw [e1]
      refine insertF_any B s.feeds.length k _ _ (one3f _) (by omega) _ (HWl.out _).rf hkl (by show B ≤ (w1.alloc _).heap.size; simp; omega) w1.heap.size 1 [.int .i64 i.car, .bool true, .int .i64 0] rfl (heap_alloc_new w1.drew _) (by intro u hu; simp only [List.mem_cons, List.not_mem_nil, or_false] at hu; rcases hu with rfl | rfl | rfl <;> rfl) ?_
      intro e
      have := (World.ownsRow.lt HRf.out _ e).2
      omega
     clear hop
     go_upto_region 2 with fail
     have c2d : w1.drew.cell? ⟨pb, 2, none⟩ = some (.slice A s.feeds.length c) := c2
     have y5d : w1.drew.cell? ⟨w.heap.size, 5, none⟩ = some (.int .i64 i.car) := y5
     have c2a := cell_al c2 (.cells #[.int .i64 i.car, .bool true, .int .i64 0] 125)
     go_region_with (first | (go_at_call 107; refine HIn.out.mono ?_; rintro e w2 ⟨g, c', rfl, ho, hg, hat⟩; obtain ⟨-, -, d1, -, d4⟩ := (HWl.out _).struct hg HW2.out.pbF; have d4' := d4 2; clear d4))
     all_goals
      have HO : Hid (endOut B pb (changeS s i) X w (.returned (.tuple #[])) (w2.setCell ⟨pb, 2, none⟩ (.slice (some ⟨g, 0, none⟩) (s.feeds.length + 1) c'))) := by
       refine endOut.go HE.out ⟨hv, mv, vh, _, vm, (HWl.out _).setFeeds hg ?_ (fun k hk => ?_)⟩ ((((HB1.out.drew).alloc (by show B ≤ w1.heap.size; omega) _).trans (Below.of_grown hg (by simp; omega) (fun k hk => (World.ownsRow.lt (HWl.out (.cells #[.int .i64 i.car, .bool true, .int .i64 0] 125)).rf k hk).1))).setCell (by exact hpl.1) _)
       · have e1 : (s.feeds.take k ++ (⟨i.car, true, 0⟩ : Fd) :: s.feeds.drop k).length = s.feeds.length + 1 := by simp; omega
         unfold rowF Own.lies
         rw [e1]
         exact ho
       · obtain rfl : g = k := Option.some.inj hk
         rcases hat with h | h
         · exact Or.inl h
         · exact Or.inr (by omega)
      clear ho hg hat HWl HIn
      go_wp2
      refine bodyPost_end (results_none rfl _ _ _) rfl ?_
      exact HO.out
   · have hb2 : (i.op == 1) = false := beq_eq_false_iff_ne.2 (by omega)
     have HE : Hid (changeS s i = (bed0, 36)) := by unfold Hid changeS; rw [if_neg (by omega), HFo.out.2.1]; rfl
     have HR := Lib.hid (endOut.stop (pb := pb) (X := X) HE.out (by decide) (WorkX.owns ⟨hv, mv, vh, _, vm, HW2.out⟩) HB1.out)
     unfold stopE stopV at HR
     clear hop HE
     go_wp2
     exact ⟨rfl, HR.out⟩
end Go.Proofs.YtflpikickbellaaGreat
namespace Go.Proofs.YtflpikickbellaaGreat
open Go.RowKit
set_option maxRecDepth 100000
theorem len_le : ∀ {l : List Int} {a b : Int}, a ≤ b → l.Pairwise (· < ·) → (∀ x ∈ l, a ≤ x ∧ x < b) → (l.length : Int) ≤ b - a
 | [], a, b, hab, _, _ => by simp; omega
 | x :: l, a, b, hab, hp, hm => by
   have h1 := List.pairwise_cons.1 hp
   have hx := hm x List.mem_cons_self
   have ih := len_le (l := l) (a := x + 1) (b := b) (by omega) h1.2 (fun y hy => ⟨by have := h1.1 y hy; omega, (hm y (List.mem_cons_of_mem _ hy)).2⟩)
   simp only [List.length_cons]
   omega
theorem hooks_le {l : List Hk} (hn : ∀ h ∈ l, h.near) (hr : risB ltH l = true) : l.length ≤ 402 := by
 have hp := ris_pair ltH_tr hr
 have hp2 : (l.map fun h => h.bed * 201 + h.at_ + 100).Pairwise (· < ·) := by
  rw [List.pairwise_map]
  refine hp.imp_of_mem fun {a b} ha hb hab => ?_
  have h1 := hn a ha
  have h2 := hn b hb
  unfold Hk.near at h1 h2
  unfold ltH at hab
  have := of_decide_eq_true hab
  omega
 have := len_le (a := 0) (b := 402) (by omega) hp2 (fun x hx => by
  obtain ⟨h, hh, rfl⟩ := List.mem_map.1 hx
  have h1 := hn h hh
  unfold Hk.near at h1
  omega)
 rw [List.length_map] at this
 omega
theorem key_lt {b n : Int} {y : Hk} {ls : List Int} (h : keyH b n y < 0) : ltH y ⟨b, n, ls⟩ = true := by
 unfold keyH placeI at h
 unfold ltH
 refine decide_eq_true ?_
 simp only at h ⊢
 split at h <;> omega
theorem key_gt {b n : Int} {y : Hk} {ls : List Int} (h : 0 < keyH b n y) : ltH ⟨b, n, ls⟩ y = true := by
 unfold keyH placeI at h
 unfold ltH
 refine decide_eq_true ?_
 simp only at h ⊢
 split at h <;> omega
theorem put_pair {l : List Hk} (h : risB ltH l = true) (b n : Int) (ls : List Int) : risB ltH (putAt l b n ls) = true := by
 have hp := ris_pair ltH_tr h
 refine ris_of_pair ?_
 unfold putAt setF
 have hlo : (loF (keyH b n) l).Pairwise (fun a b => ltH a b = true) := hp.sublist List.filter_sublist
 have hhi : (hiF (keyH b n) l).Pairwise (fun a b => ltH a b = true) := hp.sublist List.filter_sublist
 have hx : ∀ x ∈ (if ls = [] then [] else [(⟨b, n, ls⟩ : Hk)]), x = ⟨b, n, ls⟩ := fun x hx => by
  split at hx
  · simp at hx
  · simpa using hx
 rw [List.pairwise_append, List.pairwise_append]
 refine ⟨hlo, ⟨?_, hhi, fun x hx' y hy => ?_⟩, fun x hx' y hy => ?_⟩
 · split
   · exact List.Pairwise.nil
   · exact List.pairwise_singleton _ _
 · rw [hx x hx']; exact key_gt (hiF_hi hy)
 · rcases List.mem_append.1 hy with hy | hy
   · rw [hx y hy]; exact key_lt (loF_lo hx')
   · exact ltH_tr _ ⟨b, n, ls⟩ _ (key_lt (loF_lo hx')) (key_gt (hiF_hi hy))
theorem mem_put {l : List Hk} {b n : Int} {ls : List Int} {x : Hk} (h : x ∈ putAt l b n ls) : x ∈ l ∨ (ls ≠ [] ∧ x = ⟨b, n, ls⟩) := by
 unfold putAt setF at h
 rcases List.mem_append.1 h with h | h
 · exact Or.inl (List.mem_filter.1 h).1
 · rcases List.mem_append.1 h with h | h
   · split at h
     · simp at h
     · rename_i hne; exact Or.inr ⟨hne, by simpa using h⟩
   · exact Or.inl (List.mem_filter.1 h).1
theorem StOk.put {s : BedS} (h : StOk s) {b n : Int} (hb : 0 ≤ b ∧ b ≤ 1) (hn : needleP n) {ls : List Int} (hl : ls.length ≤ 6) : StOk { s with hooks := putAt s.hooks b n ls } := by
 have hnear : ∀ x ∈ putAt s.hooks b n ls, x.near := fun x hx => by
  rcases mem_put hx with hx | ⟨_, rfl⟩
  · exact h.seek.near x hx
  · unfold needleP at hn; exact ⟨hb.1, hb.2, hn.1, hn.2⟩
 have hr := put_pair h.seek.ris b n ls
 refine ⟨⟨by have := hooks_le hnear hr; show (putAt s.hooks b n ls).length ≤ 9000; omega, hnear, hr⟩, fun x hx => ?_, h.rack, h.made⟩
 rcases mem_put hx with hx | ⟨_, rfl⟩
 · exact h.loops x hx
 · exact hl
theorem StOk.lay {s t : BedS} (h : StOk s) {b n : Int} (hb : 0 ≤ b ∧ b ≤ 1) (hn : needleP n) {l : List Int} (hl : layS s b n l = some t) : StOk t := by
 unfold layS at hl
 split at hl
 · cases hl
 · rename_i h6
   cases hl
   exact h.put hb hn (by omega)
theorem StOk.across {s t : BedS} (h : StOk s) {i : Ins} {l : List Int} (hb : 0 ≤ i.bed ∧ i.bed ≤ 1) (ht : needleP i.to_) (hl : acrossS s i l = some t) : StOk t := by
 unfold acrossS at hl
 split at hl
 · cases hl
 · exact h.lay (by omega) ht hl
theorem pass_same {s t : BedS} {i : Ins} (h : passS s i = some t) : t.hooks = s.hooks ∧ t.rack = s.rack ∧ t.made = s.made := by
 unfold passS at h
 split at h
 · cases h
 · split at h
   · cases h
   · cases h; exact ⟨rfl, rfl, rfl⟩
theorem StOk.pass {s t : BedS} (h : StOk s) {i : Ins} (hp : passS s i = some t) : StOk t := by
 obtain ⟨h1, h2, h3⟩ := pass_same hp
 exact ⟨by rw [h1]; exact h.seek, by rw [h1]; exact h.loops, by rw [h2]; exact h.rack, by rw [h3]; exact h.made⟩
theorem lay_same {s t : BedS} {b n : Int} {l : List Int} (h : layS s b n l = some t) : t = { s with hooks := putAt s.hooks b n (heldAt s.hooks b n ++ l) } := by
 unfold layS at h
 split at h
 · cases h
 · cases h; rfl
theorem held_put_ne {l : List Hk} {b n b' n' : Int} (hr : risB ltH l = true) (ls : List Int) (hne : b ≠ b' ∨ n ≠ n') : heldAt (putAt l b n ls) b' n' = heldAt l b' n' := by
 have hk : hkAt b' n' ⟨b, n, ls⟩ = false := decide_eq_false (fun h => by have h1 : b = b' := h.1; have h2 : n = n' := h.2; omega)
 have key0 : ∀ {x : Hk}, keyH b n x = 0 → hkAt b' n' x = false := fun {x} hz => by
  unfold keyH placeI at hz
  refine decide_eq_false (fun h => ?_)
  simp only at hz
  split at hz <;> omega
 have hm := monoH hr b n
 have hsp : ∀ {l : List Hk}, Mono (keyH b n) l → l.find? (hkAt b' n') = (loF (keyH b n) l ++ hiF (keyH b n) l).find? (hkAt b' n') := by
  intro l
  induction l with
  | nil => intro _; rfl
  | cons a l ih =>
    intro hm
    have h2 := List.pairwise_cons.1 hm
    have ih2 := ih h2.2
    unfold loF hiF at ih2 ⊢
    rcases Int.lt_trichotomy (keyH b n a) 0 with hz | hz | hz
    · rw [List.filter_cons_of_pos (by simpa using hz), List.filter_cons_of_neg (by simp; omega), List.cons_append, List.find?_cons, List.find?_cons, ih2]
    · rw [List.filter_cons_of_neg (by simp; omega), List.filter_cons_of_neg (by simp; omega), List.find?_cons, key0 hz, ih2]
    · have hnil : l.filter (fun x => decide (keyH b n x < 0)) = [] := List.filter_eq_nil_iff.2 fun x hx => by
       simp only [decide_eq_true_eq]
       intro hx0
       have := h2.1 x hx (by omega)
       omega
      rw [hnil, List.nil_append] at ih2
      rw [List.filter_cons_of_neg (by simp; omega), List.filter_cons_of_pos (by simpa using hz), hnil, List.nil_append, List.find?_cons, List.find?_cons, ih2]
 have e : (putAt l b n ls).find? (hkAt b' n') = l.find? (hkAt b' n') := by
  rw [hsp hm]
  unfold putAt setF
  split
  · rw [List.nil_append]
  · rw [List.find?_append, List.find?_append, List.find?_append, List.find?_cons, hk]
    rfl
 unfold heldAt
 rw [e]
theorem held_put_nil {l : List Hk} {b n : Int} : heldAt (putAt l b n []) b n = [] := by
 unfold putAt
 rw [if_pos rfl]
 exact held_none (fun x hx => set_ne x hx)
end Go.Proofs.YtflpikickbellaaGreat
namespace Go.Proofs.YtflpikickbellaaGreat
open Go.RowKit Go.Shelf Go.Sort
set_option maxRecDepth 100000
theorem feed_set (l : List Fd) (k : Nat) (f : Fd) (hk : l[k]? = some f) (b : Bool) (x : Int) : ((l.map Fd.cells).flatten.set (k * 3 + 1) (.bool b)).set (k * 3 + 2) (.int .i64 x) = ((l.take k ++ ⟨f.car, b, x⟩ :: l.drop (k + 1)).map Fd.cells).flatten := by
 have hl := (List.getElem?_eq_some_iff.1 hk).1
 have h0 : (l.map Fd.cells)[k]? = some f.cells := by rw [List.getElem?_map, hk]; rfl
 rw [set_flat (sz := 3) (cells3f l) k (.bool b) f.cells h0 (by omega)]
 have h1 : ((l.map Fd.cells).set k (f.cells.set 1 (.bool b)))[k]? = some (f.cells.set 1 (.bool b)) := by rw [List.getElem?_set_self (by simpa using hl)]
 have hlen : ∀ cs ∈ (l.map Fd.cells).set k (f.cells.set 1 (.bool b)), cs.length = 3 := fun cs hcs => by
  rcases List.mem_or_eq_of_mem_set hcs with h | h
  · exact cells3f l cs h
  · rw [h]; rfl
 rw [set_flat (sz := 3) hlen k (.int .i64 x) _ h1 (by omega), List.set_set]
 congr 1
 rw [List.set_eq_take_append_cons_drop, if_pos (by simpa using hl)]
 simp [Fd.cells]
theorem feed_place {f : Fd} (h : feedOk f = true) : -217 ≤ f.place ∧ f.place ≤ 217 := by
 unfold feedOk at h
 rw [Bool.and_eq_true] at h
 have h2 := h.2
 split at h2
 · have := of_decide_eq_true h2; omega
 · have := of_decide_eq_true h2; omega
set_option maxHeartbeats 4000000 in
theorem pass_any (B pb : Nat) (s : BedS) (i : Ins) (X : List Own) (hk : StOk s) (hf : FdOk s) (hbd : 0 ≤ i.bed ∧ i.bed ≤ 1) (ha : needleP i.at_) (hc : carP i.car) (w : World) (hBw : B ≤ w.heap.size) (hw : WorkX 90 w B pb s X) :
 Calls Tryz.prog 101 #[.pointer (some ⟨pb, 0, none⟩), i.val] w fun e w' => stepOut B pb (passS s i) X w e w' := by
 obtain ⟨hv, mv, vh, vf, vm, hw⟩ := hw
 obtain ⟨A, c, rfl, hlc, -⟩ := hw.slf
 have hal := (Below.refl w.heap.size w).alloc (Nat.le_refl _) (insBox i)
 have hw1 := hw.to hal
 have HAl := Lib.hid hal
 have HX := Lib.hid (fun W hb => ins_box w i (W := W) hb)
 have HCa : Hid (Calls Tryz.prog 105 #[.pointer (some ⟨pb, 0, none⟩), .int .i64 i.car] (w.alloc (insBox i)) fun e w' => ∃ (k : Nat) (q : Bool), e = .returned (.tuple #[.int .i64 (k : Int), .bool q]) ∧ Found (cmpF s.feeds i.car) s.feeds.length k q ∧ Below (w.alloc (insBox i)).heap.size (w.alloc (insBox i)) w') := by
  obtain ⟨A0, c0, e0, -, hsl⟩ := hw1.slf
  cases e0
  exact carrier_any pb A c s.feeds (by have := hf.len; omega) hf.car i.car hc hf.ris _ hw1.cells.2.2.1 hsl
 have HF := Lib.hid hf
 have HW1 := Lib.hid hw1
 have hlen : s.feeds.length ≤ 9000 := hf.len
 have HCo : Hid (∀ W, W.cell? ⟨pb, 0, none⟩ = some (.int .i64 s.rack) → Calls Tryz.prog 142 #[.pointer (some ⟨pb, 0, none⟩), .int .u8 i.bed, .int .i64 i.at_] W fun e w' => e = .returned (.int .i64 (colI s.rack i.bed i.at_)) ∧ W = w') := fun W h => column_any pb s.rack i.bed i.at_ hk.rack hbd ha W h
 have hcol : -108 ≤ colI s.rack i.bed i.at_ ∧ colI s.rack i.bed i.at_ ≤ 108 := by
  unfold colI
  have h1 := hk.rack
  unfold needleP at ha
  have hb2 : i.bed = 0 ∨ i.bed = 1 := by omega
  rcases hb2 with h | h <;> rw [h] <;> omega
 unfold Ins.val
 clear hw hw1 hal hf hk
 go_enter Tryz.func101, Tryz.ntmps101
 go_upto_region 1 with fail
 obtain ⟨x0, x1, x2, x3, x4, x5, x6⟩ := HX.out _ (Below.refl _ _)
 go_wp2_with fail
 refine HCa.out.mono ?_
 rintro e w1 ⟨k, q, rfl, hfo, hb1⟩
 have HFo := Lib.hid (found_car HF.out.ris hfo)
 have hkl := hfo.le
 have HW2 := Lib.hid (HW1.out.to hb1)
 have HB1 := Lib.hid ((HAl.out.mono hBw).trans (hb1.mono (by simp; omega)))
 obtain ⟨y0, y1, y2, y3, y4, y5, y6⟩ := HX.out w1 (hb1.mono (by simp))
 simp only [Nat.zero_add] at y0 y1 y2 y3 y4 y5 y6
 clear hfo hb1 HCa x0 x1 x2 x3 x4 x5 x6
 have hcs := HW2.out.cells
 obtain ⟨c0, -, c2, -, -⟩ := hcs
 have hpl := HW2.out.base
 have hrf : w1.ownsRow B 125 3 (.slice A s.feeds.length c) s.feeds.length (s.feeds.map Fd.cells).flatten := HW2.out.rf
 have HRf := Lib.hid hrf
 clear hrf
 cases q with
 | false =>
   have HE : Hid (passS s i = none) := by
    unfold Hid passS
    have := HFo.out.2.1
    cases hfa : feedAt s.feeds i.car with
    | none => rfl
    | some f => rw [hfa] at this; cases this
   have HR := Lib.hid (stepOut.stop (pb := pb) (X := X) HE.out (WorkX.owns ⟨hv, mv, vh, _, vm, HW2.out⟩) HB1.out)
   unfold stopE stopV at HR
   clear HE
   go_wp2
   exact ⟨rfl, HR.out⟩
 | true =>
   obtain ⟨f, hfk, hfa, hfc⟩ := (HFo.out.2.2.1 rfl).1
   have hfp := feed_place (HF.out.ok f (List.mem_of_getElem? hfk))
   have hkl2 : k < s.feeds.length := (List.getElem?_eq_some_iff.1 hfk).1
   obtain ⟨g, rfl⟩ : ∃ g, A = some ⟨g, 0, none⟩ := by
    obtain ⟨g, cap, e, _⟩ := World.ownsRow.form HRf.out (by omega)
    exact ⟨g, (Value.slice.inj e).1⟩
   have hk9 : k < 9000 := by omega
   have f1 : w1.cell? ⟨g, k * 3 + 1, none⟩ = some (.bool f.fresh) := by
    rw [HRf.out.cellAt (k * 3 + 1) (by omega)]
    exact flat_at (cells3f _) (by rw [List.getElem?_map, hfk]; rfl) (show f.cells[1]? = some _ from rfl)
   have f2 : w1.cell? ⟨g, k * 3 + 2, none⟩ = some (.int .i64 f.place) := by
    rw [HRf.out.cellAt (k * 3 + 2) (by omega)]
    exact flat_at (cells3f _) (by rw [List.getElem?_map, hfk]; rfl) (show f.cells[2]? = some _ from rfl)
   have z1 : w1.frozen? ⟨g, k * 3 + 1, none⟩ = false := HRf.out.frozenAt _
   have z2 : w1.frozen? ⟨g, k * 3 + 2, none⟩ = false := HRf.out.frozenAt _
   have hk0 : (0 : Int) ≤ (k : Int) := by omega
   have hkn : (k : Int) < (s.feeds.length : Int) := by omega
   have HP : Hid (passS s i = if f.fresh = false ∧ wayI i * (2 * colI s.rack i.bed i.at_ - f.place) ≤ 0 then none else some { s with feeds := s.feeds.take k ++ ⟨f.car, false, 2 * colI s.rack i.bed i.at_ + wayI i⟩ :: s.feeds.drop (k + 1) }) := by
    unfold Hid passS
    rw [hfa]
    simp only []
    rw [(HFo.out.2.2.1 rfl).2, hfc]
    rfl
   have HG : Hid (∀ x, WorkX 90 ((w1.setCell ⟨g, k * 3 + 1, none⟩ (.bool false)).setCell ⟨g, k * 3 + 2, none⟩ (.int .i64 x)) B pb { s with feeds := s.feeds.take k ++ ⟨f.car, false, x⟩ :: s.feeds.drop (k + 1) } X ∧ Below B w ((w1.setCell ⟨g, k * 3 + 1, none⟩ (.bool false)).setCell ⟨g, k * 3 + 2, none⟩ (.int .i64 x))) := fun x => by
    obtain ⟨s1, s2⟩ := World.ownsRow.stored HRf.out (k * 3 + 1) (.bool false)
    obtain ⟨s3, s4⟩ := World.ownsRow.stored s1 (k * 3 + 2) (.int .i64 x)
    have hBg := (World.ownsRow.lt HRf.out g rfl).1
    refine ⟨⟨hv, mv, vh, _, vm, HW2.out.turnFeeds (grown_trans s2 s4) ?_⟩, (HB1.out.setCell (p := ⟨g, k * 3 + 1, none⟩) hBg _).setCell (p := ⟨g, k * 3 + 2, none⟩) hBg _⟩
    have e1 : (s.feeds.take k ++ (⟨f.car, false, x⟩ : Fd) :: s.feeds.drop (k + 1)).length = s.feeds.length := by simp; omega
    unfold rowF Own.lies
    rw [e1, ← feed_set s.feeds k f hfk]
    exact s3
   clear HFo hfk hfa hfc HRf HF HX HAl
   generalize colI s.rack i.bed i.at_ = col at HCo hcol HP
   generalize hfr : f.fresh = fr at f1 HP
   generalize hfpl : f.place = fp at f2 HP hfp
   clear hfr hfpl
   unfold wayI at HP
   cases hr : i.right with
   | true =>
     rw [hr] at y1 HP
     cases fr with
     | true =>
       have HE : Hid (passS s i = some { s with feeds := s.feeds.take k ++ ⟨f.car, false, 2 * col + 1⟩ :: s.feeds.drop (k + 1) }) := by
        rw [Hid, HP.out, if_neg (by simp)]; rfl
       clear HP hr
       have HO := Lib.hid (stepOut.go HE.out (HG.out (2 * col + 1)).1 (HG.out (2 * col + 1)).2)
       clear HG HE
       go_wp2_with (go_at_call 142; refine (HCo.out _ (by assumption)).mono ?_; rintro e w2 ⟨rfl, rfl⟩)
       refine bodyPost_end (results_none rfl _ _ _) rfl ?_
       exact HO.out
     | false =>
       by_cases hbad : 2 * col ≤ fp
       · have HE : Hid (passS s i = none) := by
          rw [Hid, HP.out, if_pos ⟨rfl, by show 1 * (2 * col - fp) ≤ 0; omega⟩]
         have HR := Lib.hid (stepOut.stop (pb := pb) (X := X) HE.out (WorkX.owns ⟨hv, mv, vh, _, vm, HW2.out⟩) HB1.out)
         unfold stopE stopV at HR
         have g1 : decide (2 * col ≤ fp) = true := decide_eq_true hbad
         have g2 : decide (2 * col - fp ≤ 0) = true := decide_eq_true (by omega)
         clear HP HG HE hr
         go_wp2_with (go_at_call 142; refine (HCo.out _ (by assumption)).mono ?_; rintro e w2 ⟨rfl, rfl⟩)
         exact ⟨rfl, HR.out⟩
       · have HE : Hid (passS s i = some { s with feeds := s.feeds.take k ++ ⟨f.car, false, 2 * col + 1⟩ :: s.feeds.drop (k + 1) }) := by
          rw [Hid, HP.out, if_neg (fun h => by have h2 : 1 * (2 * col - fp) ≤ 0 := h.2; omega)]; rfl
         have g1 : decide (2 * col ≤ fp) = false := decide_eq_false hbad
         have g2 : decide (2 * col - fp ≤ 0) = false := decide_eq_false (by omega)
         clear HP hr
         have HO := Lib.hid (stepOut.go HE.out (HG.out (2 * col + 1)).1 (HG.out (2 * col + 1)).2)
         clear HG HE
         go_wp2_with (go_at_call 142; refine (HCo.out _ (by assumption)).mono ?_; rintro e w2 ⟨rfl, rfl⟩)
         refine bodyPost_end (results_none rfl _ _ _) rfl ?_
         exact HO.out
   | false =>
     rw [hr] at y1 HP
     cases fr with
     | true =>
       have HE : Hid (passS s i = some { s with feeds := s.feeds.take k ++ ⟨f.car, false, 2 * col + -1⟩ :: s.feeds.drop (k + 1) }) := by
        rw [Hid, HP.out, if_neg (by simp)]; rfl
       clear HP hr
       have HO := Lib.hid (stepOut.go HE.out (HG.out (2 * col + -1)).1 (HG.out (2 * col + -1)).2)
       clear HG HE
       go_wp2_with (go_at_call 142; refine (HCo.out _ (by assumption)).mono ?_; rintro e w2 ⟨rfl, rfl⟩)
       refine bodyPost_end (results_none rfl _ _ _) rfl ?_
       exact HO.out
     | false =>
       by_cases hbad : fp ≤ 2 * col
       · have HE : Hid (passS s i = none) := by
          rw [Hid, HP.out, if_pos ⟨rfl, by show -1 * (2 * col - fp) ≤ 0; omega⟩]
         have HR := Lib.hid (stepOut.stop (pb := pb) (X := X) HE.out (WorkX.owns ⟨hv, mv, vh, _, vm, HW2.out⟩) HB1.out)
         unfold stopE stopV at HR
         have g1 : decide (fp ≤ 2 * col) = true := decide_eq_true hbad
         have g2 : decide (0 ≤ 2 * col - fp) = true := decide_eq_true (by omega)
         clear HP HG HE hr
         go_wp2_with (go_at_call 142; refine (HCo.out _ (by assumption)).mono ?_; rintro e w2 ⟨rfl, rfl⟩)
         exact ⟨rfl, HR.out⟩
       · have HE : Hid (passS s i = some { s with feeds := s.feeds.take k ++ ⟨f.car, false, 2 * col + -1⟩ :: s.feeds.drop (k + 1) }) := by
          rw [Hid, HP.out, if_neg (fun h => by have h2 : -1 * (2 * col - fp) ≤ 0 := h.2; omega)]; rfl
         have g1 : decide (fp ≤ 2 * col) = false := decide_eq_false hbad
         have g2 : decide (0 ≤ 2 * col - fp) = false := decide_eq_false (by omega)
         clear HP hr
         have HO := Lib.hid (stepOut.go HE.out (HG.out (2 * col + -1)).1 (HG.out (2 * col + -1)).2)
         clear HG HE
         go_wp2_with (go_at_call 142; refine (HCo.out _ (by assumption)).mono ?_; rintro e w2 ⟨rfl, rfl⟩)
         refine bodyPost_end (results_none rfl _ _ _) rfl ?_
         exact HO.out
theorem step_cases {B pb : Nat} {r : Option BedS} {X : List Own} {w w' : World} {e : Ending} (h : stepOut B pb r X w e w') : (r = none ∧ e = stopE 36 ∧ Owns w' B X ∧ Below B w w') ∨ ∃ t, r = some t ∧ e = .returned (.tuple #[]) ∧ WorkX 90 w' B pb t X ∧ Below B w w' := by
 unfold stepOut at h
 cases r with
 | none => exact Or.inl ⟨rfl, h⟩
 | some t => exact Or.inr ⟨t, rfl, h⟩
theorem loop_cases {B pb : Nat} {s : BedS} {i : Ins} {ps : List Int} {X : List Own} {w w' : World} {e : Ending} (h : loopOut B pb s i ps X w e w') : (s.made.length = 4000 ∧ e = stopE 4 ∧ Owns w' B X ∧ Below B w w') ∨ (s.made.length ≠ 4000 ∧ e = .returned (.int .i64 (s.made.length : Int)) ∧ WorkX 90 w' B pb (loopS s i ps) X ∧ Below B w w') := by
 unfold loopOut at h
 split at h
 · rename_i h1; exact Or.inl ⟨h1, h⟩
 · rename_i h1; exact Or.inr ⟨h1, h⟩
theorem lay_made {s t : BedS} {b n : Int} {l : List Int} (h : layS s b n l = some t) : t.made = s.made := by rw [lay_same h]
set_option maxHeartbeats 4000000 in
theorem yarn1_any (B pb : Nat) (s : BedS) (i : Ins) (X : List Own) (hk : StOk s) (hf : FdOk s) (hop : i.op = 4 ∨ i.op = 5) (hbd : 0 ≤ i.bed ∧ i.bed ≤ 1) (ha : needleP i.at_) (hc : carP i.car) (w : World) (hBw : B ≤ w.heap.size) (hw : WorkX 90 w B pb s X) :
 Calls Tryz.prog 77 #[.pointer (some ⟨pb, 0, none⟩), i.val] w fun e w' => endOut B pb (yarnS s i) X w e w' := by
 have hw1 : WorkX 90 (w.alloc (insBox i)) B pb s (rowX w.heap.size i :: X) := hw.add ((Below.refl _ w).alloc (Nat.le_refl _) (insBox i)) (rowX_new w i)
 have hal := (Below.refl B w).alloc hBw (insBox i)
 have HPa := Lib.hid (pass_any B pb s i (rowX w.heap.size i :: X) hk hf hbd ha hc (w.alloc (insBox i)) (by simp; omega) hw1)
 have HK := Lib.hid hk
 have HAl := Lib.hid hal
 have HN := Lib.hid (show _ ∧ _ from ⟨hbd, ha⟩)
 obtain ⟨x0, x1, x2, x3, x4, x5, x6⟩ := rowX_at (B := B) (hw1.row List.mem_cons_self)
 unfold Ins.val at HPa ⊢
 clear hw hw1 hk hf ha hc hal hbd
 go_enter Tryz.func77, Tryz.ntmps77
 go_wp2_with fail
 refine HPa.out.mono ?_
 intro e w1 h1
 rcases step_cases h1 with ⟨hp, rfl, ho1, hb1⟩ | ⟨t, hp, rfl, hwt, hb1⟩
 · have HE : Hid (yarnS s i = (bed0, 36)) := by unfold Hid yarnS; rw [hp]
   have HR := Lib.hid (endOut.stop (pb := pb) (X := X) HE.out (by decide) ho1.tail (HAl.out.trans hb1))
   unfold stopE stopV at HR ⊢
   clear h1 hp ho1 hb1 HE
   go_wp2
   exact ⟨rfl, HR.out⟩
 · have HB1 := Lib.hid (HAl.out.trans hb1)
   have HW1 := Lib.hid hwt
   have HP := Lib.hid hp
   have HKt := Lib.hid (HK.out.pass hp)
   have hbz := hb1.size
   obtain ⟨y0, y1, y2, y3, y4, y5, y6⟩ := rowX_at (B := B) (hwt.row List.mem_cons_self)
   clear h1 hp hb1 hwt HPa HK x0 x1 x2 x3 x4 x5 x6
   rcases hop with hop | hop
   · have b4 : (i.op == 4) = true := by simp [hop]
     have HY : Hid (yarnS s i = match layS t i.bed i.at_ [(t.made.length : Int)] with | none => (bed0, 36) | some u => if t.made.length = 4000 then (bed0, 4) else (loopS u i [], 0)) := by
      unfold Hid yarnS
      rw [HP.out]
      simp only []
      rw [if_neg (by omega), if_pos hop]
      cases layS t i.bed i.at_ [(t.made.length : Int)] <;> rfl
     have hcs : w1.cell? ⟨pb, 3, none⟩ = w1.cell? ⟨pb, 3, none⟩ := rfl
     obtain ⟨A, c, c3, hpl⟩ : ∃ A c, w1.cell? ⟨pb, 3, none⟩ = some (.slice A t.made.length c) ∧ pb < w1.heap.size := by
      obtain ⟨hv, mv, vh, vf, vm, hwa⟩ := HW1.out
      obtain ⟨A, c, rfl, -, -⟩ := hwa.slm
      exact ⟨A, c, hwa.cells.2.2.2.1, hwa.base.2⟩
     have hbx : w.heap.size < w1.heap.size := lt_of_cell y0
     have hml : t.made.length ≤ 9000 := HKt.out.made
     have HLy : Hid (Calls Tryz.prog 102 #[.pointer (some ⟨pb, 0, none⟩), .int .u8 i.bed, .int .i64 i.at_, .slice (some ⟨w1.heap.size, 0, none⟩) 1 1] (w1.drew.alloc (.cells #[.int .i64 (t.made.length : Int)] 3)) fun e w' => stepOut B pb (layS t i.bed i.at_ [(t.made.length : Int)]) (rowI (.slice (some ⟨w1.heap.size, 0, none⟩) 1 1) [(t.made.length : Int)] :: rowX w.heap.size i :: X) (w1.drew.alloc (.cells #[.int .i64 (t.made.length : Int)] 3)) e w') := by
      refine lay_any B pb t (rowX w.heap.size i :: X) _ _ HKt.out.seek HKt.out.loops (by simp) i.bed i.at_ HN.out.1 HN.out.2 _ (by have := HB1.out.size; show B ≤ (w1.alloc _).heap.size; simp; omega) ?_
      exact HW1.out.add (o := rowI (.slice (some ⟨w1.heap.size, 0, none⟩) 1 1) [(t.made.length : Int)]) ((Below.drew (Below.refl _ w1)).alloc (Nat.le_refl _) _) (World.ownsRow_lit w1.drew #[.int .i64 (t.made.length : Int)] 1 (Nat.le_refl _) (by decide) rfl)
     have hBal : Below B w (w1.drew.alloc (.cells #[.int .i64 (t.made.length : Int)] 3)) := (HB1.out.drew).alloc (by show B ≤ w1.heap.size; have := HB1.out.size; omega) _
     have HD : Hid (∀ e w', stepOut B pb (layS t i.bed i.at_ [(t.made.length : Int)]) (rowI (.slice (some ⟨w1.heap.size, 0, none⟩) 1 1) [(t.made.length : Int)] :: rowX w.heap.size i :: X) (w1.drew.alloc (.cells #[.int .i64 (t.made.length : Int)] 3)) e w' →
      (e = stopE 36 ∧ endOut B pb (yarnS s i) X w e w') ∨ (e = .returned (.tuple #[]) ∧ Hid (∃ u, layS t i.bed i.at_ [(t.made.length : Int)] = some u ∧ WorkX 90 w' B pb u (rowX w.heap.size i :: X)) ∧ Hid (Below B w w'))) := fun e w' h => by
      rcases step_cases h with ⟨hl, rfl, ho, hb⟩ | ⟨u, hl, rfl, hwu, hb⟩
      · refine Or.inl ⟨rfl, endOut.stop ?_ (by decide) ho.tail.tail (hBal.trans hb)⟩
        rw [HY.out, hl]
      · exact Or.inr ⟨rfl, ⟨u, hl, hwu.less⟩, hBal.trans hb⟩
     clear hop hcs HP
     go_upto_region 4 with fail
     go_cut [24] (fun s24 wr => ∃ v24, v24 = s24 ∧ Hid (∃ u, layS t i.bed i.at_ [(t.made.length : Int)] = some u ∧ WorkX 90 wr B pb u (rowX w.heap.size i :: X)) ∧ Hid (Below B w wr))
     case first =>
      have y2d : w1.drew.cell? ⟨w.heap.size, 2, none⟩ = some (.int .u8 i.bed) := y2
      have y3d : w1.drew.cell? ⟨w.heap.size, 3, none⟩ = some (.int .i64 i.at_) := y3
      have c3d : w1.drew.cell? ⟨pb, 3, none⟩ = some (.slice A t.made.length c) := c3
      have y2a := cell_al y2 (.cells #[.int .i64 (t.made.length : Int)] 3)
      have y3a := cell_al y3 (.cells #[.int .i64 (t.made.length : Int)] 3)
      go_region_with (first | (go_at_call 102; refine HLy.out.mono ?_; intro e w2 h2; rcases HD.out e w2 h2 with ⟨rfl, ho⟩ | ⟨rfl, hu, hbu⟩; exact ⟨rfl, ho⟩))
      all_goals
       go_wp2_with fail
       go_meet
       exact ⟨_, rfl, hu, hbu⟩
     case rest =>
      obtain ⟨v24, rfl, HU, HBu⟩ := hcut
      obtain ⟨u, hl, hwu⟩ := HU.out
      obtain ⟨z0, z1, z2, z3, z4, z5, z6⟩ := rowX_at (B := B) (hwu.row List.mem_cons_self)
      have hum := lay_made hl
      have HLo := Lib.hid (loop_any B pb u i (.slice none 0 0) [] (rowX w.heap.size i :: X) (by rw [hum]; exact hml) wc (by have := HBu.out.size; omega) hwu.addNil)
      have HY2 : Hid (yarnS s i = if t.made.length = 4000 then (bed0, 4) else (loopS u i [], 0)) := by rw [Hid, HY.out, hl]
      unfold Ins.val at HLo
      have HM := Lib.hid hum
      clear HU hl hwu HY hum HLy HD y0 y1 y2 y3 y4 y5 y6 c3 hBal
      go_wp2_with fail
      refine HLo.out.mono ?_
      intro e w2 h2
      rcases loop_cases h2 with ⟨hm, rfl, ho2, hb⟩ | ⟨hm, rfl, hw2, hb⟩
      · have HR := Lib.hid (endOut.stop (pb := pb) (X := X) (w := w) (HY2.out.trans (by rw [← HM.out, if_pos hm])) (by decide) ho2.tail (HBu.out.trans hb))
        unfold stopE stopV at HR ⊢
        clear h2 hm ho2 hb
        go_wp2
        exact ⟨rfl, HR.out⟩
      · have HR := Lib.hid (endOut.go (w := w) (HY2.out.trans (by rw [← HM.out, if_neg hm])) hw2.less (HBu.out.trans hb))
        clear h2 hm hb hw2
        go_wp2
        refine bodyPost_end (results_none rfl _ _ _) rfl ?_
        exact HR.out
   · have b4 : (i.op == 4) = false := beq_eq_false_iff_ne.2 (by omega)
     have b3 : (i.op == 3) = false := beq_eq_false_iff_ne.2 (by omega)
     have b6 : (i.op == 6) = false := beq_eq_false_iff_ne.2 (by omega)
     have HY : Hid (yarnS s i = (t, 0)) := by
      unfold Hid yarnS
      rw [HP.out]
      simp only []
      rw [if_pos hop]
     have HR := Lib.hid (endOut.go HY.out HW1.out.less HB1.out)
     clear hop
     go_wp2
     refine bodyPost_end (results_none rfl _ _ _) rfl ?_
     exact HR.out
end Go.Proofs.YtflpikickbellaaGreat
