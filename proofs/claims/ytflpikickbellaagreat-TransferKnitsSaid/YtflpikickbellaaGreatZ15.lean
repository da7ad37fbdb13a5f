/- Layer 32. -/
import Derived.Test.YtflpikickbellaaGreatZ14
namespace Go.Proofs.YtflpikickbellaaGreat
open Go.RowKit Go.Shelf Go.Sort
set_option maxRecDepth 100000
def inM (s : Sft) (come : Nat → Bool) (x : Int) : Bool := decide (0 ≤ x) && (decide (x < (s.n : Int)) && waitN s come x.toNat)
def leftM (s : Sft) (come : Nat → Bool) (last x : Int) : Bool := decide (offN s x.toNat ≠ last) && hasN s come last
def preM (s : Sft) (come : Nat → Bool) (x : Int) : Bool := s.first.any fun p => decide (p.2 = x) && waitN s come p.1.toNat
def mayS (s : Sft) : (Nat → Bool) → Int → List Int → Bool
 | come, _, [] => decide (stopsN s come = [])
 | come, last, x :: l => if inM s come x && !(leftM s come last x) && !(preM s come x) then mayS s (putN come x.toNat) (offN s x.toNat) l else false
section
variable {W0 W : World} {wb mb : Nat} {A F : Option Addr} {c fc : Nat} {s : Sft} {come : Nat → Bool} {out : List Int} {v : Value} {bx : List (Nat × Value)} {n : Nat} {G : Int → Option Value}
end
theorem may_cons {s : Sft} {come : Nat → Bool} {last x : Int} {l : List Int} : mayS s come last (x :: l) = true ↔ ∃ i : Nat, x = (i : Int) ∧ i < s.n ∧ waitN s come i = true ∧ (offN s i = last ∨ hasN s come last = false) ∧ (∀ p ∈ s.first, p.2 = (i : Int) → waitN s come p.1.toNat = false) ∧ mayS s (putN come i) (offN s i) l = true := by
 have hu : mayS s come last (x :: l) = if inM s come x && !(leftM s come last x) && !(preM s come x) then mayS s (putN come x.toNat) (offN s x.toNat) l else false := rfl
 rw [hu]
 constructor
 · intro h
   split at h
   · rename_i hc
     simp only [Bool.and_eq_true, Bool.not_eq_true'] at hc
     obtain ⟨⟨h1, h2⟩, h3⟩ := hc
     unfold inM at h1
     simp only [Bool.and_eq_true, decide_eq_true_eq] at h1
     obtain ⟨a1, a2, a3⟩ := h1
     refine ⟨x.toNat, by omega, by omega, a3, ?_, ?_, h⟩
     · unfold leftM at h2
       rw [Bool.and_eq_false_iff, decide_eq_false_iff_not, Classical.not_not] at h2
       exact h2
     · intro p hp he
       unfold preM at h3
       rw [List.any_eq_false] at h3
       have := h3 p hp
       simp only [Bool.and_eq_true, decide_eq_true_eq, not_and, Bool.not_eq_true] at this
       exact this (by rw [he]; omega)
   · cases h
 · rintro ⟨i, rfl, hi, hw, hl, hp, hm⟩
   have e : ((i : Int)).toNat = i := by omega
   rw [e, if_pos]
   · exact hm
   · simp only [Bool.and_eq_true, Bool.not_eq_true']
     refine ⟨⟨?_, ?_⟩, ?_⟩
     · unfold inM
       simp only [Bool.and_eq_true, decide_eq_true_eq]
       exact ⟨by omega, by omega, by rw [e]; exact hw⟩
     · unfold leftM
       rw [Bool.and_eq_false_iff, decide_eq_false_iff_not, Classical.not_not, e]
       exact hl
     · unfold preM
       rw [List.any_eq_false]
       intro p hp2
       simp only [Bool.and_eq_true, decide_eq_true_eq, not_and, Bool.not_eq_true]
       exact hp p hp2
theorem may_nil {s : Sft} {come : Nat → Bool} {last : Int} : mayS s come last [] = true ↔ stopsN s come = [] := by
 show decide (stopsN s come = []) = true ↔ _
 rw [decide_eq_true_eq]
theorem no_stops {s : Sft} (hs : SftOk s) {come : Nat → Bool} (h : stopsN s come = []) (t : Int) : hasN s come t = false := by
 cases e : hasN s come t with
 | false => rfl
 | true =>
   have : t ∈ stopsN s come := by unfold stopsN; rw [List.mem_filter, mem_stops]; exact ⟨has_range hs e, e⟩
   rw [h] at this; cases this
theorem has_false {s : Sft} {come : Nat → Bool} {t : Int} : hasN s come t = false ↔ ∀ i, i < s.n → offN s i = t → waitN s come i = false := by
 constructor
 · intro h i hi ho
   cases e : waitN s come i with
   | false => rfl
   | true => rw [hasN_iff.2 ⟨i, hi, ho, e⟩] at h; cases h
 · intro h
   cases e : hasN s come t with
   | false => rfl
   | true =>
     obtain ⟨i, hi, ho, hw⟩ := hasN_iff.1 e
     rw [h i hi ho] at hw; cases hw
def fillN (s : Sft) (come : Nat → Bool) (t : Int) : Nat → Bool := fun j => come j || (decide (j < s.n) && (decide (offN s j = t) && movedN s j))
theorem fill_put {s : Sft} {come : Nat → Bool} {t : Int} {i : Nat} (hi : i < s.n) (ho : offN s i = t) (hm : movedN s i = true) : fillN s (putN come i) t = fillN s come t := by
 funext j
 unfold fillN putN
 by_cases e : j = i
 · subst e
   rw [decide_eq_true hi, decide_eq_true ho, hm]; simp
 · rw [decide_eq_false e, Bool.or_false]
theorem fill_put' {s : Sft} {come : Nat → Bool} {t : Int} {i : Nat} : fillN s (putN come i) t = putN (fillN s come t) i := by
 funext j
 unfold fillN putN
 rw [Bool.or_assoc, Bool.or_assoc, Bool.or_comm (decide (j = i))]
theorem fill_none {s : Sft} {come : Nat → Bool} {t : Int} (h : hasN s come t = false) : fillN s come t = come := by
 funext j
 unfold fillN
 by_cases h1 : j < s.n
 · by_cases h2 : offN s j = t
   · have h3 := has_false.1 h j h1 h2
     rw [decide_eq_true h1, decide_eq_true h2]
     unfold waitN at h3
     revert h3
     cases movedN s j <;> cases come j <;> simp
   · rw [decide_eq_false h2]; simp
 · rw [decide_eq_false h1]; simp
theorem wait_fill {s : Sft} {come : Nat → Bool} {t : Int} {j : Nat} (h : waitN s (fillN s come t) j = true) : waitN s come j = true := by
 rw [waitN_iff] at h ⊢
 refine ⟨h.1, ?_⟩
 have h2 := h.2
 unfold fillN at h2
 rw [Bool.or_eq_false_iff] at h2
 exact h2.1
theorem wait_fill' {s : Sft} {come : Nat → Bool} {t : Int} {j : Nat} (h : offN s j ≠ t) : waitN s (fillN s come t) j = waitN s come j := by
 unfold waitN fillN
 rw [decide_eq_false h]; simp
theorem has_fill {s : Sft} {come : Nat → Bool} {t : Int} : hasN s (fillN s come t) t = false := has_false.2 fun i hi ho => by
 unfold waitN fillN
 rw [decide_eq_true hi, decide_eq_true ho]
 cases movedN s i <;> simp
theorem has_mono {s : Sft} {come come' : Nat → Bool} {t : Int} (hm : ∀ j, waitN s come' j = true → waitN s come j = true) (h : hasN s come t = false) : hasN s come' t = false := has_false.2 fun i hi ho => by
 cases e : waitN s come' i with
 | false => rfl
 | true =>
   have h3 := hm i e
   rw [has_false.1 h i hi ho] at h3
   exact h3.symm
def cntN (s : Sft) (come : Nat → Bool) (t : Int) : Nat := (List.range s.n).countP (atN s come t)
theorem cnt_one {p q : Nat → Bool} {i : Nat} (hp : p i = true) (hq : ∀ j, q j = (p j && !decide (j = i))) : ∀ n, i < n → (List.range n).countP q + 1 = (List.range n).countP p
 | 0, h => by omega
 | n + 1, h => by
   rw [List.range_succ, List.countP_append, List.countP_append]
   by_cases e : i = n
   · subst e
     have h2 : (List.range i).countP q = (List.range i).countP p := by
      apply List.countP_congr
      intro j hj
      have := List.mem_range.1 hj
      rw [hq, decide_eq_false (show ¬ j = i by omega)]
      simp
     have h3 : [i].countP q = 0 := by
      rw [List.countP_eq_zero]
      intro j hj
      rw [List.mem_singleton.1 hj, hq]
      simp
     have h4 : [i].countP p = 1 := by rw [List.countP_cons_of_pos hp]; rfl
     omega
   · have h2 := cnt_one hp hq n (by omega)
     have h3 : [n].countP q = [n].countP p := by
      apply List.countP_congr
      intro j hj
      rw [List.mem_singleton.1 hj, hq, decide_eq_false (show ¬ n = i by omega)]
      simp
     omega
theorem cnt_put {s : Sft} {come : Nat → Bool} {t : Int} {i : Nat} (hi : i < s.n) (ho : offN s i = t) (hw : waitN s come i = true) : cntN s (putN come i) t + 1 = cntN s come t :=
 cnt_one (p := atN s come t) (q := atN s (putN come i) t) (by unfold atN; rw [hw, decide_eq_true ho]; rfl) (fun j => by unfold atN; rw [waitN_put, Bool.and_assoc]) s.n hi
theorem cnt_zero {s : Sft} {come : Nat → Bool} {t : Int} (h : hasN s come t = false) : cntN s come t = 0 := by
 unfold cntN
 rw [List.countP_eq_zero]
 intro j hj hc
 unfold atN at hc
 rw [Bool.and_eq_true, decide_eq_true_eq] at hc
 rw [has_false.1 h j (List.mem_range.1 hj) hc.1] at hc
 cases hc.2
theorem cnt_pos {s : Sft} {come : Nat → Bool} {t : Int} (h : cntN s come t ≠ 0) : hasN s come t = true := by
 cases e : hasN s come t with
 | true => rfl
 | false => exact absurd (cnt_zero e) h
theorem may_block {s : Sft} (hs : SftOk s) {t : Int} : ∀ (c : Nat) (come : Nat → Bool) (l : List Int), cntN s come t = c → mayS s come t l = true → ∃ l1 l2, l = l1 ++ l2 ∧ (∀ x ∈ l1, offN s x.toNat = t) ∧ l1.length = c ∧ mayS s (fillN s come t) t l2 = true
 | 0, come, l, hc, hm => by
   have hh : hasN s come t = false := by
    cases e : hasN s come t with
    | false => rfl
    | true =>
      obtain ⟨i, hi, ho, hw⟩ := hasN_iff.1 e
      have := cnt_put hi ho hw
      omega
   exact ⟨[], l, rfl, (fun x hx => by cases hx), rfl, by rw [fill_none hh]; exact hm⟩
 | c + 1, come, l, hc, hm => by
   have hh : hasN s come t = true := cnt_pos (by omega)
   cases l with
   | nil =>
     have := no_stops hs (may_nil.1 hm) t
     rw [hh] at this; cases this
   | cons x l =>
     obtain ⟨i, rfl, hi, hw, hl, -, hr⟩ := may_cons.1 hm
     have ho : offN s i = t := by
      rcases hl with h1 | h1
      · exact h1
      · rw [hh] at h1; cases h1
     rw [ho] at hr
     have := cnt_put hi ho hw
     obtain ⟨l1, l2, rfl, h2, h3, h4⟩ := may_block hs c (putN come i) l (by omega) hr
     rw [fill_put hi ho (waitN_iff.1 hw).1] at h4
     refine ⟨(i : Int) :: l1, l2, rfl, fun x hx => ?_, by rw [List.length_cons, h3], h4⟩
     rcases List.mem_cons.1 hx with rfl | h5
     · exact ho
     · exact h2 x h5
theorem may_ready {s : Sft} (hs : SftOk s) {t : Int} : ∀ (l : List Int) (come : Nat → Bool), mayS s come t l = true → ∀ p ∈ s.first, offN s p.2.toNat = t → waitN s come p.2.toNat = true → waitN s come p.1.toNat = true → offN s p.1.toNat = t
 | [], come, hm, p, hp, ho, hb, ha => by
   have := no_stops hs (may_nil.1 hm) t
   obtain ⟨-, -, p2, p3, -⟩ := hs.first p hp
   rw [has_false.1 this p.2.toNat (by omega) ho] at hb
   cases hb
 | x :: l, come, hm, p, hp, ho, hb, ha => by
   obtain ⟨i, rfl, hi, hw, hl, hpr, hr⟩ := may_cons.1 hm
   obtain ⟨p0, p1, p2, p3, -⟩ := hs.first p hp
   have hoi : offN s i = t := by
    rcases hl with h1 | h1
    · exact h1
    · rw [has_false.1 h1 p.2.toNat (by omega) ho] at hb; cases hb
   by_cases eb : p.2.toNat = i
   · rw [hpr p hp (by omega)] at ha; cases ha
   · by_cases ea : p.1.toNat = i
     · rw [ea]; exact hoi
     · rw [hoi] at hr
       exact may_ready hs l (putN come i) hr p hp ho (by rw [waitN_put, hb, decide_eq_false eb]; rfl) (by rw [waitN_put, ha, decide_eq_false ea]; rfl)
theorem may_without {s : Sft} {t : Int} : ∀ (l : List Int) (come : Nat → Bool) (last last' : Int), mayS s come last l = true → (last' = last ∨ hasN s (fillN s come t) last' = false) → ∃ l', mayS s (fillN s come t) last' l' = true
 | [], come, last, last', hm, _ => by
   refine ⟨[], may_nil.2 ?_⟩
   have h := may_nil.1 hm
   unfold stopsN at h ⊢
   rw [List.filter_eq_nil_iff] at h ⊢
   intro u hu hc
   have h1 : hasN s come u = false := by simpa using h u hu
   rw [has_mono (fun j hj => wait_fill hj) h1] at hc
   cases hc
 | x :: l, come, last, last', hm, hlast => by
   obtain ⟨i, rfl, hi, hw, hl, hpr, hr⟩ := may_cons.1 hm
   by_cases ho : offN s i = t
   · have h1 : hasN s (fillN s (putN come i) t) last' = false := by
      rw [fill_put hi ho (waitN_iff.1 hw).1]
      rcases hlast with rfl | h2
      · rcases hl with h3 | h3
        · rw [← h3, ho]; exact has_fill
        · exact has_mono (fun j hj => wait_fill hj) h3
      · exact h2
     obtain ⟨l', h2⟩ := may_without l (putN come i) (offN s i) last' hr (Or.inr h1)
     rw [fill_put hi ho (waitN_iff.1 hw).1] at h2
     exact ⟨l', h2⟩
   · obtain ⟨l', h2⟩ := may_without l (putN come i) (offN s i) (offN s i) hr (Or.inl rfl)
     rw [fill_put'] at h2
     refine ⟨(i : Int) :: l', may_cons.2 ⟨i, rfl, hi, by rw [wait_fill' ho]; exact hw, ?_, fun p hp he => ?_, h2⟩⟩
     · rcases hlast with rfl | h3
       · rcases hl with h4 | h4
         · exact Or.inl h4
         · exact Or.inr (has_mono (fun j hj => wait_fill hj) h4)
       · exact Or.inr h3
     · cases e : waitN s (fillN s come t) p.1.toNat with
       | false => rfl
       | true =>
         have h3 := wait_fill e
         rw [hpr p hp he] at h3
         exact h3.symm
theorem pick_ex {s : Sft} {come : Nat → Bool} {t : Int} {i : Nat} (hi : i < s.n) (ho : offN s i = t) (hw : waitN s come i = true) (hf : freeN s come t i = true) : pickN s come t ≠ none := by
 intro h
 unfold pickN at h
 rw [List.find?_eq_none] at h
 refine h i (List.mem_range.2 hi) ?_
 unfold atN
 rw [decide_eq_true ho, hw, hf]; rfl
theorem free_iff {s : Sft} {come : Nat → Bool} {t : Int} {i : Nat} : freeN s come t i = true ↔ ∀ p ∈ s.first, p.2 = (i : Int) → offN s p.1.toNat = t → waitN s come p.1.toNat = false := by
 unfold freeN
 rw [Bool.not_eq_true', List.any_eq_false]
 constructor
 · intro h p hp e1 e2
   have := h p hp
   unfold holdsI at this
   rw [decide_eq_true e1, decide_eq_true e2] at this
   simpa using this
 · intro h p hp hc
   unfold holdsI at hc
   simp only [Bool.and_eq_true, decide_eq_true_eq] at hc
   rw [h p hp hc.1 hc.2.1] at hc
   cases hc.2.2
theorem may_pick {s : Sft} (hs : SftOk s) {t : Int} : ∀ (l : List Int) (come come' : Nat → Bool) (last : Int), mayS s come last l = true → (∀ j, offN s j = t → waitN s come' j = true → waitN s come j = true) → hasN s come' t = true → ∃ i, i < s.n ∧ offN s i = t ∧ waitN s come' i = true ∧ freeN s come' t i = true
 | [], come, come', last, hm, hsub, hh => by
   obtain ⟨i, hi, ho, hw⟩ := hasN_iff.1 hh
   have := has_false.1 (no_stops hs (may_nil.1 hm) t) i hi ho
   rw [hsub i ho hw] at this; cases this
 | x :: l, come, come', last, hm, hsub, hh => by
   obtain ⟨i, rfl, hi, hw, hl, hpr, hr⟩ := may_cons.1 hm
   by_cases hc : offN s i = t ∧ waitN s come' i = true
   · refine ⟨i, hi, hc.1, hc.2, free_iff.2 fun p hp e1 e2 => ?_⟩
     cases e : waitN s come' p.1.toNat with
     | false => rfl
     | true =>
       have h3 := hsub _ e2 e
       rw [hpr p hp e1] at h3
       exact h3.symm
   · refine may_pick hs l (putN come i) come' (offN s i) hr (fun j hj hwj => ?_) hh
     rw [waitN_put, hsub j hj hwj]
     have : ¬ j = i := fun e => hc ⟨by rw [← e]; exact hj, by rw [← e]; exact hwj⟩
     rw [decide_eq_false this]; rfl
theorem inner_full {s : Sft} (hs : SftOk s) {t : Int} {l : List Int} {come : Nat → Bool} {last : Int} (hm : mayS s come last l = true) : ∀ (f : Nat) (come' : Nat → Bool) (out : List Int), (∀ j, waitN s come' j = true → waitN s come j = true) → cntN s come' t ≤ f →
 ∃ l1, innerN s t f come' out = some (fillN s come' t, out ++ l1) ∧ (∀ x ∈ l1, offN s x.toNat = t) ∧ l1.length = cntN s come' t
 | 0, come', out, hsub, hf => by
   have hh : hasN s come' t = false := by
    cases e : hasN s come' t with
    | false => rfl
    | true =>
      obtain ⟨i, hi, ho, hw⟩ := hasN_iff.1 e
      have := cnt_put hi ho hw
      omega
   refine ⟨[], ?_, (fun x hx => by cases hx), by rw [cnt_zero hh]; rfl⟩
   rw [inner_end hh, fill_none hh, List.append_nil]
 | f + 1, come', out, hsub, hf => by
   cases hh : hasN s come' t with
   | false =>
     refine ⟨[], ?_, (fun x hx => by cases hx), by rw [cnt_zero hh]; rfl⟩
     rw [inner_end hh, fill_none hh, List.append_nil]
   | true =>
     obtain ⟨j, j1, j2, j3, j4⟩ := may_pick hs l come come' last hm (fun j _ => hsub j) hh
     cases hp : pickN s come' t with
     | none => exact absurd hp (pick_ex j1 j2 j3 j4)
     | some i =>
       obtain ⟨p1, p2, p3, -⟩ := pickN_some hp
       have hc := cnt_put p1 p2 p3
       obtain ⟨l1, h1, h2, h3⟩ := inner_full hs (t := t) hm f (putN come' i) (out ++ [(i : Int)]) (fun j hj => by rw [waitN_put, Bool.and_eq_true] at hj; exact hsub j hj.1) (by omega)
       rw [fill_put p1 p2 (waitN_iff.1 p3).1] at h1
       refine ⟨(i : Int) :: l1, ?_, fun x hx => ?_, by rw [List.length_cons, h3, hc]⟩
       · rw [inner_go hh hp, h1, List.append_assoc]; rfl
       · rcases List.mem_cons.1 hx with rfl | h5
         · exact p2
         · exact h2 x h5
def lexL (s : Sft) : List Int → List Int → Prop
 | a :: g, b :: l => offN s a.toNat < offN s b.toNat ∨ (offN s a.toNat = offN s b.toNat ∧ lexL s g l)
 | _, _ => True
theorem lex_app {s : Sft} {t : Int} {g l : List Int} : ∀ (l1 l2 : List Int), (∀ x ∈ l1, offN s x.toNat = t) → (∀ x ∈ l2, offN s x.toNat = t) → l1.length = l2.length → lexL s g l → lexL s (l1 ++ g) (l2 ++ l)
 | [], [], _, _, _, h => h
 | a :: l1, b :: l2, h1, h2, h3, h => Or.inr ⟨by rw [h1 a List.mem_cons_self, h2 b List.mem_cons_self], lex_app l1 l2 (fun x hx => h1 x (List.mem_cons_of_mem _ hx)) (fun x hx => h2 x (List.mem_cons_of_mem _ hx)) (by simpa using h3) h⟩
 | [], b :: l2, _, _, h3, _ => by simp at h3
 | a :: l1, [], _, _, h3, _ => by simp at h3
theorem stops17_up : stops17.Pairwise (· < ·) := by decide
theorem next_least {s : Sft} {come : Nat → Bool} {u : Int} (hu : -8 ≤ u ∧ u ≤ 8) (h1 : hasN s come u = true) (h2 : readyN s come u = true) : ∃ t, nextN s come = some t ∧ t ≤ u := by
 cases hn : nextN s come with
 | none =>
   unfold nextN at hn
   rw [List.find?_eq_none] at hn
   exact absurd (by rw [h1, h2]; rfl) (hn u (mem_stops.2 hu))
 | some t =>
   refine ⟨t, rfl, ?_⟩
   unfold nextN at hn
   obtain ⟨-, la, lb, he, hb⟩ := List.find?_eq_some_iff_append.1 hn
   have hm : u ∈ la ++ t :: lb := he ▸ mem_stops.2 hu
   rcases List.mem_append.1 hm with h3 | h3
   · have := hb u h3
     rw [h1, h2] at this; simp at this
   · rcases List.mem_cons.1 h3 with rfl | h4
     · exact Int.le_refl _
     · have := he ▸ stops17_up
       have := (List.pairwise_cons.1 (List.pairwise_append.1 this).2.1).1 u h4
       omega
theorem ready_iff {s : Sft} {come : Nat → Bool} {t : Int} : readyN s come t = true ↔ ∀ p ∈ s.first, offN s p.2.toNat = t → offN s p.1.toNat ≠ t → waitN s come p.1.toNat = false := by
 unfold readyN
 rw [Bool.not_eq_true', List.any_eq_false]
 constructor
 · intro h p hp e1 e2
   have := h p hp
   unfold holdsS at this
   rw [decide_eq_true e1, decide_eq_true e2] at this
   simpa using this
 · intro h p hp hc
   unfold holdsS at hc
   simp only [Bool.and_eq_true, decide_eq_true_eq] at hc
   rw [h p hp hc.1 hc.2.1] at hc
   cases hc.2.2
def Bnd (s : Sft) (come : Nat → Bool) : Prop := ∀ t, hasN s come t = true → ∀ j, j < s.n → offN s j = t → movedN s j = true → waitN s come j = true
theorem bnd_fill {s : Sft} {come : Nat → Bool} (h : Bnd s come) (t : Int) : Bnd s (fillN s come t) := fun u hu j hj ho hm => by
 have hne : u ≠ t := fun e => by rw [e, has_fill] at hu; cases hu
 rw [wait_fill' (by rw [ho]; exact hne)]
 refine h u ?_ j hj ho hm
 cases e : hasN s come u with
 | true => rfl
 | false => rw [has_mono (fun j hj => wait_fill hj) e] at hu; cases hu
theorem bnd_ready {s : Sft} (hs : SftOk s) {come : Nat → Bool} (h : Bnd s come) {u : Int} {l : List Int} (hu : hasN s come u = true) (hm : mayS s come u l = true) : readyN s come u = true := ready_iff.2 fun p hp ho hn => by
 cases e : waitN s come p.1.toNat with
 | false => rfl
 | true =>
   obtain ⟨-, -, p2, p3, -⟩ := hs.first p hp
   refine absurd (may_ready hs l come hm p hp ho (h u hu p.2.toNat (by omega) ho ?_) e) hn
   unfold movedN
   rw [Bool.or_eq_true, List.any_eq_true]
   exact Or.inr ⟨p, hp, decide_eq_true (by omega)⟩
theorem left_lt {s : Sft} {c c' : Nat → Bool} (hm : ∀ j, waitN s c' j = true → waitN s c j = true) {i : Nat} (hi : i < s.n) (hw : waitN s c i = true) (hn : waitN s c' i = false) : leftN s c' < leftN s c := by
 have h1 : leftN s c' ≤ leftN s (putN c i) := List.countP_mono_left fun j _ hj => by
  rw [waitN_put, hm j hj]
  have : ¬ j = i := fun e => by rw [e, hn] at hj; cases hj
  rw [decide_eq_false this]; rfl
 have := leftN_put hi hw
 omega
theorem outer_full {s : Sft} (hs : SftOk s) : ∀ (f : Nat) (come : Nat → Bool) (out : List Int) (last : Int) (l : List Int), Bnd s come → hasN s come last = false → leftN s come ≤ f → mayS s come last l = true → ∃ g, outerN s f come out = some (out ++ g) ∧ lexL s g l
 | f, come, out, last, l, hb, hl, hf, hm => by
   by_cases hst : stopsN s come = []
   · exact ⟨[], by rw [outer_end hst, List.append_nil], by unfold lexL; trivial⟩
   · have hl0 : leftN s come ≠ 0 := fun e => hst ((leftN_zero hs).1 e)
     cases f with
     | zero => omega
     | succ f =>
     cases l with
     | nil => exact absurd (may_nil.1 hm) hst
     | cons x l =>
     obtain ⟨i, rfl, hi, hw, hll, hpr, hr⟩ := may_cons.1 hm
     have hm2 : mayS s come (offN s i) ((i : Int) :: l) = true := may_cons.2 ⟨i, rfl, hi, hw, Or.inl rfl, hpr, hr⟩
     have hu : hasN s come (offN s i) = true := hasN_iff.2 ⟨i, hi, rfl, hw⟩
     obtain ⟨t, hn, htu⟩ := next_least (hs.to_ i hi).2.2 hu (bnd_ready hs hb hu hm2)
     obtain ⟨ht, hrt, -⟩ := nextN_some hn
     obtain ⟨l1, h1, h2, h3⟩ := inner_full hs hm (t := t) s.n come out (fun _ h => h) (Nat.le_trans List.countP_le_length (by rw [List.length_range]; exact Nat.le_refl _))
     obtain ⟨j, hj, hjo, hjw⟩ := hasN_iff.1 ht
     have hlt : leftN s (fillN s come t) < leftN s come := left_lt (fun j hj => wait_fill hj) hj hjw (has_false.1 has_fill j hj hjo)
     have ho : ∀ g, outerN s f (fillN s come t) (out ++ l1) = some (out ++ l1 ++ g) → outerN s (f + 1) come out = some (out ++ (l1 ++ g)) := fun g hg => by
      show (if stopsN s come = [] then _ else _) = _
      rw [if_neg hst, hn]
      simp only [h1]
      rw [hg, List.append_assoc]
     by_cases e : t = offN s i
     · rw [← e] at hm2
       obtain ⟨l1', l2, e2, b1, b2, b3⟩ := may_block hs (cntN s come t) come _ rfl hm2
       obtain ⟨g, g1, g2⟩ := outer_full hs f (fillN s come t) (out ++ l1) t l2 (bnd_fill hb t) has_fill (by omega) b3
       refine ⟨l1 ++ g, ho g g1, ?_⟩
       rw [e2]
       exact lex_app l1 l1' h2 b1 (by omega) g2
     · obtain ⟨l', hm3⟩ := may_without (t := t) _ come last last hm (Or.inl rfl)
       obtain ⟨g, g1, -⟩ := outer_full hs f (fillN s come t) (out ++ l1) last l' (bnd_fill hb t) (has_mono (fun j hj => wait_fill hj) hl) (by omega) hm3
       refine ⟨l1 ++ g, ho g g1, ?_⟩
       cases l1 with
       | nil =>
         have := cnt_put hj hjo hjw
         simp at h3
         omega
       | cons a l1 =>
         refine Or.inl ?_
         have e3 : ((i : Int)).toNat = i := by omega
         rw [h2 a List.mem_cons_self, e3]
         omega
theorem inner_may {s : Sft} {t : Int} {come : Nat → Bool} (hrd : readyN s come t = true) : ∀ (f : Nat) (come' : Nat → Bool) (out : List Int) (r1 : Nat → Bool) (r2 : List Int), (∀ j, waitN s come' j = true → waitN s come j = true) → cntN s come' t ≤ f → innerN s t f come' out = some (r1, r2) →
 ∃ l1, r2 = out ++ l1 ∧ r1 = fillN s come' t ∧ ∀ last l2, (last = t ∨ hasN s come' last = false) → (∀ last', hasN s r1 last' = false → mayS s r1 last' l2 = true) → mayS s come' last (l1 ++ l2) = true
 | f, come', out, r1, r2, hsub, hf, he => by
   cases hh : hasN s come' t with
   | false =>
     rw [inner_end hh] at he
     cases he
     refine ⟨[], by rw [List.append_nil], (fill_none hh).symm, fun last l2 h1 h2 => h2 last ?_⟩
     rcases h1 with rfl | h1
     · exact hh
     · exact h1
   | true =>
     obtain ⟨j, j1, j2, j3⟩ := hasN_iff.1 hh
     have hc0 := cnt_put j1 j2 j3
     cases f with
     | zero => omega
     | succ f =>
     cases hp : pickN s come' t with
     | none => rw [inner_none hh hp] at he; cases he
     | some i =>
       rw [inner_go hh hp] at he
       obtain ⟨p1, p2, p3, p4⟩ := pickN_some hp
       have hc := cnt_put p1 p2 p3
       obtain ⟨l1, rfl, h2, h3⟩ := inner_may hrd f (putN come' i) _ r1 r2 (fun j hj => by rw [waitN_put, Bool.and_eq_true] at hj; exact hsub j hj.1) (by omega) he
       rw [fill_put p1 p2 (waitN_iff.1 p3).1] at h2
       refine ⟨(i : Int) :: l1, by rw [List.append_assoc]; rfl, h2, fun last l2 h4 h5 => may_cons.2 ⟨i, rfl, p1, p3, ?_, fun p hpm hpe => ?_, h3 _ l2 (Or.inl p2) h5⟩⟩
       · rcases h4 with rfl | h4
         · exact Or.inl p2
         · exact Or.inr h4
       · by_cases e : offN s p.1.toNat = t
         · exact free_iff.1 p4 p hpm hpe e
         · have e1 : p.2.toNat = i := by omega
           have h6 := ready_iff.1 hrd p hpm (by rw [e1]; exact p2) e
           cases e2 : waitN s come' p.1.toNat with
           | false => rfl
           | true =>
             have := hsub _ e2
             rw [h6] at this
             exact this.symm
theorem outer_may {s : Sft} (hs : SftOk s) : ∀ (f : Nat) (come : Nat → Bool) (out l : List Int), leftN s come ≤ f → outerN s f come out = some l → ∃ g, l = out ++ g ∧ ∀ last, hasN s come last = false → mayS s come last g = true
 | f, come, out, l, hf, he => by
   by_cases hst : stopsN s come = []
   · rw [outer_end hst] at he
     cases he
     exact ⟨[], by rw [List.append_nil], fun last _ => may_nil.2 hst⟩
   · have hl0 : leftN s come ≠ 0 := fun e => hst ((leftN_zero hs).1 e)
     cases f with
     | zero => omega
     | succ f =>
     have hu : outerN s (f + 1) come out = match nextN s come with
      | none => none
      | some stop => match innerN s stop s.n come out with
        | none => none
        | some r => outerN s f r.1 r.2 := by
      show (if stopsN s come = [] then _ else _) = _
      rw [if_neg hst]
      try rfl
     rw [hu] at he
     cases hn : nextN s come with
     | none => rw [hn] at he; cases he
     | some t =>
       rw [hn] at he
       simp only at he
       cases hi : innerN s t s.n come out with
       | none => rw [hi] at he; cases he
       | some r =>
         rw [hi] at he
         simp only at he
         obtain ⟨r1, r2⟩ := r
         obtain ⟨ht, hrt, -⟩ := nextN_some hn
         obtain ⟨j, hj, hjo, hjw⟩ := hasN_iff.1 ht
         obtain ⟨l1, rfl, rfl, h3⟩ := inner_may hrt s.n come out r1 r2 (fun _ h => h) (Nat.le_trans List.countP_le_length (by rw [List.length_range]; exact Nat.le_refl _)) hi
         have hlt : leftN s (fillN s come t) < leftN s come := left_lt (fun j hj => wait_fill hj) hj hjw (has_false.1 has_fill j hj hjo)
         obtain ⟨g, rfl, h5⟩ := outer_may hs f (fillN s come t) (out ++ l1) l (by omega) he
         exact ⟨l1 ++ g, by rw [List.append_assoc], fun last hl => h3 last g (Or.inr hl) h5⟩
theorem may_len {s : Sft} (hs : SftOk s) : ∀ (l : List Int) (come : Nat → Bool) (last : Int), mayS s come last l = true → l.length = leftN s come
 | [], come, last, h => ((leftN_zero hs).2 (may_nil.1 h)).symm
 | x :: l, come, last, h => by
   obtain ⟨i, rfl, hi, hw, -, -, hr⟩ := may_cons.1 h
   have := leftN_put hi hw
   have := may_len hs l _ _ hr
   rw [List.length_cons]; omega
theorem bnd_new (s : Sft) : Bnd s fun _ => false := fun _ _ _ _ _ hm => waitN_iff.2 ⟨hm, rfl⟩
theorem has_nine {s : Sft} (hs : SftOk s) (come : Nat → Bool) : hasN s come 9 = false := by
 cases e : hasN s come 9 with
 | false => rfl
 | true => have := (has_range hs e).2; omega
theorem ex_may {s : Sft} (h : (ordE s).2 = 0) : mayS s (fun _ => false) 9 (ordE s).1 = true := by
 obtain ⟨h0, h1⟩ := ordE_has h
 obtain ⟨g, hg, h2⟩ := outer_may (sftE_ok h0) s.n _ [] _ (leftN_le s _) h1
 rw [hg]
 exact h2 9 (has_nine (sftE_ok h0) _)
theorem ex_least {s : Sft} (h0 : sftE s = 0) {l : List Int} (hm : mayS s (fun _ => false) 9 l = true) : (ordE s).2 = 0 ∧ lexL s (ordE s).1 l ∧ (ordE s).1.length = l.length := by
 have hs := sftE_ok h0
 obtain ⟨g, h1, h2⟩ := outer_full hs s.n _ [] 9 l (bnd_new s) (has_nine hs _) (leftN_le s _) hm
 have e : ordE s = (g, 0) := by
  unfold ordE
  rw [if_neg (by rw [h0]; simp), h1]; rfl
 have h3 := ex_may (s := s) (by rw [e])
 rw [e] at h3 ⊢
 exact ⟨rfl, h2, (may_len hs _ _ _ h3).trans (may_len hs _ _ _ hm).symm⟩
theorem ex_none {s : Sft} (h0 : sftE s = 0) (h : (ordE s).2 ≠ 0) : (ordE s).2 = 6 ∧ ∀ l, mayS s (fun _ => false) 9 l = false := by
 constructor
 · unfold ordE at h ⊢
   rw [if_neg (by rw [h0]; simp)] at h ⊢
   split at h
   · rfl
   · exact absurd rfl h
 · intro l
   cases e : mayS s (fun _ => false) 9 l with
   | false => rfl
   | true => exact absurd (ex_least h0 e).1 h
end Go.Proofs.YtflpikickbellaaGreat
