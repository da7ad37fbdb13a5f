/- TransferRuns, plain. -/
import Derived.Test.YtflpikickbellaaGreatZ26
import Derived.Test.YtflpikickbellaaGreatZ29
namespace Go.Proofs.YtflpikickbellaaGreat
open Go.RowKit Go.Sort
set_option maxRecDepth 100000
theorem tk_self (b n : Int) (ls : List Int) : keyH b n ⟨b, n, ls⟩ = 0 := by
 unfold keyH placeI
 simp
theorem tp_self (l : List Hk) (b n : Int) (ls : List Int) : heldAt (putAt l b n ls) b n = ls := by
 by_cases hl : ls = []
 · subst hl; exact held_put_nil
 · have e : (putAt l b n ls).find? (hkAt b n) = some ⟨b, n, ls⟩ := by
    unfold putAt setF
    rw [if_neg hl, List.find?_append]
    have e1 : (loF (keyH b n) l).find? (hkAt b n) = none := List.find?_eq_none.2 fun x hx => by
     rw [key_hk]
     have := loF_lo hx
     simp; omega
    rw [e1, List.singleton_append, List.find?_cons, key_hk, tk_self]
    rfl
   unfold heldAt
   rw [e]
theorem tp_at {l : List Hk} (hr : risB ltH l = true) (b n : Int) (ls : List Int) (b' n' : Int) : heldAt (putAt l b n ls) b' n' = if b' = b ∧ n' = n then ls else heldAt l b' n' := by
 by_cases h : b' = b ∧ n' = n
 · rw [if_pos h, h.1, h.2, tp_self]
 · rw [if_neg h]
   exact held_put_ne hr _ (by omega)
def xfT (b n tt : Int) : Ins := ⟨7, false, b, n, tt, 0, 0⟩
theorem xfT_good {b n tt : Int} (hb : 0 ≤ b ∧ b ≤ 1) (hn : needleP n) (ht : needleP tt) : (xfT b n tt).good ∧ (xfT b n tt).wf :=
 ⟨Or.inr (Or.inr (Or.inr (Or.inl ⟨rfl, rfl, rfl, rfl, hb.2, hn, ht⟩))), by show (0 : Int) ≤ 7; decide, by show (7 : Int) ≤ 255; decide, hb.1, by show b ≤ 255; omega⟩
theorem rackT_good {r : Int} (hr : -8 ≤ r ∧ r ≤ 8) : (rackI r).good ∧ (rackI r).wf :=
 ⟨Or.inr (Or.inr (Or.inr (Or.inr (Or.inl ⟨rfl, rfl, rfl, rfl, rfl, rfl, hr.1, hr.2⟩)))), by show (0 : Int) ≤ 8; decide, by show (8 : Int) ≤ 255; decide, by show (0 : Int) ≤ 0; decide, by show (0 : Int) ≤ 255; decide⟩
theorem err_good {i : Ins} (h : i.good) : i.err = 0 := by unfold Ins.err; rw [if_pos h]
theorem do_xf {s : BedS} (h : Good s) {b n tt : Int} (hcol : colI s.rack b n = colI s.rack (1 - b) tt) (hl : (heldAt s.hooks (1 - b) tt ++ heldAt s.hooks b n).length ≤ 6) :
 doI s (xfT b n tt) = ({ s with hooks := putAt (putAt s.hooks b n []) (1 - b) tt (heldAt s.hooks (1 - b) tt ++ heldAt s.hooks b n) }, 0) := by
 unfold doI
 rw [if_neg (by show ¬ (7 : Int) = 1; decide), if_neg (by show ¬ (7 : Int) = 2; decide), if_neg (by show ¬ (7 : Int) = 8; decide), if_neg (by show ¬ (7 : Int) = 9; decide), if_pos (show (xfT b n tt).op = 7 from rfl)]
 have e : acrossS (takeS s (xfT b n tt).bed (xfT b n tt).at_) (xfT b n tt) (heldAt s.hooks (xfT b n tt).bed (xfT b n tt).at_) = some { s with hooks := putAt (putAt s.hooks b n []) (1 - b) tt (heldAt s.hooks (1 - b) tt ++ heldAt s.hooks b n) } := by
  show acrossS (takeS s b n) (xfT b n tt) (heldAt s.hooks b n) = _
  unfold acrossS
  rw [if_neg (by show ¬ colI s.rack b n ≠ colI s.rack (1 - b) tt; simpa using hcol)]
  show layS (takeS s b n) (1 - b) tt (heldAt s.hooks b n) = _
  have e0 : heldAt (takeS s b n).hooks (1 - b) tt = heldAt s.hooks (1 - b) tt := held_put_ne h.rh _ (Or.inl (by omega))
  unfold layS
  rw [e0, if_neg (by omega)]
  rfl
 rw [e]
theorem do_rack (s : BedS) (r : Int) : doI s (rackI r) = ({ s with rack := r }, 0) := by
 unfold doI
 rw [if_neg (by show ¬ (8 : Int) = 1; decide), if_neg (by show ¬ (8 : Int) = 2; decide), if_pos (show (rackI r).op = 8 from rfl)]
 rfl
structure MSt (b : BedS) (r : Int) (F K : Int → List Int) (t : BedS) : Prop where
 good : Good t
 rack : t.rack = r
 made : t.made = b.made
 front : ∀ u, heldAt t.hooks 0 u = F u
 back : ∀ u, heldAt t.hooks 1 u = K u
def updT (F : Int → List Int) (n : Int) (x : List Int) : Int → List Int := fun u => if u = n then x else F u
theorem MSt.ext {b : BedS} {r : Int} {F K F' K' : Int → List Int} {t : BedS} (h : MSt b r F K t) (hF : ∀ u, F u = F' u) (hK : ∀ u, K u = K' u) : MSt b r F' K' t := ⟨h.good, h.rack, h.made, fun u => (h.front u).trans (hF u), fun u => (h.back u).trans (hK u)⟩
theorem MSt.rk {b : BedS} {r : Int} {F K : Int → List Int} {t : BedS} (h : MSt b r F K t) {r' : Int} (hr : -8 ≤ r' ∧ r' ≤ 8) : ∃ t', doI t (rackI r') = (t', 0) ∧ MSt b r' F K t' :=
 ⟨_, do_rack t r', h.good.setRack hr, rfl, h.made, h.front, h.back⟩
theorem MSt.xf0 {b : BedS} {r : Int} {F K : Int → List Int} {t : BedS} (h : MSt b r F K t) {n tt : Int} (hn : needleP n) (ht : needleP tt) (hc : n = tt + r) (hl : (K tt ++ F n).length ≤ 6) : ∃ t', doI t (xfT 0 n tt) = (t', 0) ∧ MSt b r (updT F n []) (updT K tt (K tt ++ F n)) t' := by
 have hd := do_xf h.good (b := 0) (n := n) (tt := tt) (by unfold colI; rw [h.rack]; omega) (by show (heldAt t.hooks 1 tt ++ heldAt t.hooks 0 n).length ≤ 6; rw [h.front, h.back]; exact hl)
 obtain ⟨g1, g2⟩ := xfT_good (b := 0) ⟨by decide, by decide⟩ hn ht
 have hg := (doI_good h.good g2 g1 (by rw [hd])).1
 have ht0 := h.good.take (b := 0) ⟨by decide, by decide⟩ hn
 rw [hd] at hg
 refine ⟨_, hd, hg, h.rack, h.made, fun u => ?_, fun u => ?_⟩
 · show heldAt (putAt (putAt t.hooks 0 n []) 1 tt (heldAt t.hooks 1 tt ++ heldAt t.hooks 0 n)) 0 u = _
   rw [tp_at (l := putAt t.hooks 0 n []) ht0.rh, if_neg (by omega), tp_at h.good.rh]
   unfold updT
   by_cases e : u = n
   · rw [if_pos ⟨rfl, e⟩, if_pos e]
   · rw [if_neg (fun h => e h.2), if_neg e, h.front]
 · show heldAt (putAt (putAt t.hooks 0 n []) 1 tt (heldAt t.hooks 1 tt ++ heldAt t.hooks 0 n)) 1 u = _
   rw [tp_at (l := putAt t.hooks 0 n []) ht0.rh]
   unfold updT
   by_cases e : u = tt
   · rw [if_pos ⟨rfl, e⟩, if_pos e, h.front, h.back]
   · rw [if_neg (fun h => e h.2), if_neg e, tp_at h.good.rh, if_neg (by omega), h.back]
theorem MSt.xf1 {b : BedS} {r : Int} {F K : Int → List Int} {t : BedS} (h : MSt b r F K t) {n tt : Int} (hn : needleP n) (ht : needleP tt) (hc : n + r = tt) (hl : (F tt ++ K n).length ≤ 6) : ∃ t', doI t (xfT 1 n tt) = (t', 0) ∧ MSt b r (updT F tt (F tt ++ K n)) (updT K n []) t' := by
 have hd := do_xf h.good (b := 1) (n := n) (tt := tt) (by unfold colI; rw [h.rack]; omega) (by show (heldAt t.hooks 0 tt ++ heldAt t.hooks 1 n).length ≤ 6; rw [h.front, h.back]; exact hl)
 obtain ⟨g1, g2⟩ := xfT_good (b := 1) ⟨by decide, by decide⟩ hn ht
 have hg := (doI_good h.good g2 g1 (by rw [hd])).1
 have ht0 := h.good.take (b := 1) ⟨by decide, by decide⟩ hn
 rw [hd] at hg
 refine ⟨_, hd, hg, h.rack, h.made, fun u => ?_, fun u => ?_⟩
 · show heldAt (putAt (putAt t.hooks 1 n []) 0 tt (heldAt t.hooks 0 tt ++ heldAt t.hooks 1 n)) 0 u = _
   rw [tp_at (l := putAt t.hooks 1 n []) ht0.rh]
   unfold updT
   by_cases e : u = tt
   · rw [if_pos ⟨rfl, e⟩, if_pos e, h.front, h.back]
   · rw [if_neg (fun h => e h.2), if_neg e, tp_at h.good.rh, if_neg (by omega), h.front]
 · show heldAt (putAt (putAt t.hooks 1 n []) 0 tt (heldAt t.hooks 0 tt ++ heldAt t.hooks 1 n)) 1 u = _
   rw [tp_at (l := putAt t.hooks 1 n []) ht0.rh, if_neg (by omega), tp_at h.good.rh]
   unfold updT
   by_cases e : u = n
   · rw [if_pos ⟨rfl, e⟩, if_pos e]
   · rw [if_neg (fun h => e h.2), if_neg e, h.back]
def Go1 (t : BedS) (l : List Ins) (t' : BedS) : Prop := ∀ (k : Nat) (rest : List Ins), runI t k (l ++ rest) = runI t' (k + l.length) rest
theorem Go1.nil (t : BedS) : Go1 t [] t := fun _ _ => rfl
theorem Go1.one {t t' : BedS} {i : Ins} (he : i.err = 0) (hd : doI t i = (t', 0)) : Go1 t [i] t' := fun k rest => by
 show (if i.err ≠ 0 then _ else if (doI t i).2 ≠ 0 then _ else runI (doI t i).1 (k + 1) rest) = _
 rw [if_neg (by rw [he]; decide), hd, if_neg (by simp)]
 rfl
theorem Go1.app {t t1 t2 : BedS} {a b : List Ins} (h1 : Go1 t a t1) (h2 : Go1 t1 b t2) : Go1 t (a ++ b) t2 := fun k rest => by
 rw [List.append_assoc, h1, h2, List.length_append, Nat.add_assoc]
theorem Go1.end_ {t t' : BedS} {l : List Ins} (h : Go1 t l t') : runI t 0 l = (t', (l.length : Int), 0) := by
 have := h 0 []
 rw [List.append_nil, Nat.zero_add] at this
 rw [this]
 rfl
def frT (s : Sft) (i : Nat) (u : Int) : List Int := if 0 ≤ u ∧ u < (s.n : Int) ∧ ¬ (u < (i : Int) ∧ movedN s u.toNat = true) then [u] else []
def bkT (s : Sft) (i : Nat) (u : Int) : List Int := if 0 ≤ u ∧ u < (i : Int) ∧ movedN s u.toNat = true then [u] else []
theorem front_run {s : Sft} (hn : s.n ≤ 40) {b : BedS} (hb : MSt b 0 (frT s 0) (fun _ => []) b) : ∀ i, i ≤ s.n → ∃ t, Go1 b (frontP s i) t ∧ MSt b 0 (frT s i) (bkT s i) t
 | 0, _ => ⟨b, Go1.nil b, hb.ext (fun _ => rfl) fun u => by unfold bkT; rw [if_neg (by omega)]⟩
 | i + 1, hi => by
   obtain ⟨t, h1, h2⟩ := front_run hn hb i (by omega)
   rw [frontP_next]
   by_cases hm : movedN s i = true
   · rw [if_pos hm]
     have eF : frT s i (i : Int) = [(i : Int)] := by unfold frT; rw [if_pos ⟨by omega, by omega, by omega⟩]
     have eK : bkT s i (i : Int) = [] := by unfold bkT; rw [if_neg (by omega)]
     have hnd : needleP (i : Int) := by unfold needleP; omega
     obtain ⟨t', hd, hs⟩ := h2.xf0 (n := (i : Int)) (tt := (i : Int)) hnd hnd (by omega) (by rw [eF, eK]; simp)
     refine ⟨t', h1.app (Go1.one (i := xferF i) (err_good (xfT_good (b := 0) ⟨by decide, by decide⟩ hnd hnd).1) hd), hs.ext (fun u => ?_) (fun u => ?_)⟩
     · unfold updT
       by_cases e : u = (i : Int)
       · rw [if_pos e, e]; unfold frT
         rw [if_neg (by rw [Int.toNat_natCast]; intro h; exact h.2.2 ⟨by omega, hm⟩)]
       · rw [if_neg e]; unfold frT
         have : (u < (i : Int) ∧ movedN s u.toNat = true) ↔ (u < ((i + 1 : Nat) : Int) ∧ movedN s u.toNat = true) := by constructor <;> (rintro ⟨h1, h2⟩; exact ⟨by omega, h2⟩)
         simp only [this]
     · unfold updT
       by_cases e : u = (i : Int)
       · rw [if_pos e, e, eF, eK]; unfold bkT
         rw [if_pos ⟨by omega, by omega, by rw [Int.toNat_natCast]; exact hm⟩]; rfl
       · rw [if_neg e]; unfold bkT
         have : (0 ≤ u ∧ u < (i : Int) ∧ movedN s u.toNat = true) ↔ (0 ≤ u ∧ u < ((i + 1 : Nat) : Int) ∧ movedN s u.toNat = true) := by constructor <;> (rintro ⟨h0, h1, h2⟩; exact ⟨h0, by omega, h2⟩)
         simp only [this]
   · rw [if_neg hm, List.append_nil]
     refine ⟨t, h1, h2.ext (fun u => ?_) (fun u => ?_)⟩
     · unfold frT
       by_cases e : u = (i : Int)
       · subst e
         rw [Int.toNat_natCast]
         simp [hm]
       · have : (u < (i : Int) ∧ movedN s u.toNat = true) ↔ (u < ((i + 1 : Nat) : Int) ∧ movedN s u.toNat = true) := by constructor <;> (rintro ⟨h1, h2⟩; exact ⟨by omega, h2⟩)
         simp only [this]
     · unfold bkT
       by_cases e : u = (i : Int)
       · subst e
         rw [Int.toNat_natCast]
         simp [hm]
       · have : (0 ≤ u ∧ u < (i : Int) ∧ movedN s u.toNat = true) ↔ (0 ≤ u ∧ u < ((i + 1 : Nat) : Int) ∧ movedN s u.toNat = true) := by constructor <;> (rintro ⟨h0, h1, h2⟩; exact ⟨h0, by omega, h2⟩)
         simp only [this]
def heldT (s : Sft) (l : List Int) (u : Int) : List Int := frT s s.n u ++ l.filter fun x => decide (s.to_.getD x.toNat 0 = u)
def bkO (s : Sft) (l : List Int) (u : Int) : List Int := if 0 ≤ u ∧ u < (s.n : Int) ∧ movedN s u.toNat = true ∧ ¬ u ∈ l then [u] else []
theorem frT_held {s : Sft} (t : Nat) : frT s s.n (t : Int) = if t < s.n ∧ s.to_.getD t 0 = (t : Int) ∧ movedN s t = false then [(t : Int)] else [] := by
 unfold frT
 rw [Int.toNat_natCast]
 by_cases h : t < s.n ∧ movedN s t = false
 · have h2 := h.2
   have h3 : offN s t = 0 := by
    unfold movedN at h2
    rw [Bool.or_eq_false_iff] at h2
    simpa using of_decide_eq_false h2.1
   unfold offN at h3
   rw [if_pos ⟨by omega, by omega, by rw [h.2]; simp⟩, if_pos ⟨h.1, by omega, h.2⟩]
 · rw [if_neg (fun hh => h ⟨by omega, by
    cases hm : movedN s t with
    | false => rfl
    | true => exact absurd ⟨hh.2.1, hm⟩ hh.2.2⟩), if_neg (fun hh => h ⟨hh.1, hh.2.2⟩)]
theorem heldT_C (s : Sft) (l : List Int) (t : Nat) : heldT s l (t : Int) = heldC s l t := by
 unfold heldT heldC
 rw [frT_held]
theorem cnt_to (s : Sft) (u : Int) : s.to_.countP (fun v => decide (v = u)) = ((List.range s.n).filter fun i => decide (s.to_.getD i 0 = u)).length := by
 have e : s.to_ = (List.range s.n).map fun i => s.to_.getD i 0 := by
  apply List.ext_getElem
  · rw [List.length_map, List.length_range]
  · intro i h1 h2
    rw [List.getElem_map, List.getElem_range, List.getD_eq_getElem?_getD, List.getElem?_eq_getElem h1]
    rfl
 conv => lhs; rw [e]
 rw [List.countP_map, List.countP_eq_length_filter]
 rfl
theorem stack_few {s : Sft} (h : stackB s = false) (u : Int) : ((List.range s.n).filter fun i => decide (s.to_.getD i 0 = u)).length ≤ 6 := by
 rw [← cnt_to]
 by_cases hu : u ∈ s.to_
 · unfold stackB at h
   have h1 := List.any_eq_false.1 h u hu
   simp only [decide_eq_true_eq] at h1
   omega
 · rw [List.countP_eq_zero.2 (fun v hv => by simp; intro e; exact hu (e ▸ hv))]
   omega
theorem heldT_few {s : Sft} (hst : stackB s = false) {l : List Int} (hok : okL s l) (hnd : l.Nodup) (hmv : ∀ x ∈ l, movedN s x.toNat = true) (u : Int) : (heldT s l u).length ≤ 6 := by
 refine Nat.le_trans (nodup_le (M := ((List.range s.n).filter fun i => decide (s.to_.getD i 0 = u)).map fun i : Nat => (i : Int)) ?_ ?_) (by rw [List.length_map]; exact stack_few hst u)
 · unfold heldT
   rw [List.nodup_append]
   refine ⟨by unfold frT; split <;> simp, hnd.filter _, fun a ha b hb e => ?_⟩
   subst e
   have hb := (List.mem_filter.1 hb).1
   have hm := hmv _ hb
   unfold frT at ha
   split at ha
   · rename_i hc
     rw [List.mem_singleton] at ha
     subst ha
     exact hc.2.2 ⟨hc.2.1, hm⟩
   · cases ha
 · intro x hx
   rw [List.mem_map]
   unfold heldT at hx
   rcases List.mem_append.1 hx with hx | hx
   · have hx' := hx
     unfold frT at hx
     split at hx
     · rename_i hc
       rw [List.mem_singleton] at hx
       subst hx
       obtain ⟨t, rfl⟩ : ∃ t : Nat, x = (t : Int) := ⟨x.toNat, by omega⟩
       rw [frT_held] at hx'
       split at hx'
       · rename_i hd
         exact ⟨t, List.mem_filter.2 ⟨List.mem_range.2 hd.1, decide_eq_true hd.2.1⟩, rfl⟩
       · cases hx'
     · cases hx
   · obtain ⟨h1, h2⟩ := List.mem_filter.1 hx
     obtain ⟨i, rfl, hi⟩ := hok x h1
     rw [Int.toNat_natCast] at h2
     exact ⟨i, List.mem_filter.2 ⟨List.mem_range.2 hi, h2⟩, rfl⟩
theorem take_ok {s : Sft} {l : List Int} (h : okL s l) (k : Nat) : okL s (l.take k) := fun x hx => h x (List.mem_of_mem_take hx)
theorem turn_run {b : BedS} {r : Int} {F K : Int → List Int} {t : BedS} (h : MSt b r F K t) {o : Int} (ho : -8 ≤ o ∧ o ≤ 8) : ∃ t', Go1 t (turnI r o) t' ∧ MSt b o F K t' := by
 unfold turnI
 by_cases e : o = r
 · rw [if_pos e, e]
   exact ⟨t, Go1.nil t, h⟩
 · rw [if_neg e]
   obtain ⟨t', h1, h2⟩ := h.rk ho
   exact ⟨t', Go1.one (err_good (rackT_good ho).1) h1, h2⟩
theorem heldT_next {s : Sft} {l : List Int} {k i : Nat} (hx : l[k]? = some (i : Int)) (u : Int) : heldT s (l.take (k + 1)) u = if s.to_.getD i 0 = u then heldT s (l.take k) u ++ [(i : Int)] else heldT s (l.take k) u := by
 have ef : ([(i : Int)].filter fun x => decide (s.to_.getD x.toNat 0 = u)) = if s.to_.getD i 0 = u then [(i : Int)] else [] := by
  by_cases e : s.to_.getD i 0 = u
  · rw [if_pos e, List.filter_cons_of_pos (by rw [Int.toNat_natCast]; exact decide_eq_true e)]; rfl
  · rw [if_neg e, List.filter_cons_of_neg (by rw [Int.toNat_natCast]; simpa using e)]; rfl
 unfold heldT
 rw [List.take_add_one, hx, List.filter_append]
 show frT s s.n u ++ (_ ++ ([(i : Int)].filter fun x => decide (s.to_.getD x.toNat 0 = u))) = _
 rw [ef]
 by_cases e : s.to_.getD i 0 = u
 · rw [if_pos e, if_pos e, List.append_assoc]
 · rw [if_neg e, if_neg e, List.append_nil]
theorem back_run {s : Sft} (hs : SftOk s) {b : BedS} (hb : MSt b 0 (frT s 0) (fun _ => []) b) (hst : stackB s = false) {l : List Int} (hF : OrdF s l) : ∀ k, k ≤ l.length → ∃ t, Go1 b (runP s l k).2 t ∧ MSt b (runP s l k).1 (heldT s (l.take k)) (bkO s (l.take k)) t
 | 0, _ => by
   obtain ⟨t, h1, h2⟩ := front_run hs.len hb s.n (Nat.le_refl _)
   rw [runP_zero]
   refine ⟨t, h1, h2.ext (fun u => ?_) (fun u => ?_)⟩
   · unfold heldT; rw [List.take_zero]; simp
   · unfold bkT bkO; rw [List.take_zero]; simp
 | k + 1, hk => by
   obtain ⟨t, h1, h2⟩ := back_run hs hb hst hF k (by omega)
   have hx0 : l[k]? = some l[k] := List.getElem?_eq_getElem (by omega)
   obtain ⟨i, hi, hin⟩ := hF.ok l[k] (List.getElem_mem (by omega))
   rw [hi] at hx0
   rw [runP_next hx0]
   obtain ⟨q1, q2, q3, q4⟩ := hs.to_ i hin
   obtain ⟨t1, h3, h4⟩ := turn_run h2 (o := offN s i) ⟨q3, q4⟩
   have hmem : (i : Int) ∈ l := List.mem_of_getElem? hx0
   have hmv := (hF.mem i hin).1 hmem
   have hni : ¬ (i : Int) ∈ l.take k := fun hm => by
    obtain ⟨m, hm1, hm2⟩ := of_mem_take hm
    have e1 := List.getElem?_eq_some_iff.1 hm2
    have e2 := List.getElem?_eq_some_iff.1 hx0
    exact List.pairwise_iff_getElem.1 hF.nd m k e1.1 e2.1 hm1 (by rw [e1.2, e2.2])
   have eK : bkO s (l.take k) (i : Int) = [(i : Int)] := by
    unfold bkO
    rw [if_pos ⟨by omega, by omega, by rw [Int.toNat_natCast]; exact hmv, hni⟩]
   have eF := heldT_next (s := s) hx0 (s.to_.getD i 0)
   rw [if_pos rfl] at eF
   have hlen : (heldT s (l.take (k + 1)) (s.to_.getD i 0)).length ≤ 6 := heldT_few hst (take_ok hF.ok _) (hF.nd.sublist (List.take_sublist _ _)) (fun x hx => by
    have hx := List.mem_of_mem_take hx
    obtain ⟨j, rfl, hj⟩ := hF.ok x hx
    rw [Int.toNat_natCast]
    exact (hF.mem j hj).1 hx) _
   have hnd : needleP (i : Int) := by unfold needleP; have := hs.len; omega
   have hnt : needleP (s.to_.getD i 0) := by unfold needleP; omega
   obtain ⟨t2, h5, h6⟩ := h4.xf1 (n := (i : Int)) (tt := s.to_.getD i 0) hnd hnt (by unfold offN; omega) (by rw [eK, ← eF]; exact hlen)
   refine ⟨t2, h1.app (h3.app (Go1.one (i := xferB i (s.to_.getD i 0)) (err_good (xfT_good (b := 1) ⟨by decide, by decide⟩ hnd hnt).1) h5)), h6.ext (fun u => ?_) (fun u => ?_)⟩
   · unfold updT
     rw [heldT_next hx0]
     by_cases e : u = s.to_.getD i 0
     · rw [if_pos e, if_pos e.symm, eK, e]
     · rw [if_neg e, if_neg (fun h => e h.symm)]
   · unfold updT
     have ht : ∀ v : Int, v ∈ l.take (k + 1) ↔ v ∈ l.take k ∨ v = (i : Int) := fun v => by
      rw [List.take_add_one, hx0]
      simp
     by_cases e : u = (i : Int)
     · rw [if_pos e, e]
       unfold bkO
       rw [if_neg (fun h => h.2.2.2 ((ht _).2 (Or.inr rfl)))]
     · rw [if_neg e]
       unfold bkO
       have : u ∈ l.take (k + 1) ↔ u ∈ l.take k := by rw [ht]; simp [e]
       simp only [this]
theorem plan_ok {s : Sft} (hp : (plndE s).2 = 0) : SftOk s ∧ OrdF s (plndE s).1 ∧ stackB s = false ∧ (ordE s).2 = 0 ∧ (plndE s).1 = (ordE s).1 := by
 obtain ⟨h1, h2⟩ := plndE_l hp
 have ho : (ordE s).2 = 0 := by
  unfold plndE at hp
  by_cases h : (ordE s).2 ≠ 0
  · rw [if_pos h] at hp; exact absurd hp h
  · simpa using h
 have hst : stackB s = false := by
  cases hb : stackB s with
  | false => rfl
  | true =>
    unfold plndE at hp
    rw [if_neg (by simpa using ho), hb, if_pos rfl] at hp
    cases hp
 exact ⟨sftE_ok h2, by rw [h1]; exact ordE_F ho, hst, ho, h1⟩
theorem ris_of {α : Type} {lt : α → α → Bool} : ∀ {l : List α}, l.Pairwise (fun a b => lt a b = true) → risB lt l = true
 | [], _ => rfl
 | [a], _ => rfl
 | a :: b :: t, h => by
   rw [List.pairwise_cons] at h
   show (lt a b && risB lt (b :: t)) = true
   rw [h.1 b List.mem_cons_self, ris_of h.2]
   rfl
theorem ltH_irr (a : Hk) : ltH a a = false := decide_eq_false (by omega)
theorem hook_at {L : List Hk} (hr : risB ltH L = true) {h : Hk} (hm : h ∈ L) : heldAt L h.bed h.at_ = h.loops := by
 obtain ⟨k, hk⟩ := List.mem_iff_getElem?.1 hm
 exact held_of (monoH hr _ _) hk (by unfold keyH placeI; simp)
theorem hook_of {L : List Hk} {b n : Int} (h : heldAt L b n ≠ []) : (⟨b, n, heldAt L b n⟩ : Hk) ∈ L := by
 unfold heldAt at h ⊢
 cases hf : L.find? (hkAt b n) with
 | none => rw [hf] at h; exact absurd rfl h
 | some x =>
   have hx := List.mem_of_find?_eq_some hf
   have hp := List.find?_some hf
   unfold hkAt at hp
   obtain ⟨h1, h2⟩ := of_decide_eq_true hp
   subst h1; subst h2
   exact hx
theorem hooks_ext {L M : List Hk} (hL : risB ltH L = true) (hM : risB ltH M = true) (nL : ∀ h ∈ L, h.loops ≠ []) (nM : ∀ h ∈ M, h.loops ≠ []) (he : ∀ b n, heldAt L b n = heldAt M b n) : L = M := by
 have pL := ris_pair ltH_tr hL
 have pM := ris_pair ltH_tr hM
 have sub : ∀ {A B : List Hk}, risB ltH A = true → (∀ h ∈ A, h.loops ≠ []) → (∀ b n, heldAt A b n = heldAt B b n) → ∀ h ∈ A, h ∈ B := fun {A B} hA nA hAB h hm => by
  have e := hook_at hA hm
  have e2 := hook_of (L := B) (b := h.bed) (n := h.at_) (by rw [← hAB, e]; exact nA h hm)
  rw [← hAB, e] at e2
  exact e2
 have nd : ∀ {A : List Hk}, A.Pairwise (fun a b => ltH a b = true) → A.Nodup := fun h => h.imp fun {a b} hab e => by
  subst e
  rw [ltH_irr] at hab
  cases hab
 refine List.Perm.eq_of_pairwise (le := fun a b => ltH a b = true) (fun a b _ _ h1 h2 => ?_) pL pM ((List.perm_ext_iff_of_nodup (nd pL) (nd pM)).2 fun h => ⟨sub hL nL he h, sub hM nM (fun b n => (he b n).symm) h⟩)
 have := ltH_tr a b a h1 h2
 rw [ltH_irr] at this
 cases this
def hkT (p : List (Nat × List Int)) : List Hk := p.map fun x => ⟨0, (x.1 : Int), x.2⟩
theorem hkT_ris {s : Sft} {l : List Int} {N : Nat} : risB ltH (hkT (heldN s l N)) = true := by
 refine ris_of ?_
 unfold hkT heldN
 rw [List.pairwise_map, List.pairwise_map]
 refine (List.pairwise_lt_range.filter _).imp fun {a b} h => decide_eq_true ?_
 exact Or.inr ⟨rfl, by show (a : Int) < (b : Int); omega⟩
theorem heldT_out {s : Sft} (hs : SftOk s) {l : List Int} (hok : okL s l) {u : Int} (hu : u < 0 ∨ 100 < u) : heldT s l u = [] := by
 unfold heldT frT
 rw [if_neg (by have := hs.len; omega), List.nil_append, List.filter_eq_nil_iff]
 intro x hx
 obtain ⟨i, rfl, hi⟩ := hok x hx
 rw [Int.toNat_natCast]
 have := hs.to_ i hi
 simp only [decide_eq_true_eq]
 omega
theorem hkT_at {s : Sft} (hs : SftOk s) {l : List Int} (hok : okL s l) (b n : Int) : heldAt (hkT (heldN s l 101)) b n = if b = 0 then heldT s l n else [] := by
 by_cases hb : b = 0
 · rw [if_pos hb]
   subst hb
   by_cases hn : n < 0 ∨ 100 < n
   · rw [heldT_out hs hok hn]
     refine heldAt_none fun y hy => ?_
     unfold hkT heldN at hy
     rw [List.map_map, List.mem_map] at hy
     obtain ⟨t, ht, rfl⟩ := hy
     have := List.mem_range.1 (List.mem_filter.1 ht).1
     exact decide_eq_false (by rintro ⟨-, h⟩; have h : (t : Int) = n := h; omega)
   · obtain ⟨t, rfl⟩ : ∃ t : Nat, n = (t : Int) := ⟨n.toNat, by omega⟩
     rw [heldT_C]
     by_cases hc : heldC s l t = []
     · rw [hc]
       refine heldAt_none fun y hy => ?_
       unfold hkT heldN at hy
       rw [List.map_map, List.mem_map] at hy
       obtain ⟨u, hu, rfl⟩ := hy
       have := of_decide_eq_true (List.mem_filter.1 hu).2
       exact decide_eq_false (by
        rintro ⟨-, h⟩
        have h : (u : Int) = (t : Int) := h
        have : u = t := by omega
        subst this
        exact absurd hc (by assumption))
     · have hm : (⟨0, (t : Int), heldC s l t⟩ : Hk) ∈ hkT (heldN s l 101) := by
        unfold hkT heldN
        rw [List.map_map, List.mem_map]
        exact ⟨t, List.mem_filter.2 ⟨List.mem_range.2 (by omega), decide_eq_true hc⟩, rfl⟩
       exact hook_at hkT_ris hm
 · rw [if_neg hb]
   refine heldAt_none fun y hy => ?_
   unfold hkT at hy
   rw [List.mem_map] at hy
   obtain ⟨x, -, rfl⟩ := hy
   exact decide_eq_false (fun h => hb h.1.symm)
theorem plan_hooks {s : Sft} (hs : SftOk s) {l : List Int} (hok : okL s l) {b t : BedS} {r : Int} (h : MSt b r (heldT s l) (fun _ => []) t) : t.hooks = hkT (heldN s l 101) := by
 refine hooks_ext h.good.rh hkT_ris (fun x hx e => by have := (h.good.hooks x hx).2.2.1; rw [e] at this; simp at this) (fun x hx => ?_) fun b n => ?_
 · unfold hkT heldN at hx
   rw [List.map_map, List.mem_map] at hx
   obtain ⟨u, hu, rfl⟩ := hx
   exact of_decide_eq_true (List.mem_filter.1 hu).2
 · rw [hkT_at hs hok]
   by_cases hb : b = 0
   · rw [if_pos hb, hb]; exact h.front n
   · rw [if_neg hb]
     by_cases h1 : b = 1
     · rw [h1]; exact h.back n
     · exact heldAt_none fun y hy => decide_eq_false (fun e => by have := (h.good.hooks y hy).1; have := e.1; omega)
theorem tr_has {s : Sft} {l : List Int} (hF : OrdF s l) {i : Nat} (hi : i < s.n) : (i : Int) ∈ heldT s l (s.to_.getD i 0) := by
 unfold heldT
 rw [List.mem_append]
 by_cases hm : movedN s i = true
 · exact Or.inr (List.mem_filter.2 ⟨(hF.mem i hi).2 hm, by rw [Int.toNat_natCast]; simp⟩)
 · left
   have hm2 : movedN s i = false := by simpa using hm
   have h3 : offN s i = 0 := by
    unfold movedN at hm2
    rw [Bool.or_eq_false_iff] at hm2
    simpa using of_decide_eq_false hm2.1
   unfold offN at h3
   rw [show s.to_.getD i 0 = (i : Int) by omega, frT_held, if_pos ⟨hi, by omega, hm2⟩]
   exact List.mem_singleton.2 rfl
def aheadE : List Int → Int → Int → Bool
 | [], _, _ => false
 | x :: t, a, b => if x = a then (x :: t).any (fun y => decide (y = b)) else aheadE t a b
theorem ahead_app {P Q : List Int} {a b : Int} (hP : ¬ a ∈ P) (hb : b ∈ a :: Q) : aheadE (P ++ a :: Q) a b = true := by
 induction P with
 | nil =>
   show (if a = a then (a :: Q).any (fun y => decide (y = b)) else _) = true
   rw [if_pos rfl]
   exact List.any_eq_true.2 ⟨b, hb, decide_eq_true rfl⟩
 | cons x t ih =>
   show (if x = a then _ else aheadE (t ++ a :: Q) a b) = true
   rw [if_neg (fun e => hP (by rw [e]; exact List.mem_cons_self))]
   exact ih fun h => hP (List.mem_cons_of_mem _ h)
theorem tr_ahead {s : Sft} (hs : SftOk s) {l : List Int} (hF : OrdF s l) (hM : MayP s l) {p : Int × Int} (hp : p ∈ s.first) (hto : s.to_.getD p.1.toNat 0 = s.to_.getD p.2.toNat 0) : aheadE (heldT s l (s.to_.getD p.2.toNat 0)) p.1 p.2 = true := by
 obtain ⟨a1, a2, b1, b2, hne⟩ := hs.first p hp
 obtain ⟨a, ha⟩ : ∃ a : Nat, p.1 = (a : Int) := ⟨p.1.toNat, by omega⟩
 obtain ⟨b, hb⟩ : ∃ b : Nat, p.2 = (b : Int) := ⟨p.2.toNat, by omega⟩
 have hmb : movedN s b = true := by
  unfold movedN
  rw [Bool.or_eq_true]
  exact Or.inr (List.any_eq_true.2 ⟨p, hp, decide_eq_true hb⟩)
 have hbl : (b : Int) ∈ l := (hF.mem b (by omega)).2 hmb
 have hfst := hM.fst p hp
 rw [ha, hb] at hto hfst hne ⊢
 rw [Int.toNat_natCast, Int.toNat_natCast] at hto
 rw [Int.toNat_natCast]
 by_cases hma : movedN s a = true
 · have hal : (a : Int) ∈ l := (hF.mem a (by omega)).2 hma
   obtain ⟨k, hk⟩ := List.mem_iff_getElem?.1 hal
   obtain ⟨m, hm⟩ := List.mem_iff_getElem?.1 hbl
   rw [idx_is hM.nd hk, idx_is hM.nd hm] at hfst
   have hkm : k < m := by
    rcases Nat.lt_or_eq_of_le (show k ≤ m by omega) with h | h
    · exact h
    · subst h; rw [hk] at hm; exact absurd (Option.some.inj hm) hne
   obtain ⟨hkl, ek⟩ := List.getElem?_eq_some_iff.1 hk
   have hsplit : l = l.take k ++ (a : Int) :: l.drop (k + 1) := by
    conv => lhs; rw [← List.take_append_drop k l, List.drop_eq_getElem_cons hkl, ek]
   have hbd : (b : Int) ∈ l.drop (k + 1) := by
    rw [List.mem_iff_getElem?]
    exact ⟨m - (k + 1), by rw [List.getElem?_drop, show k + 1 + (m - (k + 1)) = m by omega]; exact hm⟩
   have hfr : ¬ (a : Int) ∈ frT s s.n (s.to_.getD b 0) := fun h => by
    unfold frT at h
    split at h
    · rename_i hc
      rw [List.mem_singleton] at h
      rw [← h, Int.toNat_natCast] at hc
      exact hc.2.2 ⟨by omega, hma⟩
    · cases h
   have hft : ¬ (a : Int) ∈ (l.take k).filter fun x => decide (s.to_.getD x.toNat 0 = s.to_.getD b 0) := fun h => hM.nd k _ hk (List.mem_filter.1 h).1
   unfold heldT
   rw [hsplit, List.filter_append, List.filter_cons_of_pos (by rw [Int.toNat_natCast, hto]; simp), ← List.append_assoc]
   exact ahead_app (fun h => by rcases List.mem_append.1 h with h | h; exact hfr h; exact hft h) (List.mem_cons_of_mem _ (List.mem_filter.2 ⟨hbd, by rw [Int.toNat_natCast]; simp⟩))
 · have hm2 : movedN s a = false := by simpa using hma
   have h3 : offN s a = 0 := by
    unfold movedN at hm2
    rw [Bool.or_eq_false_iff] at hm2
    simpa using of_decide_eq_false hm2.1
   unfold offN at h3
   have hbt : (b : Int) ∈ l.filter fun x => decide (s.to_.getD x.toNat 0 = s.to_.getD b 0) := List.mem_filter.2 ⟨hbl, by rw [Int.toNat_natCast]; simp⟩
   unfold heldT
   rw [← hto, show s.to_.getD a 0 = (a : Int) by omega] at hbt ⊢
   rw [frT_held, if_pos ⟨by omega, by omega, hm2⟩]
   exact ahead_app (P := []) (by simp) (List.mem_cons_of_mem _ hbt)
theorem comp_empty {n : Nat} (hn : n ≤ 101) : compE (n : Int) [] = 0 ∧ compO (n : Int) [] = headL n := by
 have hc : chartE (n : Int) [] = 0 := by
  unfold chartE
  rw [if_neg (by simp), if_neg (by omega)]
  rfl
 have hp : plainB (n : Int) [] = true := by
  unfold plainB
  rw [if_neg (by simp)]
  exact decide_eq_true (by omega)
 have hl : compL (n : Int) [] = headL n := by
  unfold compL
  rw [Int.toNat_natCast]
  rfl
 have h1 : compE (n : Int) [] = 0 := by
  unfold compE
  rw [if_neg (by rw [hc]; decide), if_neg (by rw [hp]; decide), hl]
  rw [if_neg (by unfold headL; simp; omega)]
 exact ⟨h1, by unfold compO; rw [if_pos h1, hl]⟩
theorem bed0_good : Good bed0 := ⟨⟨by decide, by decide⟩, Nat.zero_le _, fun _ h => absurd h List.not_mem_nil, fun _ h => absurd h List.not_mem_nil, rfl, fun _ h => absurd h List.not_mem_nil, rfl, rfl, ⟨fun _ h => absurd h List.not_mem_nil, List.Pairwise.nil⟩⟩
theorem feed_self (l : List Fd) (g : Fd) : feedAt (setF (keyF g.car) [g] l) g.car = some g := by
 unfold feedAt setF
 rw [List.find?_append]
 have e1 : (loF (keyF g.car) l).find? (fun f => decide (f.car = g.car)) = none := List.find?_eq_none.2 fun x hx => by
  have := loF_lo hx
  unfold keyF at this
  simp only [decide_eq_true_eq]
  omega
 rw [e1, List.singleton_append, List.find?_cons, decide_eq_true rfl]
 rfl
theorem set_cars {c k : Int} {l xs : List Fd} (h : ∀ f ∈ l, f.car = c) (hx : ∀ f ∈ xs, f.car = c) : ∀ f ∈ setF (keyF k) xs l, f.car = c := fun f hf => by
 unfold setF at hf
 rcases List.mem_append.1 hf with h1 | h1
 · exact h f (List.mem_filter.1 h1).1
 · rcases List.mem_append.1 h1 with h2 | h2
   · exact hx f h2
   · exact h f (List.mem_filter.1 h2).1
structure KSt (k : Nat) (t : BedS) : Prop where
 good : Good t
 rack : t.rack = 0
 made : t.made.length = k
 feed : ∃ f, feedAt t.feeds 1 = some f ∧ (f.fresh = true ∨ f.place = 2 * (k : Int) - 1)
 front : ∀ u, heldAt t.hooks 0 u = if 0 ≤ u ∧ u < (k : Int) then [u] else []
 back : ∀ u, heldAt t.hooks 1 u = []
 cars : ∀ f ∈ t.feeds, f.car = 1
def inT : Ins := ⟨1, false, 0, 0, 0, 1, 0⟩
theorem inT_good : inT.good ∧ inT.wf := ⟨by decide, by unfold Ins.wf; decide⟩
theorem KSt.start : ∃ t, Go1 bed0 [inT] t ∧ KSt 0 t := by
 have hd : doI bed0 inT = ({ bed0 with feeds := setF (keyF 1) [⟨1, true, 0⟩] [] }, 0) := rfl
 have hg := (doI_good bed0_good inT_good.2 inT_good.1 (by rw [hd])).1
 rw [hd] at hg
 exact ⟨_, Go1.one (err_good inT_good.1) hd, hg, rfl, rfl, ⟨⟨1, true, 0⟩, rfl, Or.inl rfl⟩, fun u => by rw [if_neg (by omega)]; rfl, fun u => rfl, fun f hf => by rw [List.mem_singleton.1 (show f ∈ [(⟨1, true, 0⟩ : Fd)] from hf)]⟩
theorem knT_good {k : Nat} (hk : k ≤ 100) : (knitI 3 true 0 (k : Int)).good ∧ (knitI 3 true 0 (k : Int)).wf :=
 ⟨Or.inr (Or.inl ⟨Or.inl rfl, rfl, rfl, ⟨by show (1 : Int) ≤ 1; decide, by show (1 : Int) ≤ 6; decide⟩, by show (0 : Int) ≤ 1; decide, by show -100 ≤ (k : Int); omega, by show (k : Int) ≤ 100; omega⟩), by show (0 : Int) ≤ 3; decide, by show (3 : Int) ≤ 255; decide, by show (0 : Int) ≤ 0; decide, by show (0 : Int) ≤ 255; decide⟩
theorem KSt.knit {k : Nat} {t : BedS} (h : KSt k t) (hk : k ≤ 100) : ∃ t', Go1 t [knitI 3 true 0 (k : Int)] t' ∧ KSt (k + 1) t' := by
 obtain ⟨f, hf, hfp⟩ := h.feed
 obtain ⟨g1, g2⟩ := knT_good hk
 have hcol : colI t.rack (knitI 3 true 0 (k : Int)).bed (knitI 3 true 0 (k : Int)).at_ = (k : Int) := by
  show (k : Int) + 0 * t.rack = (k : Int)
  omega
 have hpass : passS t (knitI 3 true 0 (k : Int)) = some { t with feeds := setF (keyF 1) [⟨1, false, 2 * (k : Int) + 1⟩] t.feeds } := by
  unfold passS
  rw [show feedAt t.feeds (knitI 3 true 0 (k : Int)).car = some f from hf]
  have hw : wayI (knitI 3 true 0 (k : Int)) = 1 := rfl
  simp only [hcol, hw]
  rw [if_neg ?_]
  · rfl
  · rintro ⟨h1, h2⟩
    rcases hfp with h3 | h3
    · rw [h3] at h1; cases h1
    · rw [h3] at h2; omega
 have hm : t.made.length ≠ 4000 := by rw [h.made]; omega
 have h0 : heldAt t.hooks 0 (k : Int) = [] := by rw [h.front, if_neg (by omega)]
 have hd : doI t (knitI 3 true 0 (k : Int)) = ({ rack := t.rack, hooks := putAt (putAt t.hooks 0 (k : Int) []) 0 (k : Int) [(t.made.length : Int)], feeds := setF (keyF 1) [⟨1, false, 2 * (k : Int) + 1⟩] t.feeds, made := t.made ++ [⟨heldAt t.hooks 0 (k : Int), 0, (k : Int), 1⟩] }, 0) := by
  unfold doI
  rw [if_neg (by show ¬ (3 : Int) = 1; decide), if_neg (by show ¬ (3 : Int) = 2; decide), if_neg (by show ¬ (3 : Int) = 8; decide), if_neg (by show ¬ (3 : Int) = 9; decide), if_neg (by show ¬ (3 : Int) = 7; decide)]
  unfold yarnS
  rw [hpass]
  show (if (3 : Int) = 5 then _ else if (3 : Int) = 4 then _ else if (3 : Int) = 6 then _ else _) = _
  rw [if_neg (by decide), if_neg (by decide), if_neg (by decide)]
  unfold knitS
  show (if t.made.length = 4000 then _ else _) = _
  rw [if_neg hm]
  rfl
 have hg := (doI_good h.good g2 g1 (by rw [hd])).1
 rw [hd] at hg
 have ht0 := h.good.take (b := 0) ⟨by decide, by decide⟩ (show needleP (k : Int) by unfold needleP; omega)
 refine ⟨_, Go1.one (err_good g1) hd, hg, h.rack, by show (t.made ++ [_]).length = k + 1; rw [List.length_append, h.made]; rfl, ⟨_, feed_self t.feeds ⟨1, false, 2 * (k : Int) + 1⟩, Or.inr (by show 2 * (k : Int) + 1 = _; push_cast; omega)⟩, fun u => ?_, fun u => ?_, fun f hf => set_cars h.cars (by intro g hg; rw [List.mem_singleton.1 hg]) f hf⟩
 · show heldAt (putAt (putAt t.hooks 0 (k : Int) []) 0 (k : Int) [(t.made.length : Int)]) 0 u = _
   rw [tp_at (l := putAt t.hooks 0 (k : Int) []) ht0.rh, h.made]
   by_cases e : u = (k : Int)
   · rw [if_pos ⟨rfl, e⟩, if_pos (by omega), e]
   · rw [if_neg (fun h => e h.2), tp_at h.good.rh, if_neg (fun h => e h.2), h.front]
     by_cases c : 0 ≤ u ∧ u < (k : Int)
     · rw [if_pos c, if_pos (by omega)]
     · rw [if_neg c, if_neg (by omega)]
 · show heldAt (putAt (putAt t.hooks 0 (k : Int) []) 0 (k : Int) [(t.made.length : Int)]) 1 u = _
   rw [tp_at (l := putAt t.hooks 0 (k : Int) []) ht0.rh, if_neg (by omega), tp_at h.good.rh, if_neg (by omega), h.back]
theorem head_run : ∀ n, n ≤ 101 → ∃ t, Go1 bed0 (headL n) t ∧ KSt n t
 | 0, _ => KSt.start
 | n + 1, hn => by
   obtain ⟨t, h1, h2⟩ := head_run n (by omega)
   obtain ⟨t', h3, h4⟩ := h2.knit (by omega)
   refine ⟨t', ?_, h4⟩
   have e : headL (n + 1) = headL n ++ [knitI 3 true 0 (n : Int)] := by
    unfold headL
    rw [List.range_succ, List.map_append]
    rfl
   rw [e]
   exact h1.app h3
theorem head_len (n : Nat) : (headL n).length = n + 1 := by unfold headL; simp
theorem begin_run {n : Nat} (hn : n ≤ 101) : ∃ t, runS bed0 (headL n) = (t, (((headL n).length : Nat) : Int), 0) ∧ KSt n t := by
 obtain ⟨t, h1, h2⟩ := head_run n hn
 refine ⟨t, ?_, h2⟩
 unfold runS
 rw [if_neg (by rw [bed0_good.err]; decide), if_neg (by rw [head_len]; omega)]
 exact h1.end_
theorem KSt.mst {s : Sft} {t : BedS} (h : KSt s.n t) : MSt t 0 (frT s 0) (fun _ => []) t := ⟨h.good, h.rack, rfl, fun u => by
 rw [h.front]
 unfold frT
 by_cases c : 0 ≤ u ∧ u < (s.n : Int)
 · rw [if_pos c, if_pos ⟨c.1, c.2, by omega⟩]
 · rw [if_neg c, if_neg (fun h => c ⟨h.1, h.2.1⟩)], h.back⟩
theorem KSt.hooks {n : Nat} {t : BedS} (h : KSt n t) : t.hooks.length = n := by
 have hr : risB ltH ((List.range n).map fun k : Nat => (⟨0, (k : Int), [(k : Int)]⟩ : Hk)) = true := by
  refine ris_of ?_
  rw [List.pairwise_map]
  exact List.pairwise_lt_range.imp fun {a b} h => decide_eq_true (Or.inr ⟨rfl, by show (a : Int) < (b : Int); omega⟩)
 have e : t.hooks = (List.range n).map fun k : Nat => (⟨0, (k : Int), [(k : Int)]⟩ : Hk) := by
  refine hooks_ext h.good.rh hr (fun x hx e => by have := (h.good.hooks x hx).2.2.1; rw [e] at this; simp at this) (fun x hx => ?_) fun b u => ?_
  · rw [List.mem_map] at hx
    obtain ⟨k, -, rfl⟩ := hx
    simp
  · by_cases hb : b = 0
    · rw [hb, h.front]
      by_cases c : 0 ≤ u ∧ u < (n : Int)
      · rw [if_pos c]
        obtain ⟨k, rfl⟩ : ∃ k : Nat, u = (k : Int) := ⟨u.toNat, by omega⟩
        have hm : (⟨0, (k : Int), [(k : Int)]⟩ : Hk) ∈ (List.range n).map fun k : Nat => (⟨0, (k : Int), [(k : Int)]⟩ : Hk) := List.mem_map.2 ⟨k, List.mem_range.2 (by omega), rfl⟩
        exact (hook_at hr hm).symm
      · rw [if_neg c]
        refine (heldAt_none fun y hy => ?_).symm
        rw [List.mem_map] at hy
        obtain ⟨k, hk, rfl⟩ := hy
        have := List.mem_range.1 hk
        exact decide_eq_false (by rintro ⟨-, h⟩; have h : (k : Int) = u := h; omega)
    · have e2 : heldAt ((List.range n).map fun k : Nat => (⟨0, (k : Int), [(k : Int)]⟩ : Hk)) b u = [] := heldAt_none fun y hy => by
       rw [List.mem_map] at hy
       obtain ⟨k, -, rfl⟩ := hy
       exact decide_eq_false (fun h => hb h.1.symm)
      rw [e2]
      by_cases h1 : b = 1
      · rw [h1]; exact h.back u
      · exact heldAt_none fun y hy => decide_eq_false (fun e => by have := (h.good.hooks y hy).1; have := e.1; omega)
 rw [e, List.length_map, List.length_range]
end Go.Proofs.YtflpikickbellaaGreat
