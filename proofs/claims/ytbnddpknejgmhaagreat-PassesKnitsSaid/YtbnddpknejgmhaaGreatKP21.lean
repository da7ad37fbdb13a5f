/- PassesKnits, plain: a machine runs the program of a plain chart. Layer 27, plain: what a chart is worked to. -/
import Derived.Test.YtbnddpknejgmhaaGreatKP15
import Derived.Test.YtbnddpknejgmhaaGreatKP20
import Derived.Test.YtbnddpknejgmhaaGreatKP17
namespace Go.Proofs.YtbnddpknejgmhaaGreat
open Go.RowKit
set_option maxRecDepth 100000

theorem tk_self (b n : Int) (ls : List Int) : keyH b n ⟨b, n, ls⟩ = 0 := by
  unfold keyH placeI
  simp
theorem tp_self (l : List Hk) (b n : Int) (ls : List Int) : heldAt (putAt l b n ls) b n = ls := by
  by_cases hl : ls = []
  · subst hl; exact held_put_nil
  · have e : (putAt l b n ls).find? (hkAt b n) = some ⟨b, n, ls⟩ := by
      unfold putAt setF
      rw [if_neg hl, List.find?_append]
      have e1 : (loF (keyH b n) l).find? (hkAt b n) = none := List.find?_eq_none.2 fun x hx => by
        rw [key_hk]
        have := loF_lo hx
        simp; omega
      rw [e1, List.singleton_append, List.find?_cons, key_hk, tk_self]
      rfl
    unfold heldAt
    rw [e]
theorem tp_at {l : List Hk} (hr : risB ltH l = true) (b n : Int) (ls : List Int) (b' n' : Int) : heldAt (putAt l b n ls) b' n' = if b' = b ∧ n' = n then ls else heldAt l b' n' := by
  by_cases h : b' = b ∧ n' = n
  · rw [if_pos h, h.1, h.2, tp_self]
  · rw [if_neg h]
    exact held_put_ne hr _ (by omega)
theorem err_good {i : Ins} (h : i.good) : i.err = 0 := by unfold Ins.err; rw [if_pos h]
theorem xferI_good {b n : Int} (hb : 0 ≤ b ∧ b ≤ 1) (hn : needleP n) : (xferI b n).good ∧ (xferI b n).wf :=
  ⟨Or.inr (Or.inr (Or.inr (Or.inl ⟨rfl, rfl, rfl, rfl, hb.2, hn, hn⟩))), by show (0 : Int) ≤ 7; decide, by show (7 : Int) ≤ 255; decide, hb.1, by show b ≤ 255; omega⟩
theorem do_xf {s : BedS} (h : Good s) {b n : Int} (h0 : s.rack = 0) (hl : (heldAt s.hooks (1 - b) n ++ heldAt s.hooks b n).length ≤ 6) :
    doI s (xferI b n) = ({ s with hooks := putAt (putAt s.hooks b n []) (1 - b) n (heldAt s.hooks (1 - b) n ++ heldAt s.hooks b n) }, 0) := by
  unfold doI
  rw [if_neg (by show ¬ (7 : Int) = 1; decide), if_neg (by show ¬ (7 : Int) = 2; decide), if_neg (by show ¬ (7 : Int) = 8; decide), if_neg (by show ¬ (7 : Int) = 9; decide), if_pos (show (xferI b n).op = 7 from rfl)]
  have e : acrossS (takeS s (xferI b n).bed (xferI b n).at_) (xferI b n) (heldAt s.hooks (xferI b n).bed (xferI b n).at_) = some { s with hooks := putAt (putAt s.hooks b n []) (1 - b) n (heldAt s.hooks (1 - b) n ++ heldAt s.hooks b n) } := by
    show acrossS (takeS s b n) (xferI b n) (heldAt s.hooks b n) = _
    unfold acrossS
    rw [if_neg (by show ¬ colI s.rack b n ≠ colI s.rack (1 - b) n; unfold colI; rw [h0]; simp)]
    show layS (takeS s b n) (1 - b) n (heldAt s.hooks b n) = _
    have e0 : heldAt (takeS s b n).hooks (1 - b) n = heldAt s.hooks (1 - b) n := held_put_ne h.rh _ (Or.inl (by omega))
    unfold layS
    rw [e0, if_neg (by omega)]
    rfl
  rw [e]
/-! Runs, part by part. -/
def Go1 (t : BedS) (l : List Ins) (t' : BedS) : Prop := ∀ (k : Nat) (rest : List Ins), runI t k (l ++ rest) = runI t' (k + l.length) rest
theorem Go1.nil (t : BedS) : Go1 t [] t := fun _ _ => rfl
theorem Go1.one {t t' : BedS} {i : Ins} (he : i.err = 0) (hd : doI t i = (t', 0)) : Go1 t [i] t' := fun k rest => by
  show (if i.err ≠ 0 then _ else if (doI t i).2 ≠ 0 then _ else runI (doI t i).1 (k + 1) rest) = _
  rw [if_neg (by rw [he]; decide), hd, if_neg (by simp)]
  rfl
theorem Go1.app {t t1 t2 : BedS} {a b : List Ins} (h1 : Go1 t a t1) (h2 : Go1 t1 b t2) : Go1 t (a ++ b) t2 := fun k rest => by
  rw [List.append_assoc, h1, h2, List.length_append, Nat.add_assoc]
theorem Go1.end_ {t t' : BedS} {l : List Ins} (h : Go1 t l t') : runI t 0 l = (t', (l.length : Int), 0) := by
  have := h 0 []
  rw [List.append_nil, Nat.zero_add] at this
  rw [this]
  rfl
theorem bed0_good : Good bed0 := ⟨⟨by decide, by decide⟩, Nat.zero_le _, fun _ h => absurd h List.not_mem_nil, fun _ h => absurd h List.not_mem_nil, rfl, fun _ h => absurd h List.not_mem_nil, rfl, rfl, ⟨fun _ h => absurd h List.not_mem_nil, List.Pairwise.nil⟩⟩
theorem feed_self (l : List Fd) (g : Fd) : feedAt (setF (keyF g.car) [g] l) g.car = some g := by
  unfold feedAt setF
  rw [List.find?_append]
  have e1 : (loF (keyF g.car) l).find? (fun f => decide (f.car = g.car)) = none := List.find?_eq_none.2 fun x hx => by
    have := loF_lo hx
    unfold keyF at this
    simp only [decide_eq_true_eq]
    omega
  rw [e1, List.singleton_append, List.find?_cons, decide_eq_true rfl]
  rfl
/-! ### the state: n loops on n needles, the loop of needle u is `cur u`, on the bed `B u`; the carrier is behind j needles -/
structure KnS (n : Nat) (M : List Mk) (cur B : List Int) (j : Nat) (t : BedS) : Prop where
  good : Good t
  rack : t.rack = 0
  made : t.made = M
  feed : ∃ f, feedAt t.feeds 1 = some f ∧ (f.fresh = true ∨ f.place = 2 * (j : Int) - 1)
  held : ∀ b u, b = 0 ∨ b = 1 → heldAt t.hooks b u = if 0 ≤ u ∧ u < (n : Int) ∧ B.getD u.toNat 0 = b then [cur.getD u.toNat 0] else []
def bedOkL (B : List Int) : Prop := ∀ u, B.getD u 0 = 0 ∨ B.getD u 0 = 1
theorem getD_set {l : List Int} {k : Nat} (hk : k < l.length) (x : Int) (u : Nat) : (l.set k x).getD u 0 = if u = k then x else l.getD u 0 := by
  rw [List.getD_eq_getElem?_getD, List.getD_eq_getElem?_getD, List.getElem?_set]
  by_cases h : u = k
  · subst h; simp [hk]
  · rw [if_neg h, if_neg (fun e => h e.symm)]
theorem KnS.ext {n : Nat} {M : List Mk} {cur B cur' B' : List Int} {j : Nat} {t : BedS} (h : KnS n M cur B j t) (hc : ∀ u, u < n → cur.getD u 0 = cur'.getD u 0) (hB : ∀ u, u < n → B.getD u 0 = B'.getD u 0) : KnS n M cur' B' j t :=
  ⟨h.good, h.rack, h.made, h.feed, fun b u hb => by
    rw [h.held b u hb]
    by_cases hu : 0 ≤ u ∧ u < (n : Int)
    · rw [hc _ (by omega), hB _ (by omega)]
    · rw [if_neg (fun x => hu ⟨x.1, x.2.1⟩), if_neg (fun x => hu ⟨x.1, x.2.1⟩)]⟩
/-- A loop goes onto the opposite needle. -/
theorem KnS.xfer {n : Nat} (hn : n ≤ 101) {M : List Mk} {cur B : List Int} {j : Nat} {t : BedS} (h : KnS n M cur B j t) {k : Nat} (hk : k < n) (hBn : B.length = n) {b : Int} (hb : b = 0 ∨ b = 1) (hB : B.getD k 0 = b) :
    ∃ t', Go1 t [xferI b (k : Int)] t' ∧ KnS n M cur (B.set k (1 - b)) j t' := by
  have hnd : needleP (k : Int) := by unfold needleP; omega
  have hb2 : 0 ≤ b ∧ b ≤ 1 := by omega
  obtain ⟨g1, g2⟩ := xferI_good hb2 hnd
  have e1 : heldAt t.hooks b (k : Int) = [cur.getD k 0] := by
    rw [h.held b _ hb, if_pos ⟨by omega, by omega, by rw [Int.toNat_natCast]; exact hB⟩, Int.toNat_natCast]
  have e2 : heldAt t.hooks (1 - b) (k : Int) = [] := by
    rw [h.held (1 - b) _ (by omega), if_neg]
    rw [Int.toNat_natCast, hB]; omega
  have hd := do_xf h.good (b := b) (n := (k : Int)) h.rack (by rw [e1, e2]; simp)
  rw [e1, e2, List.nil_append] at hd
  have hg := (doI_good h.good g2 g1 (by rw [hd])).1
  rw [hd] at hg
  have ht0 := h.good.take hb2 hnd
  refine ⟨_, Go1.one (err_good g1) hd, hg, h.rack, h.made, h.feed, fun b' u hb' => ?_⟩
  show heldAt (putAt (putAt t.hooks b (k : Int) []) (1 - b) (k : Int) [cur.getD k 0]) b' u = _
  rw [tp_at (l := putAt t.hooks b (k : Int) []) ht0.rh, tp_at h.good.rh, h.held b' u hb']
  by_cases hu : 0 ≤ u ∧ u < (n : Int)
  · obtain ⟨v, rfl⟩ : ∃ v : Nat, u = (v : Int) := ⟨u.toNat, by omega⟩
    rw [Int.toNat_natCast, getD_set (by omega)]
    by_cases e : v = k
    · subst e
      rw [if_pos rfl]
      by_cases hbb : b' = 1 - b
      · rw [if_pos ⟨hbb, rfl⟩, if_pos ⟨hu.1, hu.2, hbb.symm⟩]
      · rw [if_neg (fun x => hbb x.1), if_pos ⟨by omega, rfl⟩, if_neg (fun x => hbb x.2.2.symm)]
    · rw [if_neg (fun x => e (by omega)), if_neg (fun x => e (by omega)), if_neg e]
  · have n1 : ¬ u = (k : Int) := by omega
    rw [if_neg (fun x => n1 x.2), if_neg (fun x => n1 x.2), if_neg (fun x => hu ⟨x.1, x.2.1⟩), if_neg (fun x => hu ⟨x.1, x.2.1⟩)]
/-! ### the carrier passes a needle -/
theorem knitI_good {op : Int} (ho : op = 3 ∨ op = 5) (right : Bool) {b : Int} (hb : b = 0 ∨ b = 1) {k : Nat} (hk : k ≤ 100) : (knitI op right b (k : Int)).good ∧ (knitI op right b (k : Int)).wf := by
  rcases ho with rfl | rfl
  · exact ⟨Or.inr (Or.inl ⟨Or.inl rfl, rfl, rfl, ⟨by show (1 : Int) ≤ 1; decide, by show (1 : Int) ≤ 6; decide⟩, by show b ≤ 1; omega, by show -100 ≤ (k : Int); omega, by show (k : Int) ≤ 100; omega⟩), by show (0 : Int) ≤ 3; decide, by show (3 : Int) ≤ 255; decide, by show 0 ≤ b; omega, by show b ≤ 255; omega⟩
  · exact ⟨Or.inr (Or.inl ⟨Or.inr (Or.inr rfl), rfl, rfl, ⟨by show (1 : Int) ≤ 1; decide, by show (1 : Int) ≤ 6; decide⟩, by show b ≤ 1; omega, by show -100 ≤ (k : Int); omega, by show (k : Int) ≤ 100; omega⟩), by show (0 : Int) ≤ 5; decide, by show (5 : Int) ≤ 255; decide, by show 0 ≤ b; omega, by show b ≤ 255; omega⟩
/-- The needles to the left of the carrier: before a step, behind it. -/
def jB (right : Bool) (k : Nat) : Nat := if right then k else k + 1
def jA (right : Bool) (k : Nat) : Nat := if right then k + 1 else k
theorem KnS.pass {n : Nat} {M : List Mk} {cur B : List Int} {right : Bool} {k : Nat} {t : BedS} (h : KnS n M cur B (jB right k) t) (op b : Int) :
    ∃ f', (f'.fresh = true ∨ f'.place = 2 * (jA right k : Int) - 1) ∧ f'.car = 1 ∧ passS t (knitI op right b (k : Int)) = some { t with feeds := setF (keyF 1) [f'] t.feeds } := by
  obtain ⟨f, hf, hfp⟩ := h.feed
  have hcol : colI t.rack (knitI op right b (k : Int)).bed (knitI op right b (k : Int)).at_ = (k : Int) := by
    show (k : Int) + b * t.rack = (k : Int)
    rw [h.rack]; omega
  refine ⟨⟨1, false, 2 * (k : Int) + wayI (knitI op right b (k : Int))⟩, Or.inr ?_, rfl, ?_⟩
  · show 2 * (k : Int) + (if right then 1 else -1) = _
    unfold jA
    cases right
    · simp; omega
    · simp; omega
  · unfold passS
    rw [show feedAt t.feeds (knitI op right b (k : Int)).car = some f from hf]
    simp only [hcol]
    rw [if_neg ?_]
    · rfl
    · rintro ⟨h1, h2⟩
      rcases hfp with h3 | h3
      · rw [h3] at h1; cases h1
      · rw [h3] at h2
        have h2' : (if right then (1 : Int) else -1) * (2 * (k : Int) - (2 * (jB right k : Int) - 1)) ≤ 0 := h2
        unfold jB at h2'
        cases right <;> simp at h2' <;> omega
theorem doI_yarn {s : BedS} {i : Ins} (h : i.op = 3 ∨ i.op = 5) : doI s i = yarnS s i := by
  unfold doI
  rcases h with h | h <;> rw [if_neg (by rw [h]; decide), if_neg (by rw [h]; decide), if_neg (by rw [h]; decide), if_neg (by rw [h]; decide), if_neg (by rw [h]; decide)]
theorem KnS.miss {n : Nat} {M : List Mk} {cur B : List Int} {right : Bool} {k : Nat} {t : BedS} (h : KnS n M cur B (jB right k) t) (hk : k ≤ 100) {b : Int} (hb : b = 0 ∨ b = 1) :
    ∃ t', Go1 t [knitI 5 right b (k : Int)] t' ∧ KnS n M cur B (jA right k) t' := by
  obtain ⟨g1, g2⟩ := knitI_good (Or.inr rfl) right hb hk
  obtain ⟨f', hf', hc, hp⟩ := h.pass 5 b
  have hd : doI t (knitI 5 right b (k : Int)) = ({ t with feeds := setF (keyF 1) [f'] t.feeds }, 0) := by
    rw [doI_yarn (Or.inr rfl)]
    unfold yarnS
    rw [hp]
    show (if (5 : Int) = 5 then _ else _) = _
    rw [if_pos rfl]
  have hg := (doI_good h.good g2 g1 (by rw [hd])).1
  rw [hd] at hg
  exact ⟨_, Go1.one (err_good g1) hd, hg, h.rack, h.made, ⟨f', by have := feed_self t.feeds f'; rw [hc] at this; exact this, hf'⟩, h.held⟩
theorem KnS.knit {n : Nat} (hn : n ≤ 101) {M : List Mk} {cur B : List Int} {right : Bool} {k : Nat} {t : BedS} (h : KnS n M cur B (jB right k) t) (hk : k < n) (hc : cur.length = n) (hm : M.length ≤ 3999) {b : Int} (hb : b = 0 ∨ b = 1) (hB : B.getD k 0 = b) :
    ∃ t', Go1 t [knitI 3 right b (k : Int)] t' ∧ KnS n (M ++ [⟨[cur.getD k 0], b, (k : Int), 1⟩]) (cur.set k (M.length : Int)) B (jA right k) t' := by
  obtain ⟨g1, g2⟩ := knitI_good (Or.inl rfl) right hb (show k ≤ 100 by omega)
  obtain ⟨f', hf', hcr, hp⟩ := h.pass 3 b
  have e1 : heldAt t.hooks b (k : Int) = [cur.getD k 0] := by
    rw [h.held b _ hb, if_pos ⟨by omega, by omega, by rw [Int.toNat_natCast]; exact hB⟩, Int.toNat_natCast]
  have hd : doI t (knitI 3 right b (k : Int)) = ({ rack := t.rack, hooks := putAt (putAt t.hooks b (k : Int) []) b (k : Int) [(t.made.length : Int)], feeds := setF (keyF 1) [f'] t.feeds, made := t.made ++ [⟨heldAt t.hooks b (k : Int), b, (k : Int), 1⟩] }, 0) := by
    rw [doI_yarn (Or.inl rfl)]
    unfold yarnS
    rw [hp]
    show (if (3 : Int) = 5 then _ else if (3 : Int) = 4 then _ else if (3 : Int) = 6 then _ else _) = _
    rw [if_neg (by decide), if_neg (by decide), if_neg (by decide)]
    unfold knitS
    show (if t.made.length = 4000 then _ else _) = _
    rw [if_neg (by rw [h.made]; omega)]
    rfl
  have hg := (doI_good h.good g2 g1 (by rw [hd])).1
  rw [hd] at hg
  have ht0 := h.good.take (b := b) (by omega) (show needleP (k : Int) by unfold needleP; omega)
  refine ⟨_, Go1.one (err_good g1) hd, hg, h.rack, ?_, ⟨f', by have := feed_self t.feeds f'; rw [hcr] at this; exact this, hf'⟩, fun b' u hb' => ?_⟩
  · show t.made ++ [_] = _
    rw [e1, h.made]
  · show heldAt (putAt (putAt t.hooks b (k : Int) []) b (k : Int) [(t.made.length : Int)]) b' u = _
    rw [tp_at (l := putAt t.hooks b (k : Int) []) ht0.rh, tp_at h.good.rh, h.held b' u hb', h.made]
    by_cases hu : 0 ≤ u ∧ u < (n : Int)
    · obtain ⟨v, rfl⟩ : ∃ v : Nat, u = (v : Int) := ⟨u.toNat, by omega⟩
      rw [Int.toNat_natCast, getD_set (by omega)]
      by_cases e : v = k
      · subst e
        rw [if_pos rfl, hB]
        by_cases hbb : b' = b
        · rw [if_pos ⟨hbb, rfl⟩, if_pos ⟨hu.1, hu.2, hbb.symm⟩]
        · rw [if_neg (fun x => hbb x.1), if_neg (fun x => hbb x.1), if_neg (fun x => hbb x.2.2.symm), if_neg (fun x => hbb x.2.2.symm)]
      · rw [if_neg (fun x => e (by omega)), if_neg (fun x => e (by omega)), if_neg e]
    · have n1 : ¬ u = (k : Int) := by omega
      rw [if_neg (fun x => n1 x.2), if_neg (fun x => n1 x.2), if_neg (fun x => hu ⟨x.1, x.2.1⟩), if_neg (fun x => hu ⟨x.1, x.2.1⟩)]
/-! ### a row of the program: transfers, then the row -/
def xfL : Nat → List Stc → List Int → List Ins
  | _, [], _ => []
  | k, s :: l, B => (if s.kind = 1 ∧ B.getD k 0 ≠ wantS s then [xferI (B.getD k 0) k] else []) ++ xfL (k + 1) l (stepB s k B)
def bdL : Nat → List Stc → List Int → List Int
  | _, [], B => B
  | k, s :: l, B => bdL (k + 1) l (stepB s k B)
def rwL (right : Bool) : Nat → List Stc → List Int → List Ins
  | _, [], _ => []
  | k, s :: l, B => knitI (if s.kind = 1 then 3 else 5) right ((stepB s k B).getD k 0) k :: rwL right (k + 1) l (stepB s k B)
theorem xfL_cons (k : Nat) (s : Stc) (l : List Stc) (B : List Int) : xfL k (s :: l) B = (if s.kind = 1 ∧ B.getD k 0 ≠ wantS s then [xferI (B.getD k 0) k] else []) ++ xfL (k + 1) l (stepB s k B) := rfl
theorem bdL_cons (k : Nat) (s : Stc) (l : List Stc) (B : List Int) : bdL k (s :: l) B = bdL (k + 1) l (stepB s k B) := rfl
theorem rwL_cons (right : Bool) (k : Nat) (s : Stc) (l : List Stc) (B : List Int) : rwL right k (s :: l) B = [knitI (if s.kind = 1 then 3 else 5) right ((stepB s k B).getD k 0) k] ++ rwL right (k + 1) l (stepB s k B) := rfl
theorem run_parts (right : Bool) : ∀ (l : List Stc) (k : Nat) (O R : List Ins) (B : List Int), rowRunC right k l (O, R, B) = (O ++ xfL k l B, R ++ rwL right k l B, bdL k l B)
  | [], k, O, R, B => by unfold rowRunC xfL rwL bdL; simp
  | s :: l, k, O, R, B => by
    show rowRunC right (k + 1) l (stepOC s k O B, stepRw right s k R B, stepB s k B) = _
    rw [run_parts right l, xfL_cons, bdL_cons, rwL_cons]
    unfold stepOC stepRw
    by_cases h : s.kind = 1 ∧ B.getD k 0 ≠ wantS s
    · rw [if_pos h, if_pos h, List.append_assoc, List.append_assoc]
    · rw [if_neg h, if_neg h, List.append_assoc, List.nil_append]
theorem stepB_at {s : Stc} {k : Nat} {B : List Int} (hk : k < B.length) (u : Nat) : (stepB s k B).getD u 0 = if u = k ∧ s.kind = 1 then wantS s else B.getD u 0 := by
  unfold stepB
  by_cases h : s.kind = 1
  · rw [if_pos h, getD_set hk]
    by_cases e : u = k
    · rw [if_pos e, if_pos ⟨e, h⟩]
    · rw [if_neg e, if_neg (fun x => e x.1)]
  · rw [if_neg h, if_neg (fun x => h x.2)]
theorem bdL_len : ∀ (l : List Stc) (k : Nat) (B : List Int), (bdL k l B).length = B.length
  | [], _, _ => rfl
  | s :: l, k, B => by rw [bdL_cons, bdL_len l, stepB_len]
theorem bdL_at : ∀ (l : List Stc) (k : Nat) (B : List Int), k + l.length ≤ B.length → ∀ u, (bdL k l B).getD u 0 = if k ≤ u ∧ (l.getD (u - k) ⟨0, false, 0, 0⟩).kind = 1 then wantS (l.getD (u - k) ⟨0, false, 0, 0⟩) else B.getD u 0
  | [], k, B, _, u => by
    rw [if_neg (by simp)]; rfl
  | s :: l, k, B, h, u => by
    rw [bdL_cons]
    rw [List.length_cons] at h
    rw [bdL_at l (k + 1) _ (by rw [stepB_len]; omega), stepB_at (by omega)]
    rcases Nat.lt_trichotomy u k with h1 | h1 | h1
    · rw [if_neg (by omega), if_neg (by omega), if_neg (by omega)]
    · subst h1
      rw [if_neg (by omega), Nat.sub_self]
      rw [show (s :: l).getD 0 ⟨0, false, 0, 0⟩ = s from rfl]
      by_cases h2 : s.kind = 1
      · rw [if_pos ⟨rfl, h2⟩, if_pos ⟨Nat.le_refl _, h2⟩]
      · rw [if_neg (fun x => h2 x.2), if_neg (fun x => h2 x.2)]
    · obtain ⟨d, rfl⟩ : ∃ d, u = k + 1 + d := ⟨u - (k + 1), by omega⟩
      rw [show k + 1 + d - (k + 1) = d by omega, show k + 1 + d - k = d + 1 by omega]
      rw [show (s :: l).getD (d + 1) ⟨0, false, 0, 0⟩ = l.getD d ⟨0, false, 0, 0⟩ from rfl]
      by_cases h2 : (l.getD d ⟨0, false, 0, 0⟩).kind = 1
      · rw [if_pos ⟨by omega, h2⟩, if_pos ⟨by omega, h2⟩]
      · have n1 : ¬ (k + 1 ≤ k + 1 + d ∧ (l.getD d ⟨0, false, 0, 0⟩).kind = 1) := fun x => h2 x.2
        have n2 : ¬ (k ≤ k + 1 + d ∧ (l.getD d ⟨0, false, 0, 0⟩).kind = 1) := fun x => h2 x.2
        have n3 : ¬ (k + 1 + d = k ∧ s.kind = 1) := by omega
        rw [if_neg n1, if_neg n2, if_neg n3]
theorem rwL_len (right : Bool) : ∀ (l : List Stc) (k : Nat) (B : List Int), (rwL right k l B).length = l.length
  | [], _, _ => rfl
  | s :: l, k, B => by show (_ :: rwL right (k + 1) l (stepB s k B)).length = _; rw [List.length_cons, rwL_len right l, List.length_cons]
def opS (s : Stc) : Int := if s.kind = 1 then 3 else 5
theorem rwL_at (right : Bool) : ∀ (l : List Stc) (k : Nat) (B : List Int), k + l.length ≤ B.length → ∀ d, d < l.length → (rwL right k l B)[d]? = some (knitI (opS (l.getD d ⟨0, false, 0, 0⟩)) right ((bdL k l B).getD (k + d) 0) ((k + d : Nat) : Int))
  | [], _, _, _, d, hd => by simp at hd
  | s :: l, k, B, h, 0, hd => by
    rw [List.length_cons] at h
    have e := bdL_at l (k + 1) (stepB s k B) (by rw [stepB_len]; omega) k
    rw [if_neg (by omega)] at e
    show some (knitI (opS s) right ((stepB s k B).getD k 0) (k : Int)) = some (knitI (opS s) right ((bdL (k + 1) l (stepB s k B)).getD k 0) (k : Int))
    rw [e]
  | s :: l, k, B, h, d + 1, hd => by
    rw [List.length_cons] at h hd
    have := rwL_at right l (k + 1) (stepB s k B) (by rw [stepB_len]; omega) d (by omega)
    rw [show k + 1 + d = k + (d + 1) by omega] at this
    exact this
theorem stepB_ok {s : Stc} {k : Nat} {B : List Int} (h : bedOkL B) : bedOkL (stepB s k B) := fun u => by
  by_cases hk : k < B.length
  · rw [stepB_at hk]
    split
    · unfold wantS; cases s.purl <;> simp
    · exact h u
  · have e : stepB s k B = B := by
      unfold stepB
      split
      · exact List.set_eq_of_length_le (by omega)
      · rfl
    rw [e]; exact h u
theorem bdL_ok : ∀ (l : List Stc) (k : Nat) (B : List Int), bedOkL B → bedOkL (bdL k l B)
  | [], _, _, h => h
  | _ :: l, k, _, h => bdL_ok l (k + 1) _ (stepB_ok h)
theorem KnS.xfers {n : Nat} (hn : n ≤ 101) {M : List Mk} {cur : List Int} {j : Nat} : ∀ (l : List Stc) (k : Nat) (B : List Int) (t : BedS), k + l.length ≤ n → B.length = n → bedOkL B → KnS n M cur B j t → ∃ t', Go1 t (xfL k l B) t' ∧ KnS n M cur (bdL k l B) j t'
  | [], _, _, t, _, _, _, h => ⟨t, Go1.nil t, h⟩
  | s :: l, k, B, t, hk, hB, hok, h => by
    rw [List.length_cons] at hk
    rw [xfL_cons, bdL_cons]
    by_cases hc : s.kind = 1 ∧ B.getD k 0 ≠ wantS s
    · rw [if_pos hc]
      obtain ⟨t1, h1, h2⟩ := h.xfer hn (k := k) (by omega) hB (hok k) rfl
      have e : B.set k (1 - B.getD k 0) = stepB s k B := by
        unfold stepB
        rw [if_pos hc.1]
        have h3 := hok k
        have h4 := hc.2
        have h5 : wantS s = 0 ∨ wantS s = 1 := by unfold wantS; cases s.purl <;> simp
        rw [show (1 : Int) - B.getD k 0 = wantS s by omega]
      rw [e] at h2
      obtain ⟨t2, h3, h4⟩ := KnS.xfers hn l (k + 1) _ t1 (by omega) (by rw [stepB_len]; exact hB) (stepB_ok hok) h2
      exact ⟨t2, h1.app h3, h4⟩
    · rw [if_neg hc, List.nil_append]
      refine KnS.xfers hn l (k + 1) _ t (by omega) (by rw [stepB_len]; exact hB) (stepB_ok hok) (h.ext (fun _ _ => rfl) fun u _ => ?_)
      rw [stepB_at (by omega)]
      by_cases h2 : u = k ∧ s.kind = 1
      · rw [if_pos h2, h2.1]
        by_cases h3 : B.getD k 0 = wantS s
        · exact h3
        · exact absurd ⟨h2.2, h3⟩ hc
      · rw [if_neg h2]
end Go.Proofs.YtbnddpknejgmhaaGreat
namespace Go.Proofs.YtbnddpknejgmhaaGreat
open Go.RowKit
set_option maxRecDepth 100000

/-- A loop: its row, its cell, its parents, whether it is a purl. -/
structure Lp where
  row : Int
  cell : Int
  par : List Int
  purl : Bool
def lp0 : Lp := ⟨0, 0, [], false⟩
def usedN (at_ n : Nat) : List Int := (List.range n).map fun i : Nat => ((at_ + i : Nat) : Int)
/-- The loops that a cell makes. -/
def newsL (row k : Int) (s : Stc) (used : List Int) (lp : List Lp) : List Lp :=
  if s.kind = 5 then List.replicate s.a.toNat ⟨row, k, used, s.purl⟩
  else if s.kind = 9 then List.replicate s.a.toNat ⟨row, k, [], s.purl⟩
  else if s.kind = 6 ∨ s.kind = 7 then (used.drop s.a.toNat ++ used.take s.a.toNat).map fun x => ⟨row, k, [x], s.purl⟩
  else if s.kind = 10 then []
  else if s.kind = 4 then [⟨row, k, used.reverse, s.purl⟩]
  else if s.kind = 8 then [⟨row, k, used, (lp.getD (used.getD 0 0).toNat lp0).purl⟩]
  else [⟨row, k, used, s.purl⟩]
def crossP (s : Stc) (first i n : Nat) : Int × Int := if s.kind = 7 then ((first + n : Nat), ((first + s.b.toNat + i : Nat) : Int)) else (((first + s.b.toNat + i : Nat) : Int), ((first + n : Nat) : Int))
def crossI (s : Stc) (first i k : Nat) : List (Int × Int) := (List.range k).map (crossP s first i)
def crossN (s : Stc) (first k : Nat) : List (Int × Int) := (List.range k).flatMap fun i => crossI s first i s.b.toNat
def crossL (s : Stc) (first : Nat) : List (Int × Int) := if s.kind = 6 ∨ s.kind = 7 then crossN s first s.a.toNat else []
def boundL (s : Stc) (used : List Int) : List Int := if s.kind = 10 then used else []
/-- A piece under way. -/
structure Pw where
  lp : List Lp
  bound : List Int
  cross : List (Int × Int)
  rows : List Int
  next : Nat
def stepC (row k : Int) (s : Stc) (t : Pw) : Pw :=
  ⟨t.lp ++ newsL row k s (usedN t.next (usesS s).toNat) t.lp, t.bound ++ boundL s (usedN t.next (usesS s).toNat), t.cross ++ crossL s t.lp.length, t.rows, t.next + (usesS s).toNat⟩
def rowRun (row : Int) (l : List Stc) (t : Pw) : Nat → Pw
  | 0 => t
  | k + 1 => stepC row (k : Int) (l.getD k ⟨0, false, 0, 0⟩) (rowRun row l t k)
def endR (t : Pw) : Pw := ⟨t.lp, t.bound, t.cross, t.rows ++ [(t.lp.length : Int)], t.next⟩
def startP (n : Nat) : Pw := ⟨(List.range n).map fun i : Nat => ⟨0, (i : Int), [], false⟩, [], [], [0, (n : Int)], 0⟩
theorem startP_len (n : Nat) : (startP n).lp.length = n := by simp [startP]

theorem crossI_next (s : Stc) (f i k : Nat) : crossI s f i (k + 1) = crossI s f i k ++ [crossP s f i k] := by unfold crossI; rw [List.range_succ, List.map_append]; rfl
theorem crossN_next (s : Stc) (f k : Nat) : crossN s f (k + 1) = crossN s f k ++ crossI s f k s.b.toNat := by unfold crossN; rw [List.range_succ, List.flatMap_append]; simp
theorem crossI_len (s : Stc) (f i k : Nat) : (crossI s f i k).length = k := by unfold crossI; rw [List.length_map, List.length_range]
theorem crossN_len (s : Stc) (f : Nat) : ∀ k, (crossN s f k).length = k * s.b.toNat
  | 0 => by simp [crossN]
  | k + 1 => by rw [crossN_next, List.length_append, crossI_len, crossN_len s f k, Nat.add_mul, Nat.one_mul]
theorem usedN_len (a n : Nat) : (usedN a n).length = n := by unfold usedN; rw [List.length_map, List.length_range]
theorem usedN_next (a n : Nat) : usedN a (n + 1) = usedN a n ++ [((a + n : Nat) : Int)] := by unfold usedN; rw [List.range_succ, List.map_append]; rfl
theorem usedN_at {a n i : Nat} (h : i < n) : (usedN a n)[i]? = some ((a + i : Nat) : Int) := by unfold usedN; rw [List.getElem?_map, List.getElem?_range h]; rfl

/-- What a valid cell is, kind by kind. -/
structure StcK (s : Stc) : Prop where
  lo : 1 ≤ s.kind
  hi : s.kind ≤ 10
  plain : s.kind = 1 ∨ s.kind = 2 ∨ s.kind = 8 → s.a = 0 ∧ s.b = 0
  over : s.kind = 2 ∨ s.kind = 9 → s.purl = false
  few : s.kind = 3 ∨ s.kind = 4 ∨ s.kind = 5 → 2 ≤ s.a ∧ s.a ≤ 4 ∧ s.b = 0
  cable : s.kind = 6 ∨ s.kind = 7 → 1 ≤ s.a ∧ s.a ≤ 6 ∧ 1 ≤ s.b ∧ s.b ≤ 6
  many : s.kind = 9 ∨ s.kind = 10 → 1 ≤ s.a ∧ s.a ≤ 200 ∧ s.b = 0
  uses : usesS s = if s.kind = 2 ∨ s.kind = 9 then 0 else if s.kind = 3 ∨ s.kind = 4 ∨ s.kind = 10 then s.a else if s.kind = 6 ∨ s.kind = 7 then s.a + s.b else 1
  makes : makesS s = if s.kind = 10 then 0 else if s.kind = 5 ∨ s.kind = 9 then s.a else if s.kind = 6 ∨ s.kind = 7 then s.a + s.b else 1
theorem stc_k {s : Stc} (h : s.ok = true) : StcK s := by
  unfold Stc.ok at h
  simp only [Bool.and_eq_true, decide_eq_true_eq] at h
  obtain ⟨⟨k1, k2⟩, ⟨a1, a2⟩, ⟨b1, b2⟩, hp⟩ := h
  obtain ⟨kind, purl, a, b⟩ := s
  simp only at k1 k2 a1 a2 b1 b2 hp
  have hu : usesS ⟨kind, purl, a, b⟩ = loopsI ⟨kind, purl, a, b⟩ (formI kind).uses := rfl
  have hm : makesS ⟨kind, purl, a, b⟩ = loopsI ⟨kind, purl, a, b⟩ (formI kind).made := rfl
  rcases (by omega : kind = 1 ∨ kind = 2 ∨ kind = 3 ∨ kind = 4 ∨ kind = 5 ∨ kind = 6 ∨ kind = 7 ∨ kind = 8 ∨ kind = 9 ∨ kind = 10) with rfl | rfl | rfl | rfl | rfl | rfl | rfl | rfl | rfl | rfl
  all_goals
    refine ⟨k1, k2, fun h => ?_, fun h => ?_, fun h => ?_, fun h => ?_, fun h => ?_, ?_, ?_⟩
  all_goals first
    | (simp at h; done)
    | (rw [hu]; rfl)
    | (rw [hm]; rfl)
    | (cases purl; rfl; exact absurd hp (by decide))
    | (simp [formI, formT] at a1 a2 b1 b2 ⊢; omega)
    | (rw [hu]; simp [formI, formT, loopsI])
    | (rw [hm]; simp [formI, formT, loopsI])
theorem StcK.nat {s : Stc} (h : StcK s) : 0 ≤ s.a ∧ s.a ≤ 200 ∧ 0 ≤ s.b ∧ s.b ≤ 6 ∧ 0 ≤ usesS s ∧ usesS s ≤ 200 ∧ 0 ≤ makesS s ∧ makesS s ≤ 200 := by
  obtain ⟨h1, h2, h3, -, h5, h6, h7, h8, h9⟩ := h
  rw [h8, h9]
  rcases (by omega : s.kind = 1 ∨ s.kind = 2 ∨ s.kind = 3 ∨ s.kind = 4 ∨ s.kind = 5 ∨ s.kind = 6 ∨ s.kind = 7 ∨ s.kind = 8 ∨ s.kind = 9 ∨ s.kind = 10) with e | e | e | e | e | e | e | e | e | e <;> rw [e] at h3 h5 h6 h7 ⊢ <;> simp at h3 h5 h6 h7 ⊢ <;> omega
theorem newsL_len {s : Stc} (h : StcK s) (row k : Int) (at_ : Nat) (lp : List Lp) : ((newsL row k s (usedN at_ (usesS s).toNat) lp).length : Int) = makesS s := by
  have hn := h.nat
  obtain ⟨h1, h2, h3, -, h5, h6, h7, h8, h9⟩ := h
  unfold newsL
  rw [h9]
  rcases (by omega : s.kind = 1 ∨ s.kind = 2 ∨ s.kind = 3 ∨ s.kind = 4 ∨ s.kind = 5 ∨ s.kind = 6 ∨ s.kind = 7 ∨ s.kind = 8 ∨ s.kind = 9 ∨ s.kind = 10) with e | e | e | e | e | e | e | e | e | e <;> rw [e] at h8 ⊢ <;> simp at h8 ⊢
  · omega
  · rw [h8, usedN_len]; omega
  · rw [h8, usedN_len]; omega
  · omega
theorem rowRun_next {row : Int} {l : List Stc} {t : Pw} {k : Nat} {s : Stc} (h : l[k]? = some s) : rowRun row l t (k + 1) = stepC row (k : Int) s (rowRun row l t k) := by
  show stepC row (k : Int) (l.getD k _) _ = _
  rw [List.getD_eq_getElem?_getD, h]; rfl
theorem rowRun_len {row : Int} {l : List Stc} (hl : ∀ s ∈ l, StcK s) (t : Pw) : ∀ k, k ≤ l.length →
    ((rowRun row l t k).next : Int) = t.next + sumU (l.take k) ∧ ((rowRun row l t k).lp.length : Int) = t.lp.length + sumM (l.take k) ∧ (rowRun row l t k).rows = t.rows
  | 0, _ => by
    refine ⟨?_, ?_, rfl⟩ <;> simp [rowRun, sumU, sumM]
  | k + 1, hk => by
    obtain ⟨h1, h2, h3⟩ := rowRun_len hl t k (by omega)
    have hx : l[k]? = some l[k] := List.getElem?_eq_getElem (by omega)
    have hc := hl _ (List.getElem_mem (show k < l.length by omega))
    have hn := hc.nat
    rw [rowRun_next hx]
    unfold stepC sumU sumM
    rw [sum_take hx, sum_take hx]
    unfold sumU at h1
    unfold sumM at h2
    refine ⟨by simp only; omega, ?_, h3⟩
    simp only
    rw [List.length_append]
    have := newsL_len hc row (k : Int) (rowRun row l t k).next (rowRun row l t k).lp
    omega
theorem sumU_le {l : List Stc} (hl : ∀ s ∈ l, StcK s) {k : Nat} {s : Stc} (h : l[k]? = some s) : sumU (l.take k) + usesS s ≤ sumU l ∧ 0 ≤ sumU (l.take k) := by
  have hk := (List.getElem?_eq_some_iff.1 h).1
  have h0 : ∀ (m : List Stc), (∀ s ∈ m, StcK s) → 0 ≤ sumU m := fun m hm => by
    unfold sumU
    induction m with
    | nil => simp
    | cons x m ih =>
      rw [List.map_cons, List.sum_cons]
      have := (hm x List.mem_cons_self).nat
      have := ih fun y hy => hm y (List.mem_cons_of_mem _ hy)
      omega
  have e : sumU l = sumU (l.take (k + 1)) + sumU (l.drop (k + 1)) := by
    unfold sumU
    rw [← List.sum_append, ← List.map_append, List.take_append_drop]
  have e2 : sumU (l.take (k + 1)) = sumU (l.take k) + usesS s := by unfold sumU; rw [sum_take h]
  have h1 := h0 (l.drop (k + 1)) fun x hx => hl x (List.mem_of_mem_drop hx)
  have h2 := h0 (l.take k) fun x hx => hl x (List.mem_of_mem_take hx)
  omega
end Go.Proofs.YtbnddpknejgmhaaGreat
