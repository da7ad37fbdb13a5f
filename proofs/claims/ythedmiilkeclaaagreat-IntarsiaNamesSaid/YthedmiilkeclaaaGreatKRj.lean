/- Layer 34, plain: the program of a picture as the reference puts it together. Layer 34, plain: the pictures of IntarsiaNames. Layer 34, plain: the program of nineteen wide rows of one colour runs. -/
import Derived.Test.YthedmiilkeclaaaGreatKRf
import Derived.Test.YthedmiilkeclaaaGreatKRh
namespace Go.Proofs.YthedmiilkeclaaaGreat
open Go.RowKit
open Go.Proofs.YthedmiilkeclaaaGreat.I34
set_option maxRecDepth 100000

/-- Is a needle bound by the float in which it lies? -/
def bndQ (fl : List (Nat × Nat)) (m k : Nat) (right : Bool) : Bool :=
  match fl.find? fun f => decide (f.1 < k) && decide (k < f.2) with
  | some f => decide (distF right f k % m = 0)
  | none => false
def insR (row : List Int) (c : Int) (lim : Nat) (right : Bool) (k : Nat) : Ins :=
  ⟨if row.getD k 0 = c then 3 else if bndQ (flo row c) (lim + 1) k right then 4 else 5, right, 0, k, 0, c, 0⟩
def atR (n : Nat) (right : Bool) (k : Nat) : Nat := if right then k else n - 1 - k
def passR (row : List Int) (c : Int) (lim : Nat) (right : Bool) : List Ins := (List.range row.length).map fun n => insR row c lim right (atR row.length right n)
def colR (p : List (List Int)) (lim t c : Nat) : List Ins := ((sixC.take c).filter ((p.getD t []).contains ·)).flatMap fun x => passR (p.getD t []) x lim (!oddB (p.take t) x)
def bodyR (p : List (List Int)) (lim t : Nat) : List Ins := (List.range t).flatMap fun i => colR p lim i 6
/-- What is there when the rows before t are done, and c colours of this one. -/
def outR (p : List (List Int)) (lim t c : Nat) : List Ins := insK p 6 ++ (bodyR p lim t ++ colR p lim t c)
theorem colR_zero (p : List (List Int)) (lim t : Nat) : colR p lim t 0 = [] := rfl
theorem outR_zero (p : List (List Int)) (lim : Nat) : outR p lim 0 0 = insK p 6 := by simp [outR, bodyR, colR_zero]
theorem outR_row (p : List (List Int)) (lim t : Nat) : outR p lim (t + 1) 0 = outR p lim t 6 := by
  unfold outR bodyR
  rw [List.range_succ, List.flatMap_append, colR_zero]
  simp
theorem outR_next {p : List (List Int)} {lim t c : Nat} {row : List Int} (hc : c < 6) (hr : p[t]? = some row) :
    outR p lim t (c + 1) = outR p lim t c ++ if row.contains ((c : Int) + 1) then passR row ((c : Int) + 1) lim (!oddB (p.take t) ((c : Int) + 1)) else [] := by
  have hg : sixC[c]? = some ((c : Int) + 1) := by
    rcases (by omega : c = 0 ∨ c = 1 ∨ c = 2 ∨ c = 3 ∨ c = 4 ∨ c = 5) with rfl | rfl | rfl | rfl | rfl | rfl <;> rfl
  have hd : p.getD t [] = row := by rw [List.getD_eq_getElem?_getD, hr]; rfl
  unfold outR colR
  rw [List.take_add_one, hg, hd]
  simp only [Option.toList_some, List.filter_append, List.flatMap_append, List.append_assoc]
  congr 3
  cases h : row.contains ((c : Int) + 1) with
  | true => rw [List.filter_cons_of_pos h]; simp
  | false => rw [List.filter_cons_of_neg (by rw [h]; simp)]; rfl
theorem passR_len (row : List Int) (c : Int) (lim : Nat) (right : Bool) : (passR row c lim right).length = row.length := by simp [passR]
theorem passR_get {row : List Int} {c : Int} {lim : Nat} {right : Bool} {n : Nat} (h : n < row.length) : (passR row c lim right)[n]? = some (insR row c lim right (atR row.length right n)) := by
  unfold passR
  rw [List.getElem?_map, List.getElem?_range h]; rfl
theorem passR_step {row : List Int} {c : Int} {lim : Nat} {right : Bool} {n : Nat} (O : List Ins) (h : n < row.length) :
    O ++ (passR row c lim right).take (n + 1) = (O ++ (passR row c lim right).take n) ++ [insR row c lim right (atR row.length right n)] := by
  rw [List.take_add_one, passR_get h, List.append_assoc]; rfl
theorem flat_has (p : List (List Int)) (c : Int) : p.flatten.contains c = p.any (·.contains c) := by
  induction p with
  | nil => rfl
  | cons r p ih => rw [List.flatten_cons, List.any_cons, ← ih, List.contains_eq_any_beq, List.any_append, List.contains_eq_any_beq, List.contains_eq_any_beq]
theorem any_next {p : List (List Int)} {i : Nat} {row : List Int} (h : p[i]? = some row) (c : Int) : (p.take (i + 1)).any (·.contains c) = ((p.take i).any (·.contains c) || row.contains c) := by
  rw [List.take_add_one, h, List.any_append]; simp
/-- The ways of the colours when c colours of the row t are done. -/
def leftR (p : List (List Int)) (t c k : Nat) : Bool := if k ≤ c then oddB (p.take (t + 1)) k else oddB (p.take t) k
theorem leftR_start (p : List (List Int)) {k : Nat} (h : 1 ≤ k) : leftR p 0 0 k = false := by
  unfold leftR
  rw [if_neg (by omega)]
  simp [oddB]
theorem leftR_row (p : List (List Int)) (t : Nat) {k : Nat} (h : 1 ≤ k) (h6 : k ≤ 6) : leftR p (t + 1) 0 k = leftR p t 6 k := by
  unfold leftR
  rw [if_neg (by omega), if_pos h6]
theorem oddB_next {p : List (List Int)} {t : Nat} {row : List Int} (hr : p[t]? = some row) (c : Int) : oddB (p.take (t + 1)) c = if row.contains c then !oddB (p.take t) c else oddB (p.take t) c := by
  unfold oddB
  rw [List.take_add_one, hr]
  simp only [Option.toList_some, List.countP_append]
  cases h : row.contains c with
  | true =>
    rw [List.countP_cons_of_pos (by simpa using h)]
    simp only [List.countP_nil, if_true]
    rw [Bool.eq_iff_iff]
    simp
    omega
  | false =>
    rw [List.countP_cons_of_neg (by rw [h]; simp)]
    simp
theorem leftR_next {p : List (List Int)} {t c : Nat} {row : List Int} (hr : p[t]? = some row) (k : Nat) : leftR p t (c + 1) k = if k = c + 1 ∧ row.contains ((c : Int) + 1) then !leftR p t c (c + 1) else leftR p t c k := by
  unfold leftR
  have e2 : (((c + 1 : Nat)) : Int) = (c : Int) + 1 := by omega
  have h1 : ¬ (c + 1 ≤ c) := by omega
  by_cases e : k = c + 1
  · subst e
    simp only [Nat.le_refl, if_true, h1, if_false, true_and, e2]
    exact oddB_next hr _
  · have h2 : (k ≤ c + 1) = (k ≤ c) := propext ⟨fun h => by omega, fun h => by omega⟩
    have h3 : ¬ (k = c + 1 ∧ row.contains ((c : Int) + 1) = true) := fun h => e h.1
    simp only [h2, h3, if_false]
theorem leftR_here (p : List (List Int)) (t c : Nat) : leftR p t c (c + 1) = oddB (p.take t) ((c : Int) + 1) := by
  unfold leftR
  have e2 : (((c + 1 : Nat)) : Int) = (c : Int) + 1 := by omega
  have h1 : ¬ (c + 1 ≤ c) := by omega
  simp only [h1, if_false, e2]
end Go.Proofs.YthedmiilkeclaaaGreat
namespace Go.Proofs.YthedmiilkeclaaaGreat
open Go.RowKit
open Go.Proofs.YthedmiilkeclaaaGreat.I34
set_option maxRecDepth 1000000

def rowN : List Int := [6, 1, 6, 2, 6, 3, 6, 4, 6, 5, 6, 1, 2, 3, 4, 5]
def wideN : List Int := List.replicate 101 1
theorem plan_five : (planE [rowN, rowN, rowN, rowN] 1).2 = 0 := by decide +kernel
theorem wide_len : (progI (List.replicate 19 wideN) 1).length = 1920 := by decide +kernel
theorem wide_many : (planE (List.replicate 20 wideN) 1).2 = 4 := by decide +kernel
end Go.Proofs.YthedmiilkeclaaaGreat
namespace Go.Proofs.YthedmiilkeclaaaGreat
open Go.RowKit
open Go.Proofs.YthedmiilkeclaaaGreat.I34
set_option maxRecDepth 1000000

/-- Instructions that knit with carrier 1 on the front, each on the right side of the one before. -/
def simR : Bool → Int → List Ins → Bool
  | _, _, [] => true
  | fr, pl, i :: l => decide (i.op = 3) && decide (i.bed = 0) && decide (i.car = 1) && i.good && (fr || decide (0 < wayI i * (2 * i.at_ - pl))) && simR false (2 * i.at_ + wayI i) l
def simTop : List Ins → Bool
  | [] => false
  | i :: l => decide (i.op = 1) && decide (i.car = 1) && i.good && simR true 0 l
theorem runN_go {s : BedS} {i : Ins} (k : Nat) (l : List Ins) (h1 : i.err = 0) (h2 : (doI s i).2 = 0) : runI s k (i :: l) = runI (doI s i).1 (k + 1) l := by
  show (if i.err ≠ 0 then (bed0, (k : Int), i.err) else if (doI s i).2 ≠ 0 then (bed0, (k : Int), (doI s i).2) else runI (doI s i).1 (k + 1) l) = _
  rw [if_neg (by simpa using h1), if_neg (by simpa using h2)]
theorem feed_one (fr : Bool) (pl v : Int) : setF (keyF 1) [⟨1, false, v⟩] [(⟨1, fr, pl⟩ : Fd)] = [⟨1, false, v⟩] := by
  unfold setF
  rw [loF_none (fun x hx => by rw [List.mem_singleton.1 hx]; show (0 : Int) ≤ 1 - 1; omega), hiF_none (fun x hx => by rw [List.mem_singleton.1 hx]; show (1 : Int) - 1 ≤ 0; omega)]
  rfl
theorem sim_do {s : BedS} {i : Ins} {fr : Bool} {pl : Int} (hr : s.rack = 0) (hf : s.feeds = [⟨1, fr, pl⟩]) (hm : s.made.length ≤ 3999) (h3 : i.op = 3) (hb : i.bed = 0) (hc : i.car = 1)
    (hw : fr = true ∨ 0 < wayI i * (2 * i.at_ - pl)) :
    (doI s i).2 = 0 ∧ (doI s i).1.rack = 0 ∧ (doI s i).1.feeds = [⟨1, false, 2 * i.at_ + wayI i⟩] ∧ (doI s i).1.made.length = s.made.length + 1 := by
  have hcol : colI s.rack i.bed i.at_ = i.at_ := by unfold colI; rw [hr, hb]; omega
  have hp : passS s i = some { s with feeds := [⟨1, false, 2 * i.at_ + wayI i⟩] } := by
    unfold passS
    have hfa : feedAt s.feeds i.car = some ⟨1, fr, pl⟩ := by rw [hf, hc]; rfl
    rw [hfa]
    simp only
    rw [hcol, if_neg (by
      rintro ⟨h1, h2⟩
      rcases hw with h | h
      · rw [h1] at h; cases h
      · omega), hc, hf, feed_one]
  have hd : doI s i = yarnS s i := by
    unfold doI
    rw [if_neg (by omega), if_neg (by omega), if_neg (by omega), if_neg (by omega), if_neg (by omega)]
  rw [hd]
  unfold yarnS
  rw [hp]
  simp only
  rw [if_neg (by omega), if_neg (by omega), if_neg (by omega)]
  unfold knitS takeS
  rw [if_neg (by simp only; omega)]
  refine ⟨rfl, hr, rfl, ?_⟩
  simp [loopS]
theorem sim_run : ∀ (l : List Ins) (s : BedS) (k : Nat) (fr : Bool) (pl : Int), s.rack = 0 → s.feeds = [⟨1, fr, pl⟩] → s.made.length + l.length ≤ 3999 → simR fr pl l = true → (runI s k l).2.2 = 0
  | [], _, _, _, _, _, _, _, _ => rfl
  | i :: l, s, k, fr, pl, hr, hf, hm, h => by
    simp only [simR, Bool.and_eq_true, Bool.or_eq_true, decide_eq_true_eq] at h
    obtain ⟨⟨⟨⟨⟨h1, h2⟩, h3⟩, h4⟩, h5⟩, h6⟩ := h
    have hl : (i :: l).length = l.length + 1 := rfl
    obtain ⟨g1, g2, g3, g4⟩ := sim_do hr hf (by omega) h1 h2 h3 h5
    rw [runN_go k l (by unfold Ins.err; rw [if_pos h4]) g1]
    exact sim_run l _ _ false _ g2 g3 (by omega) h6
theorem sim_top {l : List Ins} (h : simTop l = true) (hl : l.length ≤ 2000) : (runS bed0 l).2.2 = 0 := by
  cases l with
  | nil => cases h
  | cons i l =>
    simp only [simTop, Bool.and_eq_true, decide_eq_true_eq] at h
    obtain ⟨⟨⟨h1, h2⟩, h3⟩, h4⟩ := h
    unfold runS
    rw [if_neg (show ¬ bedE bed0 ≠ 0 by decide), if_neg (by omega)]
    have hd : doI bed0 i = (⟨0, [], [⟨1, true, 0⟩], []⟩, 0) := by
      unfold doI
      rw [if_pos h1, h2]; rfl
    rw [runN_go 0 l (by unfold Ins.err; rw [if_pos h3]) (by rw [hd])]
    refine sim_run l _ _ true 0 ?_ ?_ ?_ h4
    · rw [hd]
    · rw [hd]
    · rw [hd]; simp only [List.length_cons] at hl; simp only [List.length_nil]; omega
theorem wide_sim : simTop (progI (List.replicate 19 wideN) 1) = true := by decide +kernel
theorem wide_run : (runS bed0 (progI (List.replicate 19 wideN) 1)).2.2 = 0 := sim_top wide_sim (by rw [wide_len]; omega)
theorem wide_chk : chkL (List.replicate 19 wideN) 1 = 0 := by decide +kernel
theorem wide_plan : planE (List.replicate 19 wideN) 1 = (progI (List.replicate 19 wideN) 1, 0) := by
  unfold planE
  have h1 : (1 : Int).toNat = 1 := rfl
  rw [h1, wide_chk, wide_len, wide_run]
  rfl
end Go.Proofs.YthedmiilkeclaaaGreat
