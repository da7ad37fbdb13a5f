/- Layer 34, plain: between two instructions of a pass that are not OpMiss there are at most as many needles as the limit says; floats are bound as often as told. -/
import Derived.Test.YthedmiilkeclaaaGreatKRf
import Derived.Test.YthedmiilkeclaaaGreatKMiP
namespace Go.Proofs.YthedmiilkeclaaaGreat
open Go.RowKit
open Go.Proofs.YthedmiilkeclaaaGreat.I34
set_option maxRecDepth 100000

/-! ### what the law's loop does -/
def rsB (prev : Option Ins) (i : Ins) : Bool := match prev with
  | none => false
  | some q => decide (q.op = 1) || (decide (q.car ≠ i.car) || decide (q.right ≠ i.right))
def lastR (prev : Option Ins) (last : Int) (i : Ins) : Int := if rsB prev i then -1 else last
/-- An instruction, behind the reset. -/
def gStep (lim : Nat) (s : Nat × Int) (i : Ins) : Option (Nat × Int) :=
  if i.op = 5 then some s
  else if i.op = 4 ∧ s.2 < 0 then none
  else if 0 ≤ s.2 ∧ (lim : Int) + 1 < max (i.at_ - s.2) (s.2 - i.at_) then none
  else some (s.1 + (if i.op = 4 then 1 else 0), i.at_)
def fsStep (lim : Nat) (prev : Option Ins) (s : Nat × Int) (i : Ins) : Option (Nat × Int) :=
  if i.op = 1 then some s else gStep lim (s.1, lastR prev s.2 i) i
def fsRun (lim : Nat) : Option Ins → Nat × Int → List Ins → Option (Nat × Int)
  | _, s, [] => some s
  | prev, s, i :: l => match fsStep lim prev s i with
    | none => none
    | some t => fsRun lim (some i) t l
def gRun (lim : Nat) : Nat × Int → List Ins → Option (Nat × Int)
  | s, [] => some s
  | s, i :: l => match gStep lim s i with
    | none => none
    | some t => gRun lim t l
def lastI (prev : Option Ins) (l : List Ins) : Option Ins := match l.getLast? with
  | none => prev
  | some q => some q
theorem lastI_cons (prev : Option Ins) (i : Ins) (l : List Ins) : lastI prev (i :: l) = lastI (some i) l := by
  unfold lastI
  cases l with
  | nil => rfl
  | cons a t => rw [List.getLast?_cons_cons]; cases h : (a :: t).getLast? with
    | none => simp at h
    | some q => rfl
theorem fsRun_app (lim : Nat) : ∀ (a b : List Ins) (prev : Option Ins) (s : Nat × Int), fsRun lim prev s (a ++ b) = match fsRun lim prev s a with
    | none => none
    | some t => fsRun lim (lastI prev a) t b
  | [], b, prev, s => rfl
  | i :: a, b, prev, s => by
    rw [List.cons_append, lastI_cons]
    show (match fsStep lim prev s i with | none => none | some t => fsRun lim (some i) t (a ++ b)) = match (match fsStep lim prev s i with | none => none | some t => fsRun lim (some i) t a) with | none => none | some t => fsRun lim (lastI (some i) a) t b
    cases fsStep lim prev s i with
    | none => rfl
    | some t => exact fsRun_app lim a b (some i) t
theorem gRun_app (lim : Nat) : ∀ (a b : List Ins) (s : Nat × Int), gRun lim s (a ++ b) = match gRun lim s a with
    | none => none
    | some t => gRun lim t b
  | [], b, s => rfl
  | i :: a, b, s => by
    show (match gStep lim s i with | none => none | some t => gRun lim t (a ++ b)) = match (match gStep lim s i with | none => none | some t => gRun lim t a) with | none => none | some t => gRun lim t b
    cases gStep lim s i with
    | none => rfl
    | some t => exact gRun_app lim a b t
theorem fsRun_part {lim : Nat} {l : List Ins} {r : Nat × Int} (h : fsRun lim none (0, -1) l = some r) (n : Nat) : ∃ s, fsRun lim none (0, -1) (l.take n) = some s := by
  have e := fsRun_app lim (l.take n) (l.drop n) none (0, -1)
  rw [List.take_append_drop, h] at e
  cases hs : fsRun lim none (0, -1) (l.take n) with
  | none => rw [hs] at e; cases e
  | some s => exact ⟨s, rfl⟩
/-- The instructions of a pass are of one carrier and one direction. -/
structure OneP (c : Int) (right : Bool) (l : List Ins) : Prop where
  car : ∀ i ∈ l, i.car = c
  right : ∀ i ∈ l, i.right = right
  op : ∀ i ∈ l, i.op ≠ 1
theorem fs_g {lim : Nat} {c : Int} {right : Bool} : ∀ {l : List Ins} {q : Ins} {s : Nat × Int}, OneP c right l → q.op ≠ 1 → q.car = c → q.right = right → fsRun lim (some q) s l = gRun lim s l
  | [], _, _, _, _, _, _ => rfl
  | i :: l, q, s, h, h1, h2, h3 => by
    have hi := List.mem_cons_self (a := i) (l := l)
    have e : fsStep lim (some q) s i = gStep lim s i := by
      unfold fsStep lastR rsB
      rw [if_neg (h.op i hi)]
      simp only [h1, h2, h3, h.car i hi, h.right i hi, decide_false, ne_eq, not_true_eq_false, Bool.or_self, Bool.false_eq_true, if_false]
    show (match fsStep lim (some q) s i with | none => none | some t => fsRun lim (some i) t l) = match gStep lim s i with | none => none | some t => gRun lim t l
    rw [e]
    cases gStep lim s i with
    | none => rfl
    | some t => exact fs_g ⟨fun x hx => h.car x (List.mem_cons_of_mem _ hx), fun x hx => h.right x (List.mem_cons_of_mem _ hx), fun x hx => h.op x (List.mem_cons_of_mem _ hx)⟩ (h.op i hi) (h.car i hi) (h.right i hi)
theorem fs_pass {lim : Nat} {c : Int} {right : Bool} {l : List Ins} {prev : Option Ins} {s : Nat × Int} (h : OneP c right l) (hr : ∀ i, i.car = c → i.right = right → i.op ≠ 1 → lastR prev s.2 i = -1) (hn : l ≠ []) : fsRun lim prev s l = gRun lim (s.1, -1) l := by
  cases l with
  | nil => exact absurd rfl hn
  | cons i l =>
    have hi := List.mem_cons_self (a := i) (l := l)
    have e : fsStep lim prev s i = gStep lim (s.1, -1) i := by
      unfold fsStep
      rw [if_neg (h.op i hi), hr i (h.car i hi) (h.right i hi) (h.op i hi)]
    show (match fsStep lim prev s i with | none => none | some t => fsRun lim (some i) t l) = match gStep lim (s.1, -1) i with | none => none | some t => gRun lim t l
    rw [e]
    cases gStep lim (s.1, -1) i with
    | none => rfl
    | some t => exact fs_g ⟨fun x hx => h.car x (List.mem_cons_of_mem _ hx), fun x hx => h.right x (List.mem_cons_of_mem _ hx), fun x hx => h.op x (List.mem_cons_of_mem _ hx)⟩ (h.op i hi) (h.car i hi) (h.right i hi)

/-! ### one pass -/
section
variable (row : List Int) (c : Int) (m : Nat) (right : Bool)
def T (k : Nat) : Bool := tuckB (flo row c) m right k
def NM (k : Nat) : Bool := T row c m right k || decide (row.getD k 0 = c)
end
theorem flo_ends (row : List Int) (c : Int) : ∀ K, (∀ f ∈ (floTo row c K).1, row.getD f.1 0 = c ∧ row.getD f.2 0 = c ∧ f.1 + 1 < f.2 ∧ f.2 < K) ∧ (∀ l, (floTo row c K).2 = some l → row.getD l 0 = c ∧ l < K)
  | 0 => ⟨fun f hf => by simp [floTo] at hf, fun l h => by simp [floTo] at h⟩
  | K + 1 => by
    obtain ⟨h1, h2⟩ := flo_ends row c K
    simp only [floTo, floStep]
    by_cases e : row.getD K 0 = c
    · simp only [e, if_true]
      refine ⟨fun f hf => ?_, fun l hl => ?_⟩
      · cases hs : (floTo row c K).2 with
        | none =>
          rw [hs] at hf
          obtain ⟨a, b, d, g⟩ := h1 f hf
          exact ⟨a, b, d, by omega⟩
        | some l =>
          rw [hs] at hf
          simp only at hf
          split at hf
          · rename_i hlt
            rcases List.mem_append.1 hf with hf | hf
            · obtain ⟨a, b, d, g⟩ := h1 f hf
              exact ⟨a, b, d, by omega⟩
            · rw [List.mem_singleton.1 hf]
              exact ⟨(h2 l hs).1, e, hlt, by show K < K + 1; omega⟩
          · obtain ⟨a, b, d, g⟩ := h1 f hf
            exact ⟨a, b, d, by omega⟩
      · have hl' : K = l := by simpa using hl
        subst hl'
        exact ⟨e, by omega⟩
    · simp only [e, if_false]
      refine ⟨fun f hf => ?_, fun l hl => ?_⟩
      · obtain ⟨a, b, d, g⟩ := h1 f hf
        exact ⟨a, b, d, by omega⟩
      · obtain ⟨a, b⟩ := h2 l hl
        exact ⟨a, by omega⟩
/-- Two cells of a colour with none between them, not side by side, are a float. -/
theorem flo_has {row : List Int} {c : Int} {a b : Nat} (hab : a + 1 < b) (ha : row.getD a 0 = c) (hb : row.getD b 0 = c) (hn : ∀ k, a < k → k < b → row.getD k 0 ≠ c) : ∀ K, b < K → (a, b) ∈ (floTo row c K).1
  | 0, h => by omega
  | K + 1, h => by
    by_cases e : b = K
    · subst e
      have hl : ∀ j, j ≤ b → a < j → (floTo row c j).2 = some a := by
        intro j
        induction j with
        | zero => intro _ h; omega
        | succ j ih =>
          intro h1 h2
          simp only [floTo, floStep]
          by_cases ej : j = a
          · subst ej; rw [if_pos ha]
          · rw [if_neg (hn j (by omega) (by omega))]
            exact ih (by omega) (by omega)
      simp only [floTo, floStep]
      rw [if_pos hb, hl b (Nat.le_refl _) (by omega)]
      simp only
      rw [if_pos hab]
      exact List.mem_append.2 (Or.inr (List.mem_singleton.2 rfl))
    · have ih := flo_has hab ha hb hn K (by omega)
      simp only [floTo, floStep]
      split
      · split
        · split
          · exact List.mem_append.2 (Or.inl ih)
          · exact ih
        · exact ih
      · exact ih
theorem gap_any {row : List Int} {c : Int} {m : Nat} {right : Bool} (hm : 0 < m) {a b : Nat} (hab : a < b) (hb : b < row.length) (ha : NM row c m right a = true) (hbn : NM row c m right b = true) (hn : ∀ k, a < k → k < b → NM row c m right k = false) : b - a ≤ m := by
  apply Nat.le_of_not_lt
  intro hlt
  have nm_c : ∀ k, row.getD k 0 = c → NM row c m right k = true := fun k h => by unfold NM; rw [decide_eq_true h, Bool.or_true]
  have nm_t : ∀ k f, f ∈ flo row c → hitB m right k f = true → NM row c m right k = true := fun k f hf hh => by
    unfold NM T tuckB
    rw [List.any_eq_true.2 ⟨f, hf, hh⟩, Bool.true_or]
  have nc : ∀ k, a < k → k < b → row.getD k 0 ≠ c := fun k h1 h2 e => by have := hn k h1 h2; rw [nm_c k e] at this; cases this
  have hend := (flo_ends row c row.length).1
  have hgap := (flo_gap row c row.length).1
  -- the float that goes over what lies between
  have key : ∃ f ∈ flo row c, f.1 ≤ a ∧ b ≤ f.2 ∧ (f.1 = a ∨ hitB m right a f = true) ∧ (f.2 = b ∨ hitB m right b f = true) := by
    have ofT : ∀ k, T row c m right k = true → ∃ f ∈ flo row c, hitB m right k f = true := fun k h => List.any_eq_true.1 h
    by_cases hac : row.getD a 0 = c
    · by_cases hbc : row.getD b 0 = c
      · exact ⟨(a, b), flo_has (by omega) hac hbc nc _ hb, Nat.le_refl _, Nat.le_refl _, Or.inl rfl, Or.inl rfl⟩
      · have hT : T row c m right b = true := by
          unfold NM at hbn
          rw [decide_eq_false hbc, Bool.or_false] at hbn; exact hbn
        obtain ⟨f, hf, hh⟩ := ofT b hT
        obtain ⟨-, -, h3, h4⟩ := hitB_pos hh
        obtain ⟨e1, e2, -, -⟩ := hend f hf
        have h5 : f.1 ≤ a := by
          apply Nat.le_of_not_lt
          intro h
          exact nc f.1 h (by omega) e1
        have h6 : f.1 = a := by
          apply Nat.le_antisymm h5
          apply Nat.le_of_not_lt
          intro h
          exact (hgap f hf).2 a h (by omega) hac
        exact ⟨f, hf, h5, by omega, Or.inl h6, Or.inr hh⟩
    · have hT : T row c m right a = true := by
        unfold NM at ha
        rw [decide_eq_false hac, Bool.or_false] at ha; exact ha
      obtain ⟨f, hf, hh⟩ := ofT a hT
      obtain ⟨-, -, h3, h4⟩ := hitB_pos hh
      obtain ⟨e1, e2, -, -⟩ := hend f hf
      have h5 : b ≤ f.2 := by
        apply Nat.le_of_not_lt
        intro h
        exact nc f.2 h4 h e2
      by_cases h6 : f.2 = b
      · exact ⟨f, hf, by omega, h5, Or.inr hh, Or.inl h6⟩
      · have hbc : row.getD b 0 ≠ c := (hgap f hf).2 b (by omega) (by omega)
        have hT2 : T row c m right b = true := by
          unfold NM at hbn
          rw [decide_eq_false hbc, Bool.or_false] at hbn; exact hbn
        obtain ⟨g, hg, hh2⟩ := ofT b hT2
        obtain ⟨-, -, g3, g4⟩ := hitB_pos hh2
        obtain ⟨d1, d2, -, -⟩ := hend g hg
        have e3 : g.1 = f.1 := by
          rcases Nat.lt_trichotomy g.1 f.1 with h | h | h
          · exact absurd e1 ((hgap g hg).2 f.1 h (by omega))
          · exact h
          · exact absurd d1 ((hgap f hf).2 g.1 h (by omega))
        have e4 : g.2 = f.2 := by
          rcases Nat.lt_trichotomy g.2 f.2 with h | h | h
          · exact absurd d2 ((hgap f hf).2 g.2 (by omega) h)
          · exact h
          · exact absurd e2 ((hgap g hg).2 f.2 (by omega) h)
        have e5 : g = f := Prod.ext e3 e4
        rw [e5] at hh2
        exact ⟨f, hf, by omega, h5, Or.inr hh, Or.inr hh2⟩
  obtain ⟨f, hf, hfa, hfb, h1, h2⟩ := key
  have big : ∀ k, a < k → k < b → hitB m right k f = true → False := fun k g1 g2 hh => by
    have := hn k g1 g2
    rw [nm_t k f hf hh] at this; cases this
  cases right with
  | true =>
    refine big (a + m) (by omega) (by omega) ?_
    have hd : (a + m - f.1) % m = 0 := by
      rcases h1 with h1 | h1
      · rw [h1, Nat.add_sub_cancel_left, Nat.mod_self]
      · obtain ⟨-, h3, h4, -⟩ := hitB_pos h1
        unfold distF at h3
        rw [if_pos rfl] at h3
        rw [show a + m - f.1 = (a - f.1) + m by omega, Nat.add_mod_right]; exact h3
    unfold hitB distF
    rw [decide_eq_true (show f.1 < a + m by omega), decide_eq_true (show a + m < f.2 by omega), if_pos rfl, decide_eq_true hd]; rfl
  | false =>
    refine big (b - m) (by omega) (by omega) ?_
    have hd : (f.2 - (b - m)) % m = 0 := by
      rcases h2 with h2 | h2
      · rw [h2, show b - (b - m) = m by omega, Nat.mod_self]
      · obtain ⟨-, h3, -, h4⟩ := hitB_pos h2
        unfold distF at h3
        rw [if_neg (by decide)] at h3
        rw [show f.2 - (b - m) = (f.2 - b) + m by omega, Nat.add_mod_right]; exact h3
    unfold hitB distF
    rw [decide_eq_true (show f.1 < b - m by omega), decide_eq_true (show b - m < f.2 by omega), if_neg (by decide), decide_eq_true hd]; rfl
/-- The index of the last one that is not missed, in the order of the pass. -/
def lastJ (N : Nat → Bool) : Nat → Option Nat
  | 0 => none
  | K + 1 => if N K then some K else lastJ N K
theorem lastJ_some {N : Nat → Bool} : ∀ {K j : Nat}, lastJ N K = some j → j < K ∧ N j = true ∧ ∀ i, j < i → i < K → N i = false
  | 0, j, h => by cases h
  | K + 1, j, h => by
    unfold lastJ at h
    split at h
    · rename_i hN
      cases h
      exact ⟨by omega, hN, fun i h1 h2 => by omega⟩
    · rename_i hN
      obtain ⟨h1, h2, h3⟩ := lastJ_some h
      refine ⟨by omega, h2, fun i h4 h5 => ?_⟩
      by_cases e : i = K
      · subst e; simpa using hN
      · exact h3 i h4 (by omega)
theorem lastJ_none {N : Nat → Bool} : ∀ {K : Nat}, lastJ N K = none → ∀ i, i < K → N i = false
  | 0, _, i, h => by omega
  | K + 1, h, i, hi => by
    unfold lastJ at h
    split at h
    · cases h
    · rename_i hN
      by_cases e : i = K
      · subst e; simpa using hN
      · exact lastJ_none h i (by omega)
def lastP (pos : Nat → Nat) : Option Nat → Int
  | none => -1
  | some j => (pos j : Int)
theorem gRun_pass {row : List Int} {c : Int} {m lim : Nat} {right : Bool} (hm : m = lim + 1) (pos : Nat → Nat) (n : Nat)
    (hgap : ∀ j K, j < K → K < n → NM row c m right (pos j) = true → NM row c m right (pos K) = true → (∀ i, j < i → i < K → NM row c m right (pos i) = false) → pos K ≤ pos j + m ∧ pos j ≤ pos K + m)
    (htk : ∀ K, K < n → T row c m right (pos K) = true → ∃ j, j < K ∧ NM row c m right (pos j) = true) (t0 : Nat) :
    ∀ K, K ≤ n → gRun lim (t0, -1) ((List.range K).map fun j => insQ row c right (T row c m right) (pos j)) = some (t0 + cnt K (fun j => T row c m right (pos j)), lastP pos (lastJ (fun j => NM row c m right (pos j)) K))
  | 0, _ => rfl
  | K + 1, hK => by
    have ih := gRun_pass hm pos n hgap htk t0 K (by omega)
    rw [List.range_succ, List.map_append, gRun_app, ih]
    simp only [List.map_cons, List.map_nil]
    have hst : ∀ (s : Nat × Int) (i : Ins), gRun lim s [i] = gStep lim s i := fun s i => by
      show (match gStep lim s i with | none => none | some t => some t) = _
      cases gStep lim s i <;> rfl
    rw [hst, cnt_succ]
    have hop : (insQ row c right (T row c m right) (pos K)).op = if T row c m right (pos K) then 4 else if row.getD (pos K) 0 = c then 3 else 5 := rfl
    have hat : (insQ row c right (T row c m right) (pos K)).at_ = (pos K : Int) := rfl
    have hlj : lastJ (fun j => NM row c m right (pos j)) (K + 1) = if NM row c m right (pos K) then some K else lastJ (fun j => NM row c m right (pos j)) K := rfl
    have hfar : NM row c m right (pos K) = true → ¬ (0 ≤ lastP pos (lastJ (fun j => NM row c m right (pos j)) K) ∧ (lim : Int) + 1 < max ((pos K : Int) - lastP pos (lastJ (fun j => NM row c m right (pos j)) K)) (lastP pos (lastJ (fun j => NM row c m right (pos j)) K) - (pos K : Int))) := fun hnm => by
      cases hl : lastJ (fun j => NM row c m right (pos j)) K with
      | none => intro h; exact absurd h.1 (by show ¬ ((0 : Int) ≤ -1); omega)
      | some j =>
        obtain ⟨h1, h2, h3⟩ := lastJ_some hl
        have := hgap j K h1 (by omega) h2 hnm h3
        intro h
        have h' : (0 : Int) ≤ (pos j : Int) ∧ (lim : Int) + 1 < max ((pos K : Int) - (pos j : Int)) ((pos j : Int) - (pos K : Int)) := h
        omega
    unfold gStep
    rw [hop, hat, hlj]
    by_cases hT : T row c m right (pos K) = true
    · have hnm : NM row c m right (pos K) = true := by unfold NM; rw [hT]; rfl
      obtain ⟨j, hj, hj2⟩ := htk K (by omega) hT
      have hpos : ¬ lastP pos (lastJ (fun j => NM row c m right (pos j)) K) < 0 := by
        cases hl : lastJ (fun j => NM row c m right (pos j)) K with
        | none => have h9 : NM row c m right (pos j) = false := lastJ_none hl j hj; rw [hj2] at h9; cases h9
        | some i => show ¬ ((pos i : Int) < 0); omega
      rw [if_pos hT, if_neg (by decide), if_neg (fun h => hpos h.2), if_neg (hfar hnm), if_pos rfl, if_pos hT, if_pos hnm]
      rfl
    · have hT' : T row c m right (pos K) = false := by simpa using hT
      rw [if_neg hT, if_neg hT]
      by_cases hc : row.getD (pos K) 0 = c
      · have hnm : NM row c m right (pos K) = true := by unfold NM; rw [decide_eq_true hc, Bool.or_true]
        rw [if_pos hc, if_neg (by decide), if_neg (fun h => absurd h.1 (by decide)), if_neg (hfar hnm), if_neg (by decide), if_pos hnm]
        rfl
      · have hnm : ¬ NM row c m right (pos K) = true := by unfold NM; rw [hT', decide_eq_false hc]; decide
        rw [if_neg hc, if_pos rfl, if_neg hnm]
        rfl
end Go.Proofs.YthedmiilkeclaaaGreat
