/- Layer 32, plain: a shift, its order as both texts find it. Layer 32, plain: the order step by step; the plan; what the needles hold. Layer 32, plain: what the order holds; the plan. -/
import Derived.Test.YtflpikickbellaaKBase
import Derived.Test.YtflpikickbellaaKG1
namespace Go.Proofs.Ytflpikickbellaa
open Go.RowKit
set_option maxRecDepth 100000

structure Sft where
  to_ : List Int
  first : List (Int × Int)
abbrev Sft.n (s : Sft) : Nat := s.to_.length
/-- How far a loop is moved. -/
def offN (s : Sft) (i : Nat) : Int := s.to_.getD i 0 - i
def movedN (s : Sft) (i : Nat) : Bool := decide (offN s i ≠ 0) || s.first.any fun p => decide (p.2 = (i : Int))
/-- Has a loop not come yet? -/
def waitN (s : Sft) (come : Nat → Bool) (i : Nat) : Bool := movedN s i && !come i
/-- Does a pair keep a stop from coming next? -/
def holdsS (s : Sft) (come : Nat → Bool) (stop : Int) (p : Int × Int) : Bool := decide (offN s p.2.toNat = stop) && (decide (offN s p.1.toNat ≠ stop) && waitN s come p.1.toNat)
def readyN (s : Sft) (come : Nat → Bool) (stop : Int) : Bool := !(s.first.any (holdsS s come stop))
def holdsI (s : Sft) (come : Nat → Bool) (stop : Int) (i : Nat) (p : Int × Int) : Bool := decide (p.2 = (i : Int)) && (decide (offN s p.1.toNat = stop) && waitN s come p.1.toNat)
def freeN (s : Sft) (come : Nat → Bool) (stop : Int) (i : Nat) : Bool := !(s.first.any (holdsI s come stop i))
def atN (s : Sft) (come : Nat → Bool) (stop : Int) (i : Nat) : Bool := decide (offN s i = stop) && waitN s come i
/-- Does a stop have loops that wait? -/
def hasN (s : Sft) (come : Nat → Bool) (stop : Int) : Bool := (List.range s.n).any (atN s come stop)
/-- The stops from -8 to 8. -/
def stops17 : List Int := (List.range 17).map fun k : Nat => (k : Int) - 8
def stopsN (s : Sft) (come : Nat → Bool) : List Int := stops17.filter (hasN s come)
def nextN (s : Sft) (come : Nat → Bool) : Option Int := stops17.find? fun t => hasN s come t && readyN s come t
def pickN (s : Sft) (come : Nat → Bool) (stop : Int) : Option Nat := (List.range s.n).find? fun i => atN s come stop i && freeN s come stop i
def putN (come : Nat → Bool) (i : Nat) : Nat → Bool := fun j => come j || decide (j = i)
/-- One stop, loop by loop; none: no loop may come next. -/
def innerN (s : Sft) (stop : Int) : Nat → (Nat → Bool) → List Int → Option ((Nat → Bool) × List Int)
  | 0, come, out => some (come, out)
  | f + 1, come, out =>
    if hasN s come stop then
      match pickN s come stop with
      | none => none
      | some i => innerN s stop f (putN come i) (out ++ [(i : Int)])
    else some (come, out)
/-- Stop by stop. -/
def outerN (s : Sft) : Nat → (Nat → Bool) → List Int → Option (List Int)
  | 0, _, out => some out
  | f + 1, come, out =>
    if stopsN s come = [] then some out
    else match nextN s come with
      | none => none
      | some stop => match innerN s stop s.n come out with
        | none => none
        | some r => outerN s f r.1 r.2
/-- What Check answers. -/
def badT (t : Int) (i : Nat) : Bool := decide (t < 0) || decide (100 < t) || decide (8 < max (t - i) (i - t))
def ltP (p q : Int × Int) : Bool := decide (p.1 < q.1) || (decide (p.1 = q.1) && decide (p.2 < q.2))
def badF (s : Sft) (i : Nat) (p : Int × Int) : Bool :=
  decide (min p.1 p.2 < 0) || decide ((s.n : Int) ≤ max p.1 p.2) || decide (p.1 = p.2) || (decide (0 < i) && !(ltP (s.first.getD (i - 1) (0, 0)) p))
def sftE (s : Sft) : Int :=
  if 40 < s.n then 4
  else if (List.range s.n).any (fun i => badT (s.to_.getD i 0) i) then 8
  else if (List.range s.first.length).any (fun i => badF s i (s.first.getD i (0, 0))) then 8
  else 0
def ordE (s : Sft) : List Int × Int :=
  if sftE s ≠ 0 then ([], sftE s)
  else match outerN s s.n (fun _ => false) [] with
    | none => ([], 6)
    | some l => (l, 0)
/-- How many loops wait. -/
def leftN (s : Sft) (come : Nat → Bool) : Nat := (List.range s.n).countP (waitN s come)

/-! What a good shift has. -/
structure SftOk (s : Sft) : Prop where
  len : s.n ≤ 40
  to_ : ∀ i, i < s.n → 0 ≤ s.to_.getD i 0 ∧ s.to_.getD i 0 ≤ 100 ∧ -8 ≤ offN s i ∧ offN s i ≤ 8
  first : ∀ p ∈ s.first, 0 ≤ p.1 ∧ p.1 < s.n ∧ 0 ≤ p.2 ∧ p.2 < s.n ∧ p.1 ≠ p.2
theorem sftE_ok {s : Sft} (h : sftE s = 0) : SftOk s := by
  unfold sftE at h
  split at h
  · cases h
  rename_i h1
  split at h
  · cases h
  rename_i h2
  split at h
  · cases h
  rename_i h3
  refine ⟨by omega, fun i hi => ?_, fun p hp => ?_⟩
  · rw [Bool.not_eq_true, List.any_eq_false] at h2
    have := h2 i (List.mem_range.2 hi)
    unfold badT at this
    simp only [Bool.or_eq_true, decide_eq_true_eq, not_or] at this
    unfold offN
    omega
  · rw [Bool.not_eq_true, List.any_eq_false] at h3
    obtain ⟨j, hj⟩ := List.mem_iff_getElem?.1 hp
    have hjl := (List.getElem?_eq_some_iff.1 hj).1
    have := h3 j (List.mem_range.2 hjl)
    rw [List.getD_eq_getElem?_getD, hj, Option.getD_some] at this
    unfold badF at this
    simp only [Bool.or_eq_true, decide_eq_true_eq, not_or] at this
    omega
theorem mem_stops {t : Int} : t ∈ stops17 ↔ -8 ≤ t ∧ t ≤ 8 := by
  unfold stops17
  rw [List.mem_map]
  constructor
  · rintro ⟨k, hk, rfl⟩
    have := List.mem_range.1 hk
    omega
  · intro h
    exact ⟨(t + 8).toNat, List.mem_range.2 (by omega), by omega⟩
theorem hasN_iff {s : Sft} {come : Nat → Bool} {t : Int} : hasN s come t = true ↔ ∃ i, i < s.n ∧ offN s i = t ∧ waitN s come i = true := by
  unfold hasN atN
  rw [List.any_eq_true]
  constructor
  · rintro ⟨i, hi, h⟩
    rw [Bool.and_eq_true, decide_eq_true_eq] at h
    exact ⟨i, List.mem_range.1 hi, h.1, h.2⟩
  · rintro ⟨i, hi, h1, h2⟩
    exact ⟨i, List.mem_range.2 hi, by rw [Bool.and_eq_true, decide_eq_true_eq]; exact ⟨h1, h2⟩⟩
theorem leftN_zero {s : Sft} (hs : SftOk s) {come : Nat → Bool} : leftN s come = 0 ↔ stopsN s come = [] := by
  unfold leftN stopsN
  rw [List.countP_eq_zero, List.filter_eq_nil_iff]
  constructor
  · intro h t _ ht
    obtain ⟨i, hi, -, hw⟩ := hasN_iff.1 ht
    exact h i (List.mem_range.2 hi) hw
  · intro h i hi hw
    have hi := List.mem_range.1 hi
    have := hs.to_ i hi
    exact h (offN s i) (mem_stops.2 this.2.2) (hasN_iff.2 ⟨i, hi, rfl, hw⟩)
theorem pickN_some {s : Sft} {come : Nat → Bool} {t : Int} {i : Nat} (h : pickN s come t = some i) : i < s.n ∧ offN s i = t ∧ waitN s come i = true ∧ freeN s come t i = true := by
  unfold pickN at h
  have h1 := List.find?_some h
  have h2 := List.mem_range.1 (List.mem_of_find?_eq_some h)
  simp only [atN, Bool.and_eq_true, decide_eq_true_eq] at h1
  exact ⟨h2, h1.1.1, h1.1.2, h1.2⟩
theorem waitN_put {s : Sft} {come : Nat → Bool} {i j : Nat} : waitN s (putN come i) j = (waitN s come j && !decide (j = i)) := by
  unfold waitN putN
  rw [Bool.not_or, Bool.and_assoc]
theorem leftN_put {s : Sft} {come : Nat → Bool} {i : Nat} (hi : i < s.n) (hw : waitN s come i = true) : leftN s (putN come i) + 1 = leftN s come := by
  unfold leftN
  have h1 : ∀ n, i < n → (List.range n).countP (waitN s (putN come i)) + 1 = (List.range n).countP (waitN s come) := by
    intro n
    induction n with
    | zero => intro h; omega
    | succ n ih =>
      intro h
      rw [List.range_succ, List.countP_append, List.countP_append]
      by_cases e : i = n
      · subst e
        have h2 : (List.range i).countP (waitN s (putN come i)) = (List.range i).countP (waitN s come) := by
          apply List.countP_congr
          intro j hj
          have := List.mem_range.1 hj
          rw [waitN_put, decide_eq_false (show ¬ j = i by omega)]
          simp
        have h3 : [i].countP (waitN s (putN come i)) = 0 := by
          rw [List.countP_eq_zero]
          intro j hj
          rw [List.mem_singleton.1 hj, waitN_put]
          simp
        have h4 : [i].countP (waitN s come) = 1 := by
          rw [List.countP_cons_of_pos hw]; rfl
        omega
      · have h2 := ih (by omega)
        have h3 : [n].countP (waitN s (putN come i)) = [n].countP (waitN s come) := by
          apply List.countP_congr
          intro j hj
          rw [List.mem_singleton.1 hj, waitN_put, decide_eq_false (show ¬ n = i by omega)]
          simp
        omega
  exact h1 s.n hi
end Go.Proofs.Ytflpikickbellaa
namespace Go.Proofs.Ytflpikickbellaa
open Go.RowKit
set_option maxRecDepth 100000

theorem leftN_le (s : Sft) (come : Nat → Bool) : leftN s come ≤ s.n := by
  unfold leftN
  have := List.countP_le_length (p := waitN s come) (l := List.range s.n)
  rwa [List.length_range] at this
theorem left_pos {s : Sft} {come : Nat → Bool} {t : Int} (h : hasN s come t = true) : 0 < leftN s come := by
  obtain ⟨i, hi, -, hw⟩ := hasN_iff.1 h
  unfold leftN
  exact List.countP_pos_iff.2 ⟨i, List.mem_range.2 hi, hw⟩
theorem inner_end {s : Sft} {t : Int} {f : Nat} {come : Nat → Bool} {out : List Int} (h : hasN s come t = false) : innerN s t f come out = some (come, out) := by
  cases f with
  | zero => rfl
  | succ f => unfold innerN; rw [h]; rfl
theorem inner_go {s : Sft} {t : Int} {f : Nat} {come : Nat → Bool} {out : List Int} {i : Nat} (h : hasN s come t = true) (hp : pickN s come t = some i) :
    innerN s t (f + 1) come out = innerN s t f (putN come i) (out ++ [(i : Int)]) := by
  show (if hasN s come t then _ else _) = _
  rw [if_pos h, hp]
theorem inner_none {s : Sft} {t : Int} {f : Nat} {come : Nat → Bool} {out : List Int} (h : hasN s come t = true) (hp : pickN s come t = none) : innerN s t (f + 1) come out = none := by
  show (if hasN s come t then _ else _) = _
  rw [if_pos h, hp]
/-- A run of a stop under way, with fuel enough, that ends as R. -/
def InnR (s : Sft) (t : Int) (R : Option ((Nat → Bool) × List Int)) (come : Nat → Bool) (out : List Int) : Prop := ∃ f, leftN s come ≤ f ∧ innerN s t f come out = R
theorem InnR.new (s : Sft) (t : Int) (come : Nat → Bool) (out : List Int) : InnR s t (innerN s t s.n come out) come out := ⟨s.n, leftN_le s come, rfl⟩
theorem InnR.end_ {s : Sft} {t : Int} {R : Option ((Nat → Bool) × List Int)} {come : Nat → Bool} {out : List Int} (h : InnR s t R come out) (he : hasN s come t = false) : R = some (come, out) := by
  obtain ⟨f, -, h2⟩ := h
  rw [← h2, inner_end he]
theorem InnR.none {s : Sft} {t : Int} {R : Option ((Nat → Bool) × List Int)} {come : Nat → Bool} {out : List Int} (h : InnR s t R come out) (hh : hasN s come t = true) (hp : pickN s come t = none) : R = none := by
  obtain ⟨f, h1, h2⟩ := h
  have := left_pos hh
  obtain ⟨g, rfl⟩ : ∃ g, f = g + 1 := ⟨f - 1, by omega⟩
  rw [← h2, inner_none hh hp]
theorem InnR.go {s : Sft} {t : Int} {R : Option ((Nat → Bool) × List Int)} {come : Nat → Bool} {out : List Int} {i : Nat} (h : InnR s t R come out) (hh : hasN s come t = true) (hp : pickN s come t = some i) :
    InnR s t R (putN come i) (out ++ [(i : Int)]) := by
  obtain ⟨f, h1, h2⟩ := h
  obtain ⟨p1, -, p3, -⟩ := pickN_some hp
  have := leftN_put p1 p3
  obtain ⟨g, rfl⟩ : ∃ g, f = g + 1 := ⟨f - 1, by omega⟩
  rw [inner_go hh hp] at h2
  exact ⟨g, by omega, h2⟩
/-- A run of all stops under way. -/
def OutR (s : Sft) (R : Option (List Int)) (come : Nat → Bool) (out : List Int) : Prop := ∃ f, leftN s come ≤ f ∧ outerN s f come out = R
theorem OutR.new (s : Sft) (come : Nat → Bool) (out : List Int) : OutR s (outerN s s.n come out) come out := ⟨s.n, leftN_le s come, rfl⟩
theorem outer_end {s : Sft} {f : Nat} {come : Nat → Bool} {out : List Int} (h : stopsN s come = []) : outerN s f come out = some out := by
  cases f with
  | zero => rfl
  | succ f => show (if stopsN s come = [] then _ else _) = _; rw [if_pos h]
theorem OutR.end_ {s : Sft} {R : Option (List Int)} {come : Nat → Bool} {out : List Int} (h : OutR s R come out) (he : stopsN s come = []) : R = some out := by
  obtain ⟨f, -, h2⟩ := h
  rw [← h2, outer_end he]
theorem stops_pos {s : Sft} {come : Nat → Bool} (h : stopsN s come ≠ []) : ∃ t, hasN s come t = true := by
  obtain ⟨t, ht⟩ := List.exists_mem_of_ne_nil _ h
  exact ⟨t, (List.mem_filter.1 ht).2⟩
theorem OutR.none {s : Sft} {R : Option (List Int)} {come : Nat → Bool} {out : List Int} (h : OutR s R come out) (hh : stopsN s come ≠ []) (hp : nextN s come = none) : R = none := by
  obtain ⟨f, h1, h2⟩ := h
  obtain ⟨t, ht⟩ := stops_pos hh
  have := left_pos ht
  obtain ⟨g, rfl⟩ : ∃ g, f = g + 1 := ⟨f - 1, by omega⟩
  rw [← h2]
  show (if stopsN s come = [] then _ else _) = _
  rw [if_neg hh, hp]
theorem nextN_some {s : Sft} {come : Nat → Bool} {t : Int} (h : nextN s come = some t) : hasN s come t = true ∧ readyN s come t = true ∧ -8 ≤ t ∧ t ≤ 8 := by
  unfold nextN at h
  have h1 := List.find?_some h
  rw [Bool.and_eq_true] at h1
  have h2 := mem_stops.1 (List.mem_of_find?_eq_some h)
  exact ⟨h1.1, h1.2, h2.1, h2.2⟩
/-- The stop's run, and what comes of it. -/
theorem OutR.go {s : Sft} {R : Option (List Int)} {come : Nat → Bool} {out : List Int} {t : Int} (h : OutR s R come out) (hp : nextN s come = some t) :
    (innerN s t s.n come out = Option.none → R = Option.none) ∧ ∀ come' out', innerN s t s.n come out = some (come', out') → leftN s come' < leftN s come → OutR s R come' out' := by
  obtain ⟨f, h1, h2⟩ := h
  have hh := (nextN_some hp).1
  have hne : stopsN s come ≠ [] := fun e => by
    have : t ∈ stopsN s come := List.mem_filter.2 ⟨List.mem_of_find?_eq_some hp, hh⟩
    rw [e] at this; cases this
  have := left_pos hh
  obtain ⟨g, rfl⟩ : ∃ g, f = g + 1 := ⟨f - 1, by omega⟩
  have e : outerN s (g + 1) come out = match innerN s t s.n come out with | .none => .none | some r => outerN s g r.1 r.2 := by
    show (if stopsN s come = [] then _ else _) = _
    rw [if_neg hne, hp]
    try rfl
  rw [e] at h2
  constructor
  · intro hi
    rw [hi] at h2
    exact h2.symm
  · intro come' out' hi hl
    rw [hi] at h2
    exact ⟨g, by omega, h2⟩
/-! The plan. -/
def stackB (s : Sft) : Bool := s.to_.any fun t => decide (6 < s.to_.countP (fun u => decide (u = t)))
/-- What planned answers. -/
def plndE (s : Sft) : List Int × Int :=
  if (ordE s).2 ≠ 0 then ([], (ordE s).2) else if stackB s then ([], 4) else ordE s
def movedL (s : Sft) : List Nat := (List.range s.n).filter (movedN s)
end Go.Proofs.Ytflpikickbellaa
namespace Go.Proofs.Ytflpikickbellaa
open Go.RowKit
set_option maxRecDepth 100000

def okL (s : Sft) (l : List Int) : Prop := ∀ x ∈ l, ∃ i : Nat, x = (i : Int) ∧ i < s.n
theorem okL_app {s : Sft} {l : List Int} {i : Nat} (h : okL s l) (hi : i < s.n) : okL s (l ++ [(i : Int)]) := fun x hx => by
  rcases List.mem_append.1 hx with h1 | h1
  · exact h x h1
  · exact ⟨i, List.mem_singleton.1 h1, hi⟩
theorem inner_ok {s : Sft} {t : Int} : ∀ (f : Nat) (come : Nat → Bool) (out : List Int) (come' : Nat → Bool) (out' : List Int), okL s out → innerN s t f come out = some (come', out') → okL s out' ∧ out'.length + leftN s come' = out.length + leftN s come
  | 0, come, out, come', out', h, he => by
    cases he
    exact ⟨h, rfl⟩
  | f + 1, come, out, come', out', h, he => by
    cases hh : hasN s come t with
    | false =>
      rw [inner_end hh] at he
      cases he
      exact ⟨h, rfl⟩
    | true =>
      cases hp : pickN s come t with
      | none => rw [inner_none hh hp] at he; cases he
      | some i =>
        rw [inner_go hh hp] at he
        obtain ⟨p1, -, p3, -⟩ := pickN_some hp
        have h1 := leftN_put p1 p3
        obtain ⟨h2, h3⟩ := inner_ok f _ _ _ _ (okL_app h p1) he
        refine ⟨h2, ?_⟩
        rw [List.length_append, List.length_singleton] at h3
        omega
theorem outer_ok {s : Sft} : ∀ (f : Nat) (come : Nat → Bool) (out l : List Int), okL s out → outerN s f come out = some l → okL s l ∧ l.length ≤ out.length + leftN s come
  | 0, come, out, l, h, he => by
    cases he
    exact ⟨h, Nat.le_add_right _ _⟩
  | f + 1, come, out, l, h, he => by
    by_cases hs : stopsN s come = []
    · rw [outer_end hs] at he
      cases he
      exact ⟨h, Nat.le_add_right _ _⟩
    · cases hp : nextN s come with
      | none =>
        have e : outerN s (f + 1) come out = none := by
          show (if stopsN s come = [] then _ else _) = _
          rw [if_neg hs, hp]
        rw [e] at he; cases he
      | some t =>
        have e : outerN s (f + 1) come out = match innerN s t s.n come out with | .none => .none | some r => outerN s f r.1 r.2 := by
          show (if stopsN s come = [] then _ else _) = _
          rw [if_neg hs, hp]
          try rfl
        rw [e] at he
        cases hi : innerN s t s.n come out with
        | none => rw [hi] at he; cases he
        | some r =>
          rw [hi] at he
          obtain ⟨h1, h2⟩ := inner_ok s.n come out r.1 r.2 h hi
          obtain ⟨h3, h4⟩ := outer_ok f r.1 r.2 l h1 he
          exact ⟨h3, by omega⟩
theorem ordE_ok (s : Sft) : okL s (ordE s).1 ∧ (ordE s).1.length ≤ s.n := by
  have h0 : okL s [] := fun x hx => by cases hx
  unfold ordE
  split
  · exact ⟨h0, Nat.zero_le _⟩
  · split
    · exact ⟨h0, Nat.zero_le _⟩
    · rename_i l he
      obtain ⟨h1, h2⟩ := outer_ok s.n _ [] l h0 he
      have := leftN_le s fun _ => false
      exact ⟨h1, by show l.length ≤ s.n; simp only [List.length_nil] at h2; omega⟩
theorem plndE_l {s : Sft} (h : (plndE s).2 = 0) : (plndE s).1 = (ordE s).1 ∧ sftE s = 0 := by
  unfold plndE at h ⊢
  split at h
  · rename_i h1; exact absurd h h1
  · rename_i h1
    have h1' : (ordE s).2 = 0 := by simpa using h1
    have h0 : sftE s = 0 := by
      by_cases e : sftE s = 0
      · exact e
      · have : ordE s = ([], sftE s) := by unfold ordE; rw [if_pos e]
        rw [this] at h1'; exact absurd h1' e
    split at h
    · cases h
    · rename_i h2
      rw [if_neg h1, if_neg h2]
      exact ⟨rfl, h0⟩
/-! The plan. -/
def xferF (i : Nat) : Ins := ⟨7, false, 0, i, i, 0, 0⟩
def xferB (i : Nat) (t : Int) : Ins := ⟨7, false, 1, i, t, 0, 0⟩
def rackI (r : Int) : Ins := ⟨8, false, 0, 0, 0, 0, r⟩
def turnI (now o : Int) : List Ins := if o = now then [] else [rackI o]
def stepP (s : Sft) (st : Int × List Ins) (x : Int) : Int × List Ins := (offN s x.toNat, st.2 ++ (turnI st.1 (offN s x.toNat) ++ [xferB x.toNat (s.to_.getD x.toNat 0)]))
def frontP (s : Sft) (i : Nat) : List Ins := ((List.range i).filter (movedN s)).map xferF
/-- What is there behind k loops of the order. -/
def runP (s : Sft) (l : List Int) (k : Nat) : Int × List Ins := (l.take k).foldl (stepP s) (0, frontP s s.n)
def plnI (s : Sft) (l : List Int) : List Ins := (runP s l l.length).2 ++ turnI (runP s l l.length).1 0
/-- What Plan answers. -/
def plE (s : Sft) : List Ins × Int := if (plndE s).2 ≠ 0 then ([], (plndE s).2) else (plnI s (plndE s).1, 0)
theorem frontP_next (s : Sft) (i : Nat) : frontP s (i + 1) = frontP s i ++ if movedN s i then [xferF i] else [] := by
  unfold frontP
  rw [List.range_succ, List.filter_append, List.map_append]
  congr 1
  cases h : movedN s i with
  | true => rw [List.filter_cons_of_pos h]; rfl
  | false => rw [List.filter_cons_of_neg (by rw [h]; simp)]; rfl
theorem frontP_len (s : Sft) (i : Nat) : (frontP s i).length ≤ i := by
  unfold frontP
  rw [List.length_map]
  have := List.length_filter_le (movedN s) (List.range i)
  rwa [List.length_range] at this
theorem runP_zero (s : Sft) (l : List Int) : runP s l 0 = (0, frontP s s.n) := rfl
theorem runP_next {s : Sft} {l : List Int} {k i : Nat} (h : l[k]? = some (i : Int)) : runP s l (k + 1) = (offN s i, (runP s l k).2 ++ (turnI (runP s l k).1 (offN s i) ++ [xferB i (s.to_.getD i 0)])) := by
  unfold runP
  obtain ⟨hk, e⟩ := List.getElem?_eq_some_iff.1 h
  rw [List.take_succ_eq_append_getElem hk, e, List.foldl_append]
  rfl
theorem turnI_len (a b : Int) : (turnI a b).length ≤ 1 := by unfold turnI; split <;> simp
theorem runP_len {s : Sft} {l : List Int} (h : okL s l) : ∀ k, k ≤ l.length → (runP s l k).2.length ≤ s.n + 2 * k
  | 0, _ => by rw [runP_zero]; exact frontP_len s s.n
  | k + 1, hk => by
    have ih := runP_len h k (by omega)
    obtain ⟨i, hi, -⟩ := h l[k] (List.getElem_mem (by omega))
    rw [runP_next (i := i) (by rw [List.getElem?_eq_getElem (by omega), hi])]
    simp only [List.length_append, List.length_singleton]
    have := turnI_len (runP s l k).1 (offN s i)
    omega
end Go.Proofs.Ytflpikickbellaa
