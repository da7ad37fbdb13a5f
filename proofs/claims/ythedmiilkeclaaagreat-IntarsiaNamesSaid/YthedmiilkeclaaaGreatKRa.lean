/- The plain law of layer 34: checks of pictures, floats, and how many needles bind them. No program in sight. Layer 34, contracts: Great, Check (the program's and the reference's). Layer 34, contracts: slices.IndexFunc and ContainsFunc over numbers, at whatever function value that only computes; Check. Layer 34, contracts: Check of the program and of the reference. Layer 34, contracts: the reference's Check. -/
import Derived.Test.YthedmiilkeclaaaGreatKBase
namespace Go.Proofs.YthedmiilkeclaaaGreat.I34

/-- A row that is not valid beside a first row of n0 cells. -/
def rowBad (n0 : Nat) (row : List Int) : Bool :=
  decide (row.length = 0) || decide (101 < row.length) || decide (row.length ≠ n0) || row.any (fun c => decide (c < 1) || decide (6 < c))
def chk (p : List (List Int)) : Int :=
  if 100 < p.length then 4 else if p.any (rowBad (p.headD []).length) then 8 else 0

/-- The floats of a colour found in the first k cells, and the last cell of this colour. -/
def floStep (colour : Int) (s : List (Nat × Nat) × Option Nat) (k : Nat) (c : Int) : List (Nat × Nat) × Option Nat :=
  if c = colour then ((match s.2 with
    | some l => if l + 1 < k then s.1 ++ [(l, k)] else s.1
    | none => s.1), some k) else s
def floTo (row : List Int) (colour : Int) : Nat → List (Nat × Nat) × Option Nat
  | 0 => ([], none)
  | k + 1 => floStep colour (floTo row colour k) k (row.getD k 0)
def flo (row : List Int) (colour : Int) : List (Nat × Nat) := (floTo row colour row.length).1

def lenOf (f : Nat × Nat) : Nat := f.2 - f.1 - 1
def rowLens (row : List Int) (c : Nat) : List Nat := (flo row ((c : Int) + 1)).map lenOf
def lens (p : List (List Int)) : List Nat := p.flatMap fun row => (List.range 6).flatMap fun c => rowLens row c
def longest (p : List (List Int)) : Nat := (lens p).foldl max 0
def sumBind (limit : Nat) (p : List (List Int)) : Nat := ((lens p).map (· / (limit + 1))).sum

/-- The reference's question: is the needle bound by a float that goes over it? -/
def boundIn (l : List (Nat × Nat)) (m k : Nat) : Bool :=
  match l.find? (fun f => decide (f.1 < k) && decide (k < f.2)) with
  | some f => decide ((k - f.1) % m = 0)
  | none => false
def boundB (row : List Int) (c : Nat) (limit k : Nat) : Bool := boundIn (flo row ((c : Int) + 1)) (limit + 1) k
def cnt (N : Nat) (P : Nat → Bool) : Nat := ((List.range N).filter P).length
def rowBinds (row : List Int) (c limit : Nat) : Nat := cnt row.length (boundB row c limit)
def binds (limit : Nat) (p : List (List Int)) : Nat := (p.map fun row => ((List.range 6).map fun c => rowBinds row c limit).sum).sum

theorem cnt_zero (P : Nat → Bool) : cnt 0 P = 0 := rfl
theorem cnt_succ (N : Nat) (P : Nat → Bool) : cnt (N + 1) P = cnt N P + if P N then 1 else 0 := by
  unfold cnt
  rw [List.range_succ, List.filter_append, List.length_append]
  by_cases h : P N <;> simp [h]
theorem cnt_congr {N : Nat} {P Q : Nat → Bool} (h : ∀ k, k < N → P k = Q k) : cnt N P = cnt N Q := by
  induction N with
  | zero => rfl
  | succ n ih => rw [cnt_succ, cnt_succ, ih (fun k hk => h k (by omega)), h n (by omega)]
theorem cnt_false {N : Nat} {P : Nat → Bool} (h : ∀ k, k < N → P k = false) : cnt N P = 0 := by
  rw [cnt_congr (Q := fun _ => false) h]
  induction N with
  | zero => rfl
  | succ n ih => rw [cnt_succ, ih (fun k hk => h k (by omega))]; rfl

theorem div_succ_step (x m : Nat) (hm : 0 < m) : (x + 1) / m = x / m + if (x + 1) % m = 0 then 1 else 0 := by
  have h1 := Nat.div_add_mod x m
  have h2 := Nat.mod_lt x hm
  by_cases h : x % m + 1 = m
  · have e : x + 1 = m * (x / m + 1) := by rw [Nat.mul_add]; omega
    have e1 : (x + 1) / m = x / m + 1 := by rw [e]; exact Nat.mul_div_cancel_left _ hm
    have e2 : (x + 1) % m = 0 := by rw [e]; exact Nat.mul_mod_right _ _
    rw [e1, if_pos e2]
  · have e1 : (x + 1) / m = x / m := by
      have : x + 1 = m * (x / m) + (x % m + 1) := by omega
      have hlt : x % m + 1 < m := by omega
      rw [this, Nat.mul_add_div hm, Nat.div_eq_of_lt hlt, Nat.add_zero]
    have e2 : (x + 1) % m ≠ 0 := by
      have : x + 1 = m * (x / m) + (x % m + 1) := by omega
      have hlt : x % m + 1 < m := by omega
      rw [this, Nat.mul_add_mod, Nat.mod_eq_of_lt hlt]; omega
    rw [e1, if_neg e2]; rfl

/-- Below b, in a float that begins at a: as many as fit. -/
theorem cnt_upto (m a : Nat) (hm : 0 < m) : ∀ b, cnt b (fun k => decide (a < k) && decide ((k - a) % m = 0)) = (b - a - 1) / m := by
  intro b
  induction b with
  | zero => simp [cnt_zero]
  | succ b ih =>
    rw [cnt_succ, ih]
    by_cases hab : a < b
    · have e : b + 1 - a - 1 = (b - a - 1) + 1 := by omega
      rw [e, div_succ_step _ _ hm]
      have e2 : b - a - 1 + 1 = b - a := by omega
      rw [e2]
      by_cases h : (b - a) % m = 0 <;> simp [hab, h]
    · have e1 : b + 1 - a - 1 = 0 := by omega
      have e2 : b - a - 1 = 0 := by omega
      rw [e1, e2]; simp [hab]
theorem cnt_stop (P : Nat → Bool) (b : Nat) : ∀ N, b ≤ N → (∀ k, b ≤ k → k < N → P k = false) → cnt N P = cnt b P := by
  intro N
  induction N with
  | zero => intro h _; have : b = 0 := by omega
            subst this; rfl
  | succ n ih =>
    intro h hf
    by_cases e : b = n + 1
    · subst e; rfl
    · rw [cnt_succ, ih (by omega) (fun k h1 h2 => hf k h1 (by omega)), hf n (by omega) (by omega)]; simp

/-- Floats one after the other, the first one from a on, all ends below N. -/
def Row : Nat → Nat → List (Nat × Nat) → Prop
  | _, _, [] => True
  | a, N, f :: l => a ≤ f.1 ∧ f.1 + 1 < f.2 ∧ f.2 < N ∧ Row f.2 N l
theorem Row.mono {a a' N : Nat} : ∀ {l : List (Nat × Nat)}, Row a N l → a' ≤ a → Row a' N l
  | [], _, _ => trivial
  | _ :: _, ⟨h1, h2, h3, h4⟩, h => ⟨by omega, h2, h3, h4⟩
theorem Row.find_none {a N k : Nat} : ∀ {l : List (Nat × Nat)}, Row a N l → k ≤ a → l.find? (fun f => decide (f.1 < k) && decide (k < f.2)) = none
  | [], _, _ => rfl
  | f :: l, ⟨h1, h2, _, h4⟩, h => by
    rw [List.find?_cons]
    have : decide (f.1 < k) = false := by simp; omega
    rw [this, Bool.false_and]
    exact h4.find_none (by omega)
theorem cnt_row (m N : Nat) (hm : 0 < m) : ∀ (l : List (Nat × Nat)) (a : Nat), Row a N l → cnt N (boundIn l m) = (l.map fun f => lenOf f / m).sum
  | [], _, _ => by
    have h : cnt N (boundIn [] m) = 0 := cnt_false (fun _ _ => rfl)
    rw [h]; rfl
  | f :: l, a, ⟨h1, h2, h3, h4⟩ => by
    have ih := cnt_row m N hm l f.2 h4
    have key : ∀ M, f.2 ≤ M → M ≤ N → cnt M (boundIn (f :: l) m) = lenOf f / m + cnt M (boundIn l m) := by
      intro M
      induction M with
      | zero => intro h _; omega
      | succ n ihn =>
        intro hM hN
        by_cases e : f.2 = n + 1
        · have z : cnt (n + 1) (boundIn l m) = 0 := cnt_false fun k hk => by
            unfold boundIn; rw [h4.find_none (by omega)]
          have y : cnt (n + 1) (boundIn (f :: l) m) = cnt (n + 1) (fun k => decide (f.1 < k) && decide ((k - f.1) % m = 0)) := cnt_congr fun k hk => by
            unfold boundIn
            rw [List.find?_cons]
            by_cases hk1 : f.1 < k
            · have hk2 : k < f.2 := by omega
              simp [hk1, hk2]
            · have : decide (f.1 < k) = false := by simpa using hk1
              rw [this, Bool.false_and, Bool.false_and, h4.find_none (by omega)]
          rw [y, z, cnt_upto m f.1 hm]
          unfold lenOf; rw [e]; rfl
        · rw [cnt_succ, cnt_succ, ihn (by omega) (by omega)]
          have : boundIn (f :: l) m n = boundIn l m n := by
            unfold boundIn
            rw [List.find?_cons]
            have : decide (n < f.2) = false := by simp; omega
            rw [this, Bool.and_false]
          rw [this]; omega
    rw [key N (by omega) (Nat.le_refl _), ih]; rfl

/-- What has been found in the first k cells is such a row of floats. -/
theorem Row.snoc {N : Nat} {x y : Nat} (hxy : x + 1 < y) (hy : y < N) : ∀ {l : List (Nat × Nat)} {a : Nat}, Row a (x + 1) l → a ≤ x → Row a N (l ++ [(x, y)])
  | [], _, _, h => ⟨h, hxy, hy, trivial⟩
  | f :: l, _, ⟨h1, h2, h3, h4⟩, _ => ⟨h1, h2, by omega, Row.snoc hxy hy h4 (by omega)⟩
theorem Row.grow {N N' : Nat} (h : N ≤ N') : ∀ {l : List (Nat × Nat)} {a : Nat}, Row a N l → Row a N' l
  | [], _, _ => trivial
  | _ :: _, _, ⟨h1, h2, h3, h4⟩ => ⟨h1, h2, by omega, Row.grow h h4⟩
theorem floTo_row (row : List Int) (colour : Int) : ∀ k, (∀ l, (floTo row colour k).2 = some l → l < k ∧ Row 0 (l + 1) (floTo row colour k).1) ∧ ((floTo row colour k).2 = none → (floTo row colour k).1 = [])
  | 0 => ⟨fun l h => by simp [floTo] at h, fun _ => rfl⟩
  | k + 1 => by
    obtain ⟨h1, h2⟩ := floTo_row row colour k
    simp only [floTo, floStep]
    by_cases e : row.getD k 0 = colour
    · simp only [e, if_true]
      refine ⟨fun l hl => ?_, fun h => by cases h⟩
      have hl' : k = l := by simpa using hl
      subst hl'
      refine ⟨by omega, ?_⟩
      cases hs : (floTo row colour k).2 with
      | none => simp only; rw [h2 hs]; trivial
      | some l =>
        obtain ⟨hlk, hr⟩ := h1 l hs
        simp only
        by_cases hlt : l + 1 < k
        · rw [if_pos hlt]
          exact Row.snoc hlt (by omega) hr (by omega)
        · rw [if_neg hlt]; exact hr.grow (by omega)
    · simp only [e, if_false]
      exact ⟨fun l hl => ⟨by have := (h1 l hl).1; omega, (h1 l hl).2⟩, h2⟩
theorem flo_row (row : List Int) (colour : Int) : Row 0 row.length (flo row colour) := by
  obtain ⟨h1, h2⟩ := floTo_row row colour row.length
  unfold flo
  cases hs : (floTo row colour row.length).2 with
  | none => rw [h2 hs]; trivial
  | some l => obtain ⟨a, b⟩ := h1 l hs; exact b.grow (by omega)

theorem rowBinds_eq (row : List Int) (c limit : Nat) : rowBinds row c limit = ((rowLens row c).map (· / (limit + 1))).sum := by
  unfold rowBinds rowLens
  have := cnt_row (limit + 1) row.length (by omega) (flo row ((c : Int) + 1)) 0 (flo_row row _)
  rw [List.map_map]
  exact this
theorem sum_flatMap {α : Type} (f : α → List Nat) (g : Nat → Nat) : ∀ l : List α, ((l.flatMap f).map g).sum = (l.map fun x => ((f x).map g).sum).sum
  | [] => rfl
  | x :: l => by simp [List.flatMap_cons, sum_flatMap f g l]
/-- The two ways to count are one. -/
theorem binds_eq (limit : Nat) (p : List (List Int)) : binds limit p = sumBind limit p := by
  unfold binds sumBind lens
  rw [sum_flatMap]
  congr 1
  apply List.map_congr_left
  intro row _
  rw [sum_flatMap]
  congr 1
  apply List.map_congr_left
  intro c _
  exact rowBinds_eq row c limit
end Go.Proofs.YthedmiilkeclaaaGreat.I34
namespace Go.Proofs.YthedmiilkeclaaaGreat
open Go.RowKit
set_option maxRecDepth 100000

def rowG (n : Nat) : Bool := (decide (30 < n) && decide (n ≤ 101)) || decide (150 < n)
def greatPic (p : List (List Int)) : Bool := (p.take 150).any (fun r => rowG r.length) || ((decide (12 < p.length) && decide (p.length ≤ 100)) || decide (150 < p.length))

theorem greatPic_hit {p : List (List Int)} {k : Nat} {row : List Int} (hk : k < 150) (hr : p[k]? = some row) (hg : rowG row.length = true) : greatPic p = true := by
  unfold greatPic
  have : (p.take 150).any (fun r => rowG r.length) = true := by
    rw [List.any_eq_true]
    exact ⟨row, List.mem_iff_getElem?.2 ⟨k, by rw [List.getElem?_take, if_pos hk]; exact hr⟩, hg⟩
  rw [this]; rfl
theorem greatPic_none {p : List (List Int)} (h : ∀ j row, j < min p.length 150 → p[j]? = some row → rowG row.length = false) :
    greatPic p = ((decide (12 < p.length) && decide (p.length ≤ 100)) || decide (150 < p.length)) := by
  unfold greatPic
  have : (p.take 150).any (fun r => rowG r.length) = false := by
    rw [List.any_eq_false]
    intro r hr
    obtain ⟨j, hj⟩ := List.mem_iff_getElem?.1 hr
    rw [List.getElem?_take] at hj
    by_cases hlt : j < 150
    · rw [if_pos hlt] at hj
      have : j < p.length := (List.getElem?_eq_some_iff.1 hj).1
      simp [h j r (by omega) hj]
    · rw [if_neg hlt] at hj; cases hj
  rw [this]; rfl

set_option maxHeartbeats 1000000 in
theorem great_any (A : Option Addr) (c : Nat) (p : List (List Int)) (w : World) (h : SlRows w w.heap.size A p) :
    Calls Tryz.prog 14 #[.slice A p.length c] w fun e w' => e = .returned (.bool (greatPic p)) ∧ w = w' := by
  go_enter Tryz.func14, Tryz.ntmps14
  go_wp2
  go_loop [3] (fun i => ∃ k : Nat, k ≤ p.length ∧ k ≤ 150 ∧ i = .int .i64 k ∧ Hid (∀ j row, j < k → p[j]? = some row → rowG row.length = false)) (fun i => 150 - (intOf i).toNat)
  case atStart => exact ⟨0, Nat.zero_le _, Nat.zero_le _, rfl, fun j _ hj => absurd hj (Nat.not_lt_zero j)⟩
  case round =>
    obtain ⟨k, hk, hk2, rfl, H⟩ := hrel
    by_cases hlt : k < p.length ∧ k < 150
    · obtain ⟨hlt, h150⟩ := hlt
      obtain ⟨b, off, row, A', C', rfl, hB, hr, hc, hs⟩ := h.at_ hlt
      have HR : Hid (p[k]? = some row) := hr
      clear hr hs
      cases hg : rowG row.length with
      | true =>
        have HG : Hid (rowG row.length = true) := hg
        clear hg
        go_wp2
        all_goals try (exfalso; have := HG.out; simp [rowG] at this; omega)
        all_goals go_ret
        all_goals exact ⟨ret_bool (greatPic_hit h150 HR.out HG.out).symm, rfl⟩
      | false =>
        have HG : Hid (rowG row.length = false) := hg
        clear hg
        go_wp2
        all_goals try (exfalso; have := HG.out; simp [rowG] at this; omega)
        all_goals
          go_round
          case rel =>
            refine ⟨k + 1, by omega, by omega, by go_num, fun j r hj hr => ?_⟩
            by_cases e : j = k
            · subst e; rw [HR.out] at hr; injection hr with hr; subst hr; exact HG.out
            · exact H.out j r (by omega) hr
          case measure => simp [intOf]; omega
    · have hend := greatPic_none (p := p) (fun j row hj => H.out j row (by omega))
      have HE : Hid (greatPic p = ((decide (12 < p.length) && decide (p.length ≤ 100)) || decide (150 < p.length))) := hend
      clear hend H h
      go_wp2
      all_goals go_ret
      all_goals refine ⟨ret_bool ?_, rfl⟩
      all_goals rw [HE.out, Bool.eq_iff_iff]
      all_goals first | (simp; done) | (simp; omega)
end Go.Proofs.YthedmiilkeclaaaGreat
namespace Go.Proofs.YthedmiilkeclaaaGreat
open Go.RowKit
set_option maxRecDepth 100000

def idxBy (pr : Int → Bool) (zs : List Int) : Int := match zs.findIdx? pr with
  | some k => (k : Int)
  | none => -1
theorem idxBy_hit {pr : Int → Bool} {zs : List Int} {k : Nat} {z : Int} (hz : zs[k]? = some z) (h : pr z = true) (hb : ∀ j y, j < k → zs[j]? = some y → pr y = false) : idxBy pr zs = (k : Int) := by
  have : zs.findIdx? pr = some k := by
    rw [List.findIdx?_eq_some_iff_getElem]
    obtain ⟨hk, e⟩ := List.getElem?_eq_some_iff.1 hz
    exact ⟨hk, by rw [e]; exact h, fun j hj => by rw [hb j _ hj (List.getElem?_eq_getElem (by omega))]; simp⟩
  rw [idxBy, this]
theorem idxBy_none {pr : Int → Bool} {zs : List Int} (hb : ∀ j y, j < zs.length → zs[j]? = some y → pr y = false) : idxBy pr zs = -1 := by
  have : zs.findIdx? pr = none := by
    rw [List.findIdx?_eq_none_iff]
    intro x hx
    obtain ⟨j, hj⟩ := List.mem_iff_getElem?.1 hx
    exact hb j x (List.getElem?_eq_some_iff.1 hj).1 hj
  rw [idxBy, this]
theorem idxBy_any (pr : Int → Bool) (zs : List Int) : decide (0 ≤ idxBy pr zs) = zs.any pr := by
  unfold idxBy
  cases h : zs.findIdx? pr with
  | none =>
    rw [List.findIdx?_eq_none_iff] at h
    have : zs.any pr = false := by rw [List.any_eq_false]; intro x hx; rw [h x hx]; simp
    rw [this]; rfl
  | some k =>
    rw [List.findIdx?_eq_some_iff_getElem] at h
    obtain ⟨hk, h1, _⟩ := h
    have : zs.any pr = true := by rw [List.any_eq_true]; exact ⟨_, List.getElem_mem hk, h1⟩
    rw [this]; simp

set_option maxHeartbeats 1000000 in
theorem idxf_any (g : Nat) (lb : Array Value) (eg : ∀ args w, (callFunc g args).run Tryz.prog w = .ok (.enter g args) w) (pr : Int → Bool) (A : Option Addr) (c : Nat) (zs : List Int) (w : World)
    (hs : SlI w w.heap.size A zs) (hn : zs.length ≤ 4611686018427387904) (hp : ∀ x, x ∈ zs → Calls Tryz.prog g (#[.int .i64 x] ++ lb) w fun e w' => e = .returned (.bool (pr x)) ∧ w = w') :
    Calls Tryz.prog 46 #[.slice A zs.length c, .func (.func g) #[] lb] w fun e w' => e = .returned (.int .i64 (idxBy pr zs)) ∧ w = w' := by
  go_enter Tryz.func46, Tryz.ntmps46
  go_wp2
  go_loop [8] (fun i => ∃ k : Nat, k ≤ zs.length ∧ i = .int .i64 k ∧ Hid (∀ j y, j < k → zs[j]? = some y → pr y = false)) (fun i => zs.length - (intOf i).toNat)
  case atStart => exact ⟨0, Nat.zero_le _, rfl, fun j _ hj => absurd hj (Nat.not_lt_zero j)⟩
  case round =>
    obtain ⟨k, hk, rfl, H⟩ := hrel
    by_cases hlt : k < zs.length
    · obtain ⟨b, off, z, rfl, hB, hr, hc⟩ := hs.at_ hlt
      have hcall := hp z (List.mem_of_getElem? hr)
      have HR : Hid (zs[k]? = some z) := hr
      clear hr hs hp
      cases hq : pr z with
      | true =>
        rw [hq] at hcall
        have HQ : Hid (pr z = true) := hq
        clear hq
        go_wp2_with (go_at_fn g; refine hcall.mono ?_; rintro e w' ⟨rfl, rfl⟩)
        go_ret
        exact ⟨ret_int (idxBy_hit HR.out HQ.out H.out).symm, rfl⟩
      | false =>
        rw [hq] at hcall
        have HQ : Hid (pr z = false) := hq
        clear hq
        go_wp2_with (go_at_fn g; refine hcall.mono ?_; rintro e w' ⟨rfl, rfl⟩)
        go_round
        case rel =>
          refine ⟨k + 1, by omega, by go_num, fun j y hj hy => ?_⟩
          by_cases e : j = k
          · subst e; rw [HR.out] at hy; injection hy with hy; subst hy; exact HQ.out
          · exact H.out j y (by omega) hy
        case measure => simp [intOf]; omega
    · have HE : Hid (idxBy pr zs = -1) := idxBy_none (fun j y hj => H.out j y (by omega))
      clear H hs hp
      go_wp2
      go_ret
      exact ⟨ret_int HE.out.symm, rfl⟩
theorem contf_any (g : Nat) (lb : Array Value) (eg : ∀ args w, (callFunc g args).run Tryz.prog w = .ok (.enter g args) w) (pr : Int → Bool) (A : Option Addr) (c : Nat) (zs : List Int) (w : World)
    (hs : SlI w w.heap.size A zs) (hn : zs.length ≤ 4611686018427387904) (hp : ∀ x, x ∈ zs → Calls Tryz.prog g (#[.int .i64 x] ++ lb) w fun e w' => e = .returned (.bool (pr x)) ∧ w = w') :
    Calls Tryz.prog 25 #[.slice A zs.length c, .func (.func g) #[] lb] w fun e w' => e = .returned (.bool (zs.any pr)) ∧ w = w' := by
  have HA : Hid (decide (0 ≤ idxBy pr zs) = zs.any pr) := idxBy_any pr zs
  have hcall := Lib.hid (idxf_any g lb eg pr A c zs w hs hn hp)
  clear hs hp eg
  go_enter Tryz.func25, Tryz.ntmps25
  go_wp2_with (go_at_call 46; refine hcall.out.mono ?_; rintro e w' ⟨rfl, rfl⟩)
  go_ret
  exact ⟨ret_bool (by first | exact HA.out | (rw [← HA.out]; simp)), rfl⟩

def badC (c : Int) : Bool := decide (c < 1) || decide (6 < c)
theorem chk1_any (x : Int) (w : World) : Calls Tryz.prog 26 #[.int .i64 x] w fun e w' => e = .returned (.bool (badC x)) ∧ w = w' := by
  go_enter Tryz.func26, Tryz.ntmps26
  go_wp2
  all_goals go_ret
  all_goals refine ⟨ret_bool ?_, rfl⟩
  all_goals (rw [Bool.eq_iff_iff]; first | (simp [badC]; done) | (simp [badC]; omega))
end Go.Proofs.YthedmiilkeclaaaGreat
namespace Go.Proofs.YthedmiilkeclaaaGreat
open Go.RowKit
open Go.Proofs.YthedmiilkeclaaaGreat.I34
set_option maxRecDepth 100000

theorem rowBad_eq (n0 : Nat) (row : List Int) : rowBad n0 row = (decide (row.length = 0) || decide (101 < row.length) || decide (row.length ≠ n0) || row.any badC) := rfl
theorem chk_many {p : List (List Int)} (h : 100 < p.length) : chk p = 4 := by rw [chk, if_pos h]
theorem chk_bad {p : List (List Int)} (h : ¬ 100 < p.length) {k : Nat} {row : List Int} (hr : p[k]? = some row) (hb : rowBad (p.headD []).length row = true) : chk p = 8 := by
  rw [chk, if_neg h, if_pos]
  rw [List.any_eq_true]
  exact ⟨row, List.mem_of_getElem? hr, hb⟩
theorem chk_ok {p : List (List Int)} (h : ¬ 100 < p.length) (hb : ∀ j row, j < p.length → p[j]? = some row → rowBad (p.headD []).length row = false) : chk p = 0 := by
  rw [chk, if_neg h, if_neg]
  rw [List.any_eq_true]
  rintro ⟨row, hm, hx⟩
  obtain ⟨j, hj⟩ := List.mem_iff_getElem?.1 hm
  rw [hb j row (List.getElem?_eq_some_iff.1 hj).1 hj] at hx
  cases hx
theorem head_of {p : List (List Int)} {r0 : List Int} (h : p[0]? = some r0) : p.headD [] = r0 := by
  cases p with
  | nil => simp at h
  | cons a l => simpa using h

set_option maxHeartbeats 2000000 in
theorem check_any (A : Option Addr) (c : Nat) (p : List (List Int)) (w : World) (h : SlRows w w.heap.size A p) (hrl : ∀ row ∈ p, row.length ≤ 4611686018427387904) :
    Calls Tryz.prog 6 #[.slice A p.length c] w fun e w' => e = .returned (.int .i64 (chk p)) ∧ w = w' := by
  by_cases hm : 100 < p.length
  · have HE : Hid (chk p = 4) := chk_many hm
    clear h hrl
    go_enter Tryz.func6, Tryz.ntmps6
    go_wp2
    go_ret
    exact ⟨ret_int HE.out.symm, rfl⟩
  · go_enter Tryz.func6, Tryz.ntmps6
    go_wp2
    go_loop [11] (fun i => ∃ k : Nat, k ≤ p.length ∧ i = .int .i64 k ∧ Hid (∀ j row, j < k → p[j]? = some row → rowBad (p.headD []).length row = false)) (fun i => p.length - (intOf i).toNat)
    case atStart => exact ⟨0, Nat.zero_le _, rfl, fun j _ hj => absurd hj (Nat.not_lt_zero j)⟩
    case round =>
      obtain ⟨k, hk, rfl, H⟩ := hrel
      by_cases hlt : k < p.length
      · obtain ⟨b, off, row, A', C', hA, hB, hr, hc, hs⟩ := h.at_ hlt
        obtain ⟨b0, off0, r0, A0, C0, hA0, hB0, hr0, hc0, hs0⟩ := h.at_ (k := 0) (by omega)
        rw [hA] at hA0
        injection hA0 with hA0
        injection hA0 with e1 e2
        subst e1 e2 hA
        have hh0 := head_of hr0
        have hL := hrl row (List.mem_of_getElem? hr)
        have hcall := contf_any 26 #[] (enters_of Tryz.func26 (by kernel_rfl) rfl) badC A' C' row w hs hL (fun x _ => chk1_any x w)
        have HQ : Hid (rowBad (p.headD []).length row = (decide (row.length = 0) || decide (101 < row.length) || decide (row.length ≠ r0.length) || row.any badC)) := by rw [hh0]; exact rowBad_eq _ _
        have HR : Hid (p[k]? = some row) := hr
        clear hr hr0 hs hs0 hh0 h hrl
        obtain ⟨an, han⟩ : ∃ an, row.any badC = an := ⟨_, rfl⟩
        rw [han] at hcall HQ
        clear han
        obtain ⟨L, hLe⟩ : ∃ L, row.length = L := ⟨_, rfl⟩
        rw [hLe] at hcall HQ hc hL
        clear hLe
        obtain ⟨L0, hL0e⟩ : ∃ L, r0.length = L := ⟨_, rfl⟩
        rw [hL0e] at HQ hc0
        clear hL0e
        have hc0' : w.cell? ⟨b, off, none⟩ = some (.slice A0 L0 C0) := hc0
        clear hc0
        by_cases hbad : (decide (L = 0) || decide (101 < L) || decide (L ≠ L0) || an) = true
        · have HB : Hid (chk p = 8) := chk_bad hm HR.out (HQ.out.trans hbad)
          clear HQ H
          have hcases : (L = 0) ∨ (0 < L ∧ 101 < L) ∨ (0 < L ∧ L ≤ 101 ∧ L < L0) ∨ (0 < L ∧ L ≤ 101 ∧ L0 < L) ∨ (0 < L ∧ L ≤ 101 ∧ L = L0 ∧ an = true) := by
            cases an with
            | true => simp only [and_true]; omega
            | false => simp at hbad; simp; omega
          clear hbad
          rcases hcases with h1 | ⟨h1, h2⟩ | ⟨h1, h2, h3⟩ | ⟨h1, h2, h3⟩ | ⟨h1, h2, rfl, rfl⟩
          · subst h1
            go_wp2_with (go_at_call 25; refine hcall.mono ?_; rintro e w' ⟨rfl, rfl⟩)
            go_ret
            exact ⟨ret_int HB.out.symm, rfl⟩
          all_goals
            have hb0 : ((L : Int) == 0) = false := by simp; omega
            go_wp2_with (go_at_call 25; refine hcall.mono ?_; rintro e w' ⟨rfl, rfl⟩)
            go_ret
            exact ⟨ret_int HB.out.symm, rfl⟩
        · have hbad' : 0 < L ∧ L ≤ 101 ∧ L = L0 ∧ an = false := by
            cases an with
            | true => simp at hbad
            | false => simp at hbad; simp only [and_true]; omega
          have HN : Hid (rowBad (p.headD []).length row = false) := by
            refine HQ.out.trans ?_
            simpa using hbad
          clear hbad HQ
          obtain ⟨h1, h2, rfl, rfl⟩ := hbad'
          have hb0 : ((L : Int) == 0) = false := by simp; omega
          go_wp2_with (go_at_call 25; refine hcall.mono ?_; rintro e w' ⟨rfl, rfl⟩)
          go_round
          case rel =>
            refine ⟨k + 1, by omega, by go_num, fun j r hj hr => ?_⟩
            by_cases e : j = k
            · subst e; rw [HR.out] at hr; injection hr with hr; subst hr; exact HN.out
            · exact H.out j r (by omega) hr
          case measure => simp [intOf]; omega
      · have HE : Hid (chk p = 0) := chk_ok hm (fun j row hj => H.out j row (by omega))
        clear H h hrl
        go_wp2
        go_ret
        exact ⟨ret_int HE.out.symm, rfl⟩
end Go.Proofs.YthedmiilkeclaaaGreat
namespace Go.Proofs.YthedmiilkeclaaaGreat
open Go.RowKit
open Go.Proofs.YthedmiilkeclaaaGreat.I34
set_option maxRecDepth 100000

theorem any_hit {row : List Int} {k : Nat} {z : Int} (hz : row[k]? = some z) (hb : badC z = true) : row.any badC = true := by
  rw [List.any_eq_true]; exact ⟨z, List.mem_of_getElem? hz, hb⟩
theorem any_none {row : List Int} (h : ∀ j z, j < row.length → row[j]? = some z → badC z = false) : row.any badC = false := by
  rw [List.any_eq_false]
  intro x hx
  obtain ⟨j, hj⟩ := List.mem_iff_getElem?.1 hx
  rw [h j x (List.getElem?_eq_some_iff.1 hj).1 hj]; simp

set_option maxHeartbeats 4000000 in
theorem rcheck_any (A : Option Addr) (c : Nat) (p : List (List Int)) (w : World) (h : SlRows w w.heap.size A p) (hrl : ∀ row ∈ p, row.length ≤ 4611686018427387904) :
    Calls Tryz.prog 15 #[.slice A p.length c] w fun e w' => e = .returned (.int .i64 (chk p)) ∧ Below w.heap.size w w' := by
  by_cases hm : 100 < p.length
  · have HE : Hid (chk p = 4) := chk_many hm
    clear h hrl
    go_enter Tryz.func15, Tryz.ntmps15
    go_wp2
    go_ret
    exact ⟨ret_int HE.out.symm, Below.refl _ _⟩
  · go_enter Tryz.func15, Tryz.ntmps15
    go_wp2
    go_loopw [3] (fun i wr => ∃ k : Nat, k ≤ p.length ∧ i = .int .i64 k ∧ Below w.heap.size w wr ∧ Hid (∀ j row, j < k → p[j]? = some row → rowBad (p.headD []).length row = false)) (fun i _ => p.length - (intOf i).toNat)
    case atStart => exact ⟨0, Nat.zero_le _, rfl, Below.refl _ _, fun j _ hj => absurd hj (Nat.not_lt_zero j)⟩
    case round =>
      obtain ⟨k, hk, rfl, hbw, H⟩ := hrel
      by_cases hlt : k < p.length
      · obtain ⟨b, off, row, A', C', hA, hB, hr, hcw, hs⟩ := h.at_ hlt
        obtain ⟨b0, off0, r0, A0, C0, hA0, hB0, hr0, hc0w, hs0⟩ := h.at_ (k := 0) (by omega)
        rw [hA] at hA0
        injection hA0 with hA0
        injection hA0 with e1 e2
        subst e1 e2 hA
        have hc := (bcell hbw hB _).trans hcw
        have hc0 := (bcell hbw hB _).trans hc0w
        clear hc0w
        have HW := Lib.hid hcw
        clear hcw
        have hh0 := head_of hr0
        have hL := hrl row (List.mem_of_getElem? hr)
        have HQ : Hid (rowBad (p.headD []).length row = (decide (row.length = 0) || decide (101 < row.length) || decide (row.length ≠ r0.length) || row.any badC)) := by rw [hh0]; exact rowBad_eq _ _
        have HR : Hid (p[k]? = some row) := hr
        clear hr hr0 hs0 hh0 h hrl
        obtain ⟨L0, hL0e⟩ : ∃ L, r0.length = L := ⟨_, rfl⟩
        rw [hL0e] at HQ hc0
        clear hL0e
        have hc0' : wr.cell? ⟨b, off, none⟩ = some (.slice A0 L0 C0) := hc0
        clear hc0
        by_cases hbad : row.length = 0 ∨ 101 < row.length ∨ row.length ≠ L0
        · have HB : Hid (chk p = 8) := chk_bad hm HR.out (HQ.out.trans (by rcases hbad with e | e | e <;> simp [e]))
          clear HQ H hs
          obtain ⟨L, hLe⟩ : ∃ L, row.length = L := ⟨_, rfl⟩
          rw [hLe] at hc hL hbad
          clear hLe
          have hcases : (L = 0) ∨ (0 < L ∧ 101 < L) ∨ (0 < L ∧ L ≤ 101 ∧ L < L0) ∨ (0 < L ∧ L ≤ 101 ∧ L0 < L) := by omega
          clear hbad
          rcases hcases with h1 | ⟨h1, h2⟩ | ⟨h1, h2, h3⟩ | ⟨h1, h2, h3⟩
          · subst h1
            go_wp2
            go_quiet (fail)
            go_wp2
            go_ret
            exact ⟨ret_int HB.out.symm, below_drewN hbw _⟩
          · have hb0 : ((L : Int) == 0) = false := by simp; omega
            have hd : decide ((101 : Int) < (L : Int)) = true := by simp; omega
            go_wp2
            go_quiet (fail)
            go_wp2
            go_ret
            exact ⟨ret_int HB.out.symm, below_drewN hbw _⟩
          all_goals
            have hb0 : ((L : Int) == 0) = false := by simp; omega
            have hd : decide ((101 : Int) < (L : Int)) = false := by simp; omega
            have hb1 : ((L : Int) == (L0 : Int)) = false := by simp; omega
            go_wp2
            go_quiet (fail)
            go_wp2
            go_ret
            exact ⟨ret_int HB.out.symm, below_drewN hbw _⟩
        · have h1 : 0 < row.length ∧ row.length ≤ 101 ∧ row.length = L0 := by omega
          clear hbad
          obtain ⟨h1, h2, h3⟩ := h1
          subst h3
          have HQ2 : Hid (rowBad (p.headD []).length row = row.any badC) := by
            refine HQ.out.trans ?_
            have e1 : decide (row.length = 0) = false := decide_eq_false (by omega)
            have e2 : decide (101 < row.length) = false := decide_eq_false (by omega)
            rw [e1, e2]; simp
          clear HQ
          have hb0 : ((row.length : Int) == 0) = false := beq_eq_false_iff_ne.2 (by omega)
          have hd : decide ((101 : Int) < (row.length : Int)) = false := by simp; omega
          go_wp2
          go_quiet (fail)
          go_wp2
          have hb1 := below_drewN hbw nq
          generalize wr.drewN nq = w1 at hb1 ⊢
          go_loopw [4] (fun i wr => ∃ n : Nat, n ≤ row.length ∧ i = .int .i64 n ∧ Below w.heap.size w wr ∧ Hid (∀ j z, j < n → row[j]? = some z → badC z = false)) (fun i _ => row.length - (intOf i).toNat)
          case atStart => exact ⟨0, Nat.zero_le _, rfl, hb1, fun j _ hj => absurd hj (Nat.not_lt_zero j)⟩
          case round =>
            obtain ⟨n, hn, rfl, hbw2, H2⟩ := hrel
            have hc2 := (bcell hbw2 hB _).trans HW.out
            by_cases hlt2 : n < row.length
            · obtain ⟨b2, off2, z, hA2, hB2, hz, hcz⟩ := hs.at_ hlt2
              subst hA2
              have hcz2 := (bcell hbw2 hB2 _).trans hcz
              have HZ : Hid (row[n]? = some z) := hz
              clear hz hcz hs
              cases hq : badC z with
              | true =>
                have HB : Hid (chk p = 8) := chk_bad hm HR.out (HQ2.out.trans (any_hit HZ.out hq))
                have HC : Hid (badC z = true) := hq
                clear hq HQ2
                go_wp2
                all_goals try (exfalso; have := HC.out; simp [badC] at this; omega)
                all_goals go_ret
                all_goals exact ⟨ret_int HB.out.symm, hbw2⟩
              | false =>
                have HC : Hid (badC z = false) := hq
                clear hq
                go_wp2
                all_goals try (exfalso; have := HC.out; simp [badC] at this; omega)
                go_roundw
                case rel =>
                  refine ⟨n + 1, by omega, by go_num, hbw2, fun j y hj hy => ?_⟩
                  by_cases e : j = n
                  · subst e; rw [HZ.out] at hy; injection hy with hy; subst hy; exact HC.out
                  · exact H2.out j y (by omega) hy
                case measure => simp [intOf]; omega
            · have HO : Hid (rowBad (p.headD []).length row = false) := HQ2.out.trans (any_none (fun j z hj => H2.out j z (by omega)))
              clear H2 HQ2
              go_wp2
              go_roundw
              case rel =>
                refine ⟨k + 1, by omega, by go_num, hbw2, fun j r hj hr => ?_⟩
                by_cases e : j = k
                · subst e; rw [HR.out] at hr; injection hr with hr; subst hr; exact HO.out
                · exact H.out j r (by omega) hr
              case measure => simp [intOf]; omega
      · have HE : Hid (chk p = 0) := chk_ok hm (fun j row hj => H.out j row (by omega))
        clear H h hrl
        go_wp2
        go_ret
        exact ⟨ret_int HE.out.symm, hbw⟩
end Go.Proofs.YthedmiilkeclaaaGreat
