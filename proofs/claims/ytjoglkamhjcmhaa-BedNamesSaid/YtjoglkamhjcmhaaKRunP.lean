/- Layer 30: runs, plain: parts; a slice of instructions, cut. -/
import Derived.Test.YtjoglkamhjcmhaaKRun
import Derived.Test.YtjoglkamhjcmhaaKBackP
namespace Go.Proofs.Ytjoglkamhjcmhaa
open Go.RowKit
set_option maxRecDepth 100000

theorem runI_cons (s : BedS) (k : Nat) (i : Ins) (l : List Ins) : runI s k (i :: l) = if i.err ≠ 0 then (bed0, (k : Int), i.err) else if (doI s i).2 ≠ 0 then (bed0, (k : Int), (doI s i).2) else runI (doI s i).1 (k + 1) l := rfl
theorem err_ne {i : Ins} (h : i.err ≠ 0) : i.err = 8 := by
  unfold Ins.err at h ⊢
  split
  · rename_i hg; rw [if_pos hg] at h; exact absurd rfl h
  · rfl
theorem runI_go {s : BedS} {i : Ins} (k : Nat) (l : List Ins) (h1 : i.err = 0) (h2 : (doI s i).2 = 0) : runI s k (i :: l) = runI (doI s i).1 (k + 1) l := by
  rw [runI_cons, if_neg (by simpa using h1), if_neg (by simpa using h2)]
theorem runI_no1 (s : BedS) {i : Ins} (k : Nat) (l : List Ins) (h1 : i.err ≠ 0) : runI s k (i :: l) = (bed0, (k : Int), i.err) := by
  rw [runI_cons, if_pos h1]
theorem runI_no2 {s : BedS} {i : Ins} (k : Nat) (l : List Ins) (h1 : i.err = 0) (h2 : (doI s i).2 ≠ 0) : runI s k (i :: l) = (bed0, (k : Int), (doI s i).2) := by
  rw [runI_cons, if_neg (by simpa using h1), if_pos h2]
/-- Two parts, one after the other. -/
theorem runI_app : ∀ (l1 : List Ins) (l2 : List Ins) (s : BedS) (k : Nat), runI s k (l1 ++ l2) = if (runI s k l1).2.2 ≠ 0 then runI s k l1 else runI (runI s k l1).1 (k + l1.length) l2
  | [], l2, s, k => by simp [runI]
  | i :: l1, l2, s, k => by
    rw [List.cons_append]
    by_cases h1 : i.err = 0
    · by_cases h2 : (doI s i).2 = 0
      · rw [runI_go k _ h1 h2, runI_go k _ h1 h2, runI_app l1 l2, show k + 1 + l1.length = k + (i :: l1).length by simp; omega]
      · rw [runI_no2 k _ h1 h2, runI_no2 k _ h1 h2, if_pos h2]
    · rw [runI_no1 s k _ h1, runI_no1 s k _ h1, if_pos h1]
theorem runI_n : ∀ (l : List Ins) (s : BedS) (k : Nat), ((runI s k l).2.2 = 0 → (runI s k l).2.1 = ((k + l.length : Nat) : Int)) ∧ ((runI s k l).2.2 ≠ 0 → (k : Int) ≤ (runI s k l).2.1 ∧ (runI s k l).2.1 < ((k + l.length : Nat) : Int) ∧ (runI s k l).1 = bed0)
  | [], s, k => by simp [runI]
  | i :: l, s, k => by
    by_cases h1 : i.err = 0
    · by_cases h2 : (doI s i).2 = 0
      · rw [runI_go k _ h1 h2]
        obtain ⟨g1, g2⟩ := runI_n l (doI s i).1 (k + 1)
        refine ⟨fun h => ?_, fun h => ?_⟩
        · rw [g1 h]; simp; omega
        · have := g2 h; simp at this ⊢; exact ⟨by omega, by omega, this.2.2⟩
      · rw [runI_no2 k _ h1 h2]
        exact ⟨fun h => absurd h h2, fun _ => ⟨by simp, by simp; omega, rfl⟩⟩
    · rw [runI_no1 s k _ h1]
      exact ⟨fun h => absurd h h1, fun _ => ⟨by simp, by simp; omega, rfl⟩⟩
theorem runI_shift : ∀ (l : List Ins) (s : BedS) (k j : Nat), runI s (k + j) l = ((runI s k l).1, (runI s k l).2.1 + j, (runI s k l).2.2)
  | [], s, k, j => by simp [runI]
  | i :: l, s, k, j => by
    by_cases h1 : i.err = 0
    · by_cases h2 : (doI s i).2 = 0
      · rw [runI_go _ _ h1 h2, runI_go _ _ h1 h2, show k + j + 1 = k + 1 + j by omega, runI_shift l _ (k + 1) j]
      · rw [runI_no2 _ _ h1 h2, runI_no2 _ _ h1 h2]; simp
    · rw [runI_no1 s _ _ h1, runI_no1 s _ _ h1]; simp
theorem runI_good : ∀ (l : List Ins) (s : BedS) (k : Nat), Good s → (∀ i ∈ l, i.wf) → (runI s k l).2.2 = 0 → Good (runI s k l).1 ∧ (runI s k l).1.made.length ≤ s.made.length + l.length
  | [], s, k, h, _, _ => ⟨h, by simp [runI]⟩
  | i :: l, s, k, h, hw, hz => by
    by_cases h1 : i.err = 0
    · by_cases h2 : (doI s i).2 = 0
      · rw [runI_go k _ h1 h2] at hz ⊢
        obtain ⟨g, m, em, el⟩ := doI_good h (hw i List.mem_cons_self) (Ins.good_err h1) h2
        obtain ⟨g1, g2⟩ := runI_good l _ (k + 1) g (fun x hx => hw x (List.mem_cons_of_mem _ hx)) hz
        refine ⟨g1, ?_⟩
        rw [em, List.length_append, el] at g2
        have : madeN i ≤ 1 := by unfold madeN; split <;> omega
        simp only [List.length_cons]
        omega
      · rw [runI_no2 k _ h1 h2] at hz; exact absurd hz h2
    · rw [runI_no1 s k _ h1] at hz; exact absurd hz h1
theorem runS_ok {s : BedS} (he : bedE s = 0) {l : List Ins} (hl : l.length ≤ 2000) : runS s l = runI s 0 l := by
  unfold runS
  rw [if_neg (by simpa using he), if_neg (by omega)]
/-- The run of the first part fails. -/
theorem parts_bad {s : BedS} (he : bedE s = 0) {l : List Ins} (hl : l.length ≤ 300) {n : Nat} (hn : n ≤ l.length) (hf : (runS s (l.take n)).2.2 ≠ 0) :
    runS s l = runS s (l.take n) ∧ 0 ≤ (runS s (l.take n)).2.1 ∧ (runS s (l.take n)).2.1 < (n : Int) ∧ (runS s (l.take n)).1 = bed0 := by
  have hlt : (l.take n).length = n := by rw [List.length_take]; omega
  rw [runS_ok he (by omega)] at hf ⊢
  rw [runS_ok he (by omega)]
  have h := runI_app (l.take n) (l.drop n) s 0
  rw [List.take_append_drop, if_pos hf] at h
  have h2 := (runI_n (l.take n) s 0).2 hf
  rw [hlt] at h2
  exact ⟨h, by simpa using h2.1, by simpa using h2.2.1, h2.2.2⟩
/-- The run of the first part succeeds: the other part goes on. -/
theorem parts_ok {s : BedS} (hg : Good s) (hm : s.made.length ≤ 300) {l : List Ins} (hw : ∀ i ∈ l, i.wf) (hl : l.length ≤ 300) {n : Nat} (hn : n ≤ l.length) (hf : (runS s (l.take n)).2.2 = 0) :
    Good (runS s (l.take n)).1 ∧ (runS s (l.take n)).1.made.length ≤ 600 ∧ (runS s (l.take n)).2.1 = (n : Int) ∧
    runS s l = ((runS (runS s (l.take n)).1 (l.drop n)).1, (n : Int) + (runS (runS s (l.take n)).1 (l.drop n)).2.1, (runS (runS s (l.take n)).1 (l.drop n)).2.2) := by
  have hlt : (l.take n).length = n := by rw [List.length_take]; omega
  have hld : (l.drop n).length ≤ 300 := by rw [List.length_drop]; omega
  rw [runS_ok hg.err (by omega)] at hf ⊢
  rw [runS_ok hg.err (by omega)]
  obtain ⟨g1, g2⟩ := runI_good (l.take n) s 0 hg (fun i hi => hw i (List.mem_of_mem_take hi)) hf
  have h := runI_app (l.take n) (l.drop n) s 0
  rw [List.take_append_drop, if_neg (by simpa using hf), hlt] at h
  have hb := (runI_n (l.take n) s 0).1 hf
  rw [hlt, Nat.zero_add] at hb
  refine ⟨g1, by omega, hb, ?_⟩
  rw [runS_ok g1.err (by omega), h, runI_shift (l.drop n) _ 0 n, Int.add_comm]
/-- The first instruction of the other part. -/
theorem parts_do {t : BedS} (hg : Good t) {l : List Ins} (hl : l.length ≤ 300) {n : Nat} {i : Ins} (hi : l[n]? = some i) (hz : (doS t i).2 ≠ 0) :
    (runS t (l.drop n)).2.1 = 0 ∧ (runS t (l.drop n)).2.2 = (doS t i).2 := by
  obtain ⟨hk, e⟩ := List.getElem?_eq_some_iff.1 hi
  rw [runS_ok hg.err (by rw [List.length_drop]; omega), List.drop_eq_getElem_cons hk, e]
  by_cases h1 : i.err = 0
  · have e1 : doS t i = doI t i := by unfold doS; rw [if_neg (by rw [hg.err]; simp), if_neg (by simpa using h1)]
    rw [e1] at hz ⊢
    rw [runI_no2 0 _ h1 hz]
    exact ⟨rfl, rfl⟩
  · have e1 : doS t i = (bed0, i.err) := by unfold doS; rw [if_neg (by rw [hg.err]; simp), if_pos h1]
    rw [e1, runI_no1 t 0 _ h1]
    exact ⟨rfl, rfl⟩

/-! ### sub-slices -/
theorem x_size : (Try.prog.info? 43).map (·.size) = some 7 := by kernel_rfl
theorem addr_add0 (a : Addr) : a.add 0 = a := by simp [Addr.add]
theorem map_add0 (A : Option Addr) : A.map (fun a => a.add 0) = A := by cases A <;> simp [addr_add0]
theorem run_take (A : Option Addr) (len c n : Nat) (hn : n ≤ c) (w : World) :
    (Instr.slice 54 (.slice A len c) none (some (.int .i64 (n : Int))) none).run Try.prog w = .ok (.slice A n c) w := by
  obtain ⟨i0, hi, hz⟩ := Option.map_eq_some_iff.1 x_size
  simp [Instr.slice, Instr.sliceBounds, Instr.sliceBound, run_underlying Try.underlying54, sizeOf, typeInfo, hi, Result.andThen, asIntOf, hn, map_add0]
theorem run_drop (A : Option Addr) (len c n : Nat) (hn : n ≤ len) (w : World) :
    (Instr.slice 54 (.slice A len c) (some (.int .i64 (n : Int))) none none).run Try.prog w = .ok (.slice (if c = n then A else A.map (·.add (n * 7))) (len - n) (c - n)) w := by
  obtain ⟨i0, hi, hz⟩ := Option.map_eq_some_iff.1 x_size
  simp [Instr.slice, Instr.sliceBounds, Instr.sliceBound, run_underlying Try.underlying54, sizeOf, typeInfo, hi, hz, Result.andThen, asIntOf, hn]
theorem SlX.tail {w : World} {B : Nat} {A : Option Addr} {l : List Ins} (h : SlX w B A l) {n c : Nat} (hc : l.length ≤ c) : SlX w B (if c = n then A else A.map (·.add (n * 7))) (l.drop n) := by
  by_cases e : c = n
  · rw [if_pos e, List.drop_of_length_le (by omega)]; exact SlX.nil
  · rw [if_neg e]
    cases hl : l with
    | nil => rw [List.drop_nil]; exact SlX.nil
    | cons a t =>
      obtain ⟨b, off, rfl, hB⟩ := h.addr (by rw [hl]; simp)
      rw [← hl]
      have e2 : (⟨b, off, none⟩ : Addr).add (n * 7) = ⟨b, off + n * 7, none⟩ := by unfold Addr.add; split <;> simp_all
      simp only [Option.map_some, e2]
      exact h.drop n
theorem drop_ex {w : World} {B : Nat} {A : Option Addr} {l : List Ins} (h : SlX w B A l) {n c : Nat} (hc : l.length ≤ c) (hn : n ≤ l.length) :
    ∃ A2, (∀ W : World, (Instr.slice 54 (.slice A l.length c) (some (.int .i64 (n : Int))) none none).run Try.prog W = .ok (.slice A2 (l.length - n) (c - n)) W) ∧ SlX w B A2 (l.drop n) :=
  ⟨_, run_drop A l.length c n hn, h.tail hc⟩
end Go.Proofs.Ytjoglkamhjcmhaa
