/- Layer 28, the program: Run. Layer 28, the program: Stops. -/
import Derived.Test.YtbibndpkcilblaaGreatKRu
namespace Go.Proofs.YtbibndpkcilblaaGreat
open Go.RowKit Go.Shelf Go.Sort
set_option maxRecDepth 100000

theorem sort_range {L : List Int} {N : Nat} {p : Nat → Bool} (hn : L.Nodup) (hm : ∀ x, x ∈ L ↔ ∃ k : Nat, k < N ∧ x = (k : Int) ∧ p k = true) : sortZ L = ((List.range N).filter p).map fun k : Nat => (k : Int) := by
  have tr : ∀ a b c : Int, decide (a ≤ b) = true → decide (b ≤ c) = true → decide (a ≤ c) = true := fun a b c h1 h2 => by simp only [decide_eq_true_eq] at *; omega
  have tt : ∀ a b : Int, (decide (a ≤ b) || decide (b ≤ a)) = true := fun a b => by simp only [Bool.or_eq_true, decide_eq_true_eq]; omega
  have hR : (((List.range N).filter p).map fun k : Nat => (k : Int)).Nodup := by
    rw [List.Nodup, List.pairwise_map]
    exact (List.nodup_range.filter p).imp fun h e => h (by omega)
  refine List.Perm.eq_of_pairwise (le := fun a b => decide (a ≤ b) = true) (fun a b _ _ h1 h2 => ?_) (List.pairwise_mergeSort tr tt L) ?_ ?_
  · simp only [decide_eq_true_eq] at h1 h2; omega
  · rw [List.pairwise_map]
    exact (List.pairwise_lt_range.filter p).imp fun h => by simp only [decide_eq_true_eq]; omega
  · refine (List.mergeSort_perm L _).trans ((List.perm_ext_iff_of_nodup hn hR).2 fun x => ?_)
    rw [hm, List.mem_map]
    constructor
    · rintro ⟨k, h1, rfl, h2⟩
      exact ⟨k, List.mem_filter.2 ⟨List.mem_range.2 h1, h2⟩, rfl⟩
    · rintro ⟨k, h1, rfl⟩
      obtain ⟨h2, h3⟩ := List.mem_filter.1 h1
      exact ⟨k, List.mem_range.1 h2, rfl, h3⟩
/-- The numbers below a bound that are marked. -/
def listN (M : Nat) (F : Nat → Bool) : List Int := ((List.range M).filter F).map fun i : Nat => (i : Int)
theorem listN_congr {M : Nat} {F F' : Nat → Bool} (h : ∀ i, i < M → F i = F' i) : listN M F = listN M F' := by
  unfold listN
  congr 1
  exact List.filter_congr fun i hi => h i (List.mem_range.1 hi)
theorem listN_mem {M : Nat} {F : Nat → Bool} {x : Int} : x ∈ listN M F ↔ ∃ i : Nat, i < M ∧ x = (i : Int) ∧ F i = true := by
  unfold listN
  rw [List.mem_map]
  constructor
  · rintro ⟨i, hi, rfl⟩
    obtain ⟨h1, h2⟩ := List.mem_filter.1 hi
    exact ⟨i, List.mem_range.1 h1, rfl, h2⟩
  · rintro ⟨i, h1, rfl, h2⟩
    exact ⟨i, List.mem_filter.2 ⟨List.mem_range.2 h1, h2⟩, rfl⟩
theorem listN_len (M : Nat) (F : Nat → Bool) : (listN M F).length ≤ M := by
  unfold listN
  rw [List.length_map]
  exact Nat.le_trans (List.length_filter_le _ _) (by rw [List.length_range]; exact Nat.le_refl _)
theorem keys_sorted {lp : List Lp} {F : Nat → Bool} {xs : List Int} (hF : ∀ i, lp.length ≤ i → F i = false) (h : KyOf (gO F) xs) : sortZ xs = listN lp.length F := by
  refine sort_range h.1 fun x => ?_
  rw [h.2]
  unfold gO
  constructor
  · intro hx
    by_cases hc : 0 ≤ x ∧ F x.toNat = true
    · refine ⟨x.toNat, ?_, by omega, hc.2⟩
      by_cases hl : lp.length ≤ x.toNat
      · rw [hF _ hl] at hc; exact absurd hc.2 (by decide)
      · omega
    · rw [if_neg hc] at hx; cases hx
  · rintro ⟨k, h1, rfl, h2⟩
    rw [if_pos ⟨by omega, by rw [Int.toNat_natCast]; exact h2⟩]; rfl
theorem keys_few {lp : List Lp} {F : Nat → Bool} (hF : ∀ i, lp.length ≤ i → F i = false) (L : List Int) (hn : L.Nodup) (hk : ∀ k ∈ L, ((gO F) k).isSome = true) : L.length ≤ lp.length := by
  have hup : (sortZ L).Pairwise (· < ·) := by
    have h1 : (sortZ L).Pairwise (· ≠ ·) := (List.mergeSort_perm L fun x y => decide (x ≤ y)).nodup_iff.2 hn
    exact (sort_le _).imp₂ (fun a b h1 h2 => by omega) h1
  have h3 := up_len (l := sortZ L) (a := 0) (b := (lp.length : Int)) hup fun x hx => by
    have h := hk x (sortZ_mem.1 hx)
    unfold gO at h
    by_cases hc : 0 ≤ x ∧ F x.toNat = true
    · refine ⟨hc.1, ?_⟩
      by_cases hl : lp.length ≤ x.toNat
      · rw [hF _ hl] at hc; exact absurd hc.2 (by decide)
      · omega
    · rw [if_neg hc] at h; cases h
  rw [sortZ_len] at h3
  omega
theorem runL_hi (lp : List Lp) (drop : List Int) : ∀ i, lp.length ≤ i → runL lp drop i = false := fun i hi => by
  unfold runL
  rw [decide_eq_false (by omega)]; rfl
theorem runL_lo {lp : List Lp} {drop : List Int} {i : Nat} (hi : i < lp.length) : runL lp drop i = runF lp drop i := by
  unfold runL
  rw [decide_eq_true hi]; rfl
theorem PcAt.more {W : World} {B B' : Nat} {a k b : Option Addr} {L : List Lp} {K : List (List Int)} {bd : List Int} (h : PcAt W B a k b L K bd) (hB : B ≤ B') : PcAt W B' a k b L K bd := ⟨h.lp.more hB, h.kd.more hB, h.bd.more hB⟩
theorem PcAt.to {W W' : World} {a k b : Option Addr} {L : List Lp} {K : List (List Int)} {bd : List Int} (h : PcAt W W.heap.size a k b L K bd) (hb : Below W.heap.size W W') : PcAt W' W'.heap.size a k b L K bd := (h.below hb).more hb.size
/-- The front of a function that reads a chart: its box, the call. -/
structure LfF (start : Int) (A : Option Addr) (c : Nat) (p : List RowC) (cb : Nat) (w W : World) : Prop where
  cb0 : W.cell? ⟨cb, 0, none⟩ = some (.int .i64 start)
  cb1 : W.cell? ⟨cb, 1, none⟩ = some (.slice A p.length c)
  err : chartE start p ≠ 0 → Calls Tryz.prog 15 #[.agg #[.int .i64 start, .slice A p.length c]] W fun e w' => LqErr (chartE start p) W e w'
  ok : chartE start p = 0 → Calls Tryz.prog 15 #[.agg #[.int .i64 start, .slice A p.length c]] W fun e w' => LqOk (workX start p) ((workX start p).next : Int) W e w'
  bel : Below w.heap.size w W
theorem lf_front (start : Int) (A : Option Addr) (c : Nat) (p : List RowC) (hw : RowsWf p) (h12 : chartE start p = 0 → p.length ≤ 12) (w : World) (hs : SlC w w.heap.size A p) : LfF start A c p w.heap.size w (w.alloc (.cells #[.int .i64 start, .slice A p.length c] 24)) := by
  have hb := al_t w (.cells #[.int .i64 start, .slice A p.length c] 24)
  obtain ⟨g1, -⟩ := bxT_at (bxT_new w 24 [.int .i64 start, .slice A p.length c])
  exact ⟨g1 0 _ rfl, g1 1 _ rfl, fun he => lof_err start A c p hw he _ ((hs.below hb).more hb.size), fun he => lof_ok start A c p hw he (h12 he) _ ((hs.below hb).more hb.size), hb⟩
/-- Behind the call: the piece in its box. -/
structure LdB (qb : Nat) (a k b : Option Addr) (c kc bc : Nat) (t : Pw) (w W : World) : Prop where
  pc : PcAt W W.heap.size a k b t.lp (kidsA t.lp) t.bound
  c0 : W.cell? ⟨qb, 0, none⟩ = some (.slice a t.lp.length c)
  c1 : W.cell? ⟨qb, 1, none⟩ = some (.slice k t.lp.length kc)
  c2 : W.cell? ⟨qb, 2, none⟩ = some (.slice b t.bound.length bc)
  c3 : W.cell? ⟨qb, 3, none⟩ = some (.int .i64 (t.next : Int))
  bel : Below w.heap.size w W
theorem LdB.to {qb : Nat} {a k b : Option Addr} {c kc bc : Nat} {t : Pw} {w W W' : World} (h : LdB qb a k b c kc bc t w W) (hb : Below W.heap.size W W') : LdB qb a k b c kc bc t w W' :=
  ⟨h.pc.to hb, (bcell hb (lt_of_cell h.c0) _).trans h.c0, (bcell hb (lt_of_cell h.c1) _).trans h.c1, (bcell hb (lt_of_cell h.c2) _).trans h.c2, (bcell hb (lt_of_cell h.c3) _).trans h.c3, h.bel.trans (hb.mono h.bel.size)⟩
theorem LfF.behind {start : Int} {A : Option Addr} {c cb : Nat} {p : List RowC} {w W W' : World} {t : Pw} {a k b : Option Addr} {ca kc bc : Nat} (h : LfF start A c p cb w W) (hp : PcAt W' W'.heap.size a k b t.lp (kidsA t.lp) t.bound) (hb : Below W.heap.size W W') :
    LdB W'.heap.size a k b ca kc bc t w (W'.alloc (.cells #[.slice a t.lp.length ca, .slice k t.lp.length kc, .slice b t.bound.length bc, .int .i64 (t.next : Int)] 42)) := by
  have hal := al_t W' (.cells #[.slice a t.lp.length ca, .slice k t.lp.length kc, .slice b t.bound.length bc, .int .i64 (t.next : Int)] 42)
  obtain ⟨g1, -⟩ := bxT_at (bxT_new W' 42 [.slice a t.lp.length ca, .slice k t.lp.length kc, .slice b t.bound.length bc, .int .i64 (t.next : Int)])
  exact ⟨hp.to hal, g1 0 _ rfl, g1 1 _ rfl, g1 2 _ rfl, g1 3 _ rfl, h.bel.trans ((hb.trans (hal.mono hb.size)).mono h.bel.size)⟩
/-- What Run answers: the error, the list. -/
def runS (start : Int) (p : List RowC) (drop : List Int) : Int × List Int :=
  if chartE start p ≠ 0 then (chartE start p, []) else if dropB (workX start p).lp.length (workX start p).next drop = false then (2, []) else (0, listN (workX start p).lp.length (runF (workX start p).lp drop))
end Go.Proofs.YtbibndpkcilblaaGreat
namespace Go.Proofs.YtbibndpkcilblaaGreat
open Go.RowKit Go.Shelf Go.Sort
set_option maxRecDepth 100000

/-- What stops a drop. -/
def stopF (lp : List Lp) (drop : List Int) : Nat → Bool := fun i => !runF lp drop i && (kidsN lp i).any (runF lp drop)
theorem listN_yes {F : Nat → Bool} {i : Nat} (h : F i = true) : listN (i + 1) F = listN i F ++ [(i : Int)] := by
  unfold listN
  rw [List.range_succ, List.filter_append, List.map_append]
  simp [h]
theorem listN_no {F : Nat → Bool} {i : Nat} (h : F i = false) : listN (i + 1) F = listN i F := by
  unfold listN
  rw [List.range_succ, List.filter_append, List.map_append]
  simp [h]
def stopS (start : Int) (p : List RowC) (drop : List Int) : Int × List Int :=
  if chartE start p ≠ 0 then (chartE start p, []) else if dropB (workX start p).lp.length (workX start p).next drop = false then (2, []) else (0, listN (workX start p).lp.length (stopF (workX start p).lp drop))
end Go.Proofs.YtbibndpkcilblaaGreat
