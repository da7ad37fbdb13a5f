/- Layer 31, plain: what Compile returns has at most two passes a row, and two before. -/
import Derived.Test.YtbnddpknejgmhaaComp0
import Derived.Test.YtbnddpknejgmhaaBest
namespace Go.Proofs.Ytbnddpknejgmhaa
open Go.RowKit
set_option maxRecDepth 100000

def bit (b : Int) : Prop := b = 0 ∨ b = 1
structure OkSeg (s : List Ins) : Prop where
  pos : 0 < s.length
  pass : passR 0 s = true
  ok : ∀ i ∈ s, i.good ∧ i.wf ∧ i.op ≠ 8
theorem OkSeg.fit {s : List Ins} (h : OkSeg s) : ∀ i ∈ s, i.fit := fun i hi => fit_of_good (h.ok i hi).2.1 (h.ok i hi).1
def isX (k0 : Nat) (i : Ins) : Prop := ∃ (b : Int) (k : Nat), i = xferI b k ∧ bit b ∧ k0 ≤ k ∧ k < 101
def isK (right : Bool) (k0 : Nat) (i : Ins) : Prop := ∃ (op b : Int) (k : Nat), i = knitI op right b k ∧ (op = 3 ∨ op = 5) ∧ bit b ∧ k0 ≤ k ∧ k < 101
theorem isX.ok {k0 : Nat} {i : Ins} (h : isX k0 i) : i.good ∧ i.wf ∧ i.op ≠ 8 := by
  obtain ⟨b, k, rfl, hb, -, hk⟩ := h
  unfold bit at hb
  refine ⟨?_, ?_, ?_⟩
  · unfold Ins.good xferI needleP; simp; omega
  · unfold Ins.wf xferI; simp; omega
  · unfold xferI; simp
theorem isK.ok {right : Bool} {k0 : Nat} {i : Ins} (h : isK right k0 i) : i.good ∧ i.wf ∧ i.op ≠ 8 := by
  obtain ⟨op, b, k, rfl, ho, hb, -, hk⟩ := h
  unfold bit at hb
  refine ⟨?_, ?_, ?_⟩
  · unfold Ins.good knitI needleP carP; simp; omega
  · unfold Ins.wf knitI; simp; omega
  · unfold knitI; simp; omega
theorem pair_getD {R : Ins → Ins → Prop} {s : List Ins} (hp : s.Pairwise R) {i j : Nat} (hij : i < j) (hj : j < s.length) : R (s.getD i ins0) (s.getD j ins0) := by
  rw [getD_elem s (by omega), getD_elem s hj]
  exact List.pairwise_iff_getElem.1 hp i j (by omega) hj hij
theorem xseg_ok {k0 : Nat} {s : List Ins} (h0 : 0 < s.length) (h : ∀ i ∈ s, isX k0 i) (hp : s.Pairwise fun a b => a.at_ < b.at_) : OkSeg s := by
  refine ⟨h0, ?_, fun i hi => (h i hi).ok⟩
  have hat : ∀ j, j < s.length → isX k0 (s.getD j ins0) := fun j hj => by rw [getD_elem s hj]; exact h _ (List.getElem_mem hj)
  have g : ∀ j, j < s.length → groupI (s.getD j ins0) = 2 := fun j hj => by
    obtain ⟨b, k, e, -⟩ := hat j hj
    rw [e]; rfl
  refine passR_true h0 (fun e => by rw [g 0 h0] at e; exact absurd e.1 (by decide)) fun k h1 hk => ?_
  unfold stepR
  rw [g k hk, g 0 h0, decide_eq_true rfl, Bool.true_and, if_neg (by decide), List.all_eq_true]
  intro q hq
  have hqk := List.mem_range.1 hq
  have hlt := pair_getD hp hqk hk
  obtain ⟨b, c, e, -⟩ := hat q (by omega)
  obtain ⟨b', c', e', -⟩ := hat k hk
  rw [e, e'] at hlt ⊢
  simp only [xferI] at hlt
  unfold namesB xferI
  rw [Bool.not_eq_true', decide_eq_false_iff_not]
  simp only
  omega
theorem kseg_ok {right : Bool} {k0 : Nat} {s : List Ins} (h0 : 0 < s.length) (h : ∀ i ∈ s, isK right k0 i) (hp : s.Pairwise fun a b => if right then a.at_ < b.at_ else b.at_ < a.at_) : OkSeg s := by
  refine ⟨h0, ?_, fun i hi => (h i hi).ok⟩
  have hat : ∀ j, j < s.length → isK right k0 (s.getD j ins0) := fun j hj => by rw [getD_elem s hj]; exact h _ (List.getElem_mem hj)
  have g : ∀ j, j < s.length → groupI (s.getD j ins0) = 1 := fun j hj => by
    obtain ⟨op, b, k, e, ho, -⟩ := hat j hj
    rw [e]
    unfold groupI knitI
    rw [if_pos (by simp only; omega)]
  refine passR_true h0 (fun e => by rw [g 0 h0] at e; exact absurd e.1 (by decide)) fun k h1 hk => ?_
  unfold stepR
  rw [g k hk, g 0 h0, decide_eq_true rfl, Bool.true_and, if_pos rfl]
  have hlt := pair_getD hp (show k - 1 < k by omega) hk
  obtain ⟨o0, b0, c0, e0, -⟩ := hat 0 h0
  obtain ⟨o1, b1, c1, e1, -⟩ := hat (k - 1) (by omega)
  obtain ⟨o2, b2, c2, e2, -⟩ := hat k hk
  rw [e1, e2] at hlt
  rw [e0, e1, e2]
  unfold wayR Ins.col knitI
  simp only [knitI] at hlt
  cases right with
  | true =>
    simp only [if_true] at hlt ⊢
    simp
    omega
  | false =>
    simp only [Bool.false_eq_true, if_false] at hlt ⊢
    simp
    omega

theorem mayB_cons {s l : List Ins} {ps : List Int} (h : OkSeg s) : mayB 0 (s ++ l) ((s.length : Int) :: ps) = mayB 0 l ps := by
  have h1 := pass_lon (rack := 0) h.fit
  rw [h.pass] at h1
  have h2 : lonF 0 s = s.length := by
    have := (Bool.and_eq_true_iff.1 h1.symm).2
    exact of_decide_eq_true this
  have hp := h.pos
  simp only [mayB, Int.toNat_natCast]
  rw [List.take_left, List.drop_left, h2, if_neg (by rw [List.length_append]; omega)]
  congr 1
  have e : (s ++ l).getD (s.length - 1) ins0 = s[s.length - 1] := by
    rw [List.getD, List.getElem?_append_left (by omega), List.getElem?_eq_getElem (by omega)]; rfl
  show rackedI 0 ((s ++ l).getD (s.length - 1) ins0) = 0
  rw [e]
  unfold rackedI
  rw [if_neg (h.ok _ (List.getElem_mem _)).2.2]
theorem segs_may : ∀ (S : List (List Ins)), (∀ s ∈ S, OkSeg s) → mayB 0 S.flatten (S.map fun s => (s.length : Int)) = true
  | [], _ => rfl
  | s :: S, h => by
    rw [List.flatten_cons, List.map_cons, mayB_cons (h s List.mem_cons_self)]
    exact segs_may S fun t ht => h t (List.mem_cons_of_mem _ ht)

theorem stepB_bit {s : Stc} {k : Nat} {B : List Int} (h : ∀ b ∈ B, bit b) : ∀ b ∈ stepB s k B, bit b := by
  intro b hb
  unfold stepB at hb
  split at hb
  · rcases List.mem_or_eq_of_mem_set hb with h' | h'
    · exact h b h'
    · subst h'; unfold wantS bit; split <;> simp
  · exact h b hb
theorem getD_bit {B : List Int} (h : ∀ b ∈ B, bit b) (k : Nat) : bit (B.getD k 0) := by
  rw [List.getD]
  cases hk : B[k]? with
  | none => exact Or.inl rfl
  | some b => exact h b (List.mem_of_getElem? hk)
theorem row_spec (right : Bool) : ∀ (l : List Stc) (k : Nat) (O R : List Ins) (B : List Int), (∀ b ∈ B, bit b) → k + l.length ≤ 101 →
    ∃ X Y B', rowRun right k l (O, R, B) = (O ++ X, R ++ Y, B') ∧ (∀ b ∈ B', bit b) ∧ Y.length = l.length ∧ (∀ i ∈ X, isX k i) ∧ X.Pairwise (fun a b => a.at_ < b.at_) ∧ (∀ i ∈ Y, isK right k i) ∧ Y.Pairwise (fun a b => a.at_ < b.at_)
  | [], k, O, R, B, hB, _ => ⟨[], [], B, by simp [rowRun], hB, rfl, fun _ h => (by cases h), List.Pairwise.nil, fun _ h => (by cases h), List.Pairwise.nil⟩
  | s :: l, k, O, R, B, hB, hk => by
    simp only [List.length_cons] at hk
    obtain ⟨X, Y, B', e, h1, h2, h3, h4, h5, h6⟩ := row_spec right l (k + 1) (stepO s k O B) (stepRw right s k R B) (stepB s k B) (stepB_bit hB) (by omega)
    have hXn : ∀ i ∈ X, isX k i := fun i hi => by
      obtain ⟨b, c, e, hb, hc, hc2⟩ := h3 i hi
      exact ⟨b, c, e, hb, by omega, hc2⟩
    have hYn : ∀ i ∈ knitI (if s.kind = 1 then 3 else 5) right ((stepB s k B).getD k 0) k :: Y, isK right k i := fun i hi => by
      rcases List.mem_cons.1 hi with rfl | hi
      · exact ⟨_, _, k, rfl, by split <;> simp, getD_bit (stepB_bit hB) k, Nat.le_refl _, by omega⟩
      · obtain ⟨o, b, c, e, ho, hb, hc, hc2⟩ := h5 i hi
        exact ⟨o, b, c, e, ho, hb, by omega, hc2⟩
    have hYp : (knitI (if s.kind = 1 then 3 else 5) right ((stepB s k B).getD k 0) k :: Y).Pairwise (fun a b => a.at_ < b.at_) := by
      refine List.Pairwise.cons (fun i hi => ?_) h6
      obtain ⟨o, b, c, rfl, ho, hb, hc, hc2⟩ := h5 i hi
      simp only [knitI]; omega
    have eY : stepRw right s k R B ++ Y = R ++ (knitI (if s.kind = 1 then 3 else 5) right ((stepB s k B).getD k 0) k :: Y) := by
      unfold stepRw; rw [List.append_assoc]; rfl
    by_cases hc : s.kind = 1 ∧ B.getD k 0 ≠ wantS s
    · refine ⟨xferI (B.getD k 0) k :: X, _, B', ?_, h1, ?_, ?_, ?_, hYn, hYp⟩
      · show rowRun right (k + 1) l (stepO s k O B, stepRw right s k R B, stepB s k B) = _
        rw [e, eY]
        unfold stepO
        rw [if_pos hc, List.append_assoc]; rfl
      · simp [h2]
      · intro i hi
        rcases List.mem_cons.1 hi with rfl | hi
        · exact ⟨_, k, rfl, getD_bit hB k, Nat.le_refl _, by omega⟩
        · exact hXn i hi
      · refine List.Pairwise.cons (fun i hi => ?_) h4
        obtain ⟨b, c, rfl, hb, hc, hc2⟩ := h3 i hi
        simp only [xferI]; omega
    · refine ⟨X, _, B', ?_, h1, ?_, hXn, h4, hYn, hYp⟩
      · show rowRun right (k + 1) l (stepO s k O B, stepRw right s k R B, stepB s k B) = _
        rw [e, eY]
        unfold stepO
        rw [if_neg hc]
      · simp [h2]
/-- A segment, unless it is empty. -/
def seg1 (s : List Ins) : List (List Ins) := if s.length = 0 then [] else [s]
theorem seg1_flat (s : List Ins) : (seg1 s).flatten = s := by
  unfold seg1
  split
  · rename_i h; rw [List.length_eq_zero_iff.1 h]; rfl
  · simp
theorem seg1_len (s : List Ins) : (seg1 s).length ≤ 1 := by unfold seg1; split <;> simp
theorem seg1_ok {s : List Ins} (h : 0 < s.length → OkSeg s) : ∀ t ∈ seg1 s, OkSeg t := by
  intro t ht
  unfold seg1 at ht
  split at ht
  · cases ht
  · rw [List.mem_singleton.1 ht]; exact h (by omega)
theorem rows_spec : ∀ (p : List RowC) (i : Nat) (O : List Ins) (B : List Int), (∀ b ∈ B, bit b) → (∀ r ∈ p, r.2.length ≤ 101) →
    ∃ S : List (List Ins), (rowsRun i p (O, B)).1 = O ++ S.flatten ∧ S.length ≤ 2 * p.length ∧ ∀ s ∈ S, OkSeg s
  | [], i, O, B, _, _ => ⟨[], by simp [rowsRun], Nat.le_refl _, fun _ h => (by cases h)⟩
  | r :: p, i, O, B, hB, hp => by
    obtain ⟨X, Y, B', e, h1, h2, h3, h4, h5, h6⟩ := row_spec (decide (i % 2 = 1)) (faceL r) 0 O [] B hB (by rw [face_len]; have := hp r List.mem_cons_self; omega)
    obtain ⟨S, e2, h7, h8⟩ := rows_spec p (i + 1) ((O ++ X) ++ (if i % 2 = 0 then ([] ++ Y).reverse else [] ++ Y)) B' h1 (fun r hr => hp r (List.mem_cons_of_mem _ hr))
    have hY : ∀ s, s = (if i % 2 = 0 then ([] ++ Y).reverse else [] ++ Y) → 0 < s.length → OkSeg s := by
      rintro s rfl h0
      by_cases hi : i % 2 = 0
      · rw [if_pos hi, List.nil_append] at h0 ⊢
        have hr : decide (i % 2 = 1) = false := decide_eq_false (by omega)
        rw [hr] at h5
        refine kseg_ok (right := false) (k0 := 0) h0 (fun j hj => h5 j (List.mem_reverse.1 hj)) ?_
        rw [List.pairwise_reverse]
        simpa using h6
      · rw [if_neg hi, List.nil_append] at h0 ⊢
        have hr : decide (i % 2 = 1) = true := decide_eq_true (by omega)
        rw [hr] at h5
        exact kseg_ok (right := true) (k0 := 0) h0 h5 (by simpa using h6)
    refine ⟨seg1 X ++ (seg1 (if i % 2 = 0 then ([] ++ Y).reverse else [] ++ Y) ++ S), ?_, ?_, ?_⟩
    · simp only [rowsRun]
      rw [e]
      simp only
      rw [e2, List.flatten_append, List.flatten_append, seg1_flat, seg1_flat]
      simp only [List.append_assoc]
    · have a1 := seg1_len X
      have a2 := seg1_len (if i % 2 = 0 then ([] ++ Y).reverse else [] ++ Y)
      rw [List.length_append, List.length_append, List.length_cons]
      omega
    · intro s hs
      rcases List.mem_append.1 hs with h | h
      · exact seg1_ok (fun h0 => xseg_ok h0 h3 h4) s h
      · rcases List.mem_append.1 h with h | h
        · exact seg1_ok (hY _ rfl) s h
        · exact h8 s h
theorem head_spec {n : Nat} (hn : n ≤ 101) : ∃ S : List (List Ins), headL n = S.flatten ∧ S.length ≤ 2 ∧ ∀ s ∈ S, OkSeg s := by
  refine ⟨seg1 [⟨1, false, 0, 0, 0, 1, 0⟩] ++ seg1 ((List.range n).map fun k : Nat => knitI 3 true 0 (k : Int)), ?_, ?_, ?_⟩
  · rw [List.flatten_append, seg1_flat, seg1_flat]; rfl
  · have a1 := seg1_len [⟨1, false, 0, 0, 0, 1, 0⟩]
    have a2 := seg1_len ((List.range n).map fun k : Nat => knitI 3 true 0 (k : Int))
    rw [List.length_append]; omega
  · intro s hs
    rcases List.mem_append.1 hs with h | h
    · refine seg1_ok (fun _ => ⟨by decide, by decide +kernel, fun i hi => ?_⟩) s h
      rw [List.mem_singleton.1 hi]
      exact ⟨by decide, by unfold Ins.wf; decide, by decide⟩
    · refine seg1_ok (fun h0 => kseg_ok (right := true) (k0 := 0) h0 (fun i hi => ?_) ?_) s h
      · obtain ⟨k, hk, rfl⟩ := List.mem_map.1 hi
        exact ⟨3, 0, k, rfl, Or.inl rfl, Or.inl rfl, Nat.zero_le _, by have := List.mem_range.1 hk; omega⟩
      · rw [List.pairwise_map]
        refine List.Pairwise.imp (fun h => ?_) List.pairwise_lt_range
        simp only [knitI, if_true]; omega
/-- What Compile returns without an error. -/
theorem comp_few {start : Int} {p : List RowC} (h : compE start p = 0) : lookE 0 (compL start p) = 0 ∧ (∀ i ∈ compL start p, i.wf) ∧ (few 0 (compL start p)).length ≤ 2 * p.length + 2 ∧ 1 + start ≤ (compL start p).length ∧ (compL start p).length ≤ 2000 ∧ 0 ≤ start ∧ start ≤ 101 ∧ p.length ≤ 100 := by
  unfold compE at h
  by_cases he : chartE start p = 0
  case neg => rw [if_pos he] at h; exact absurd h he
  rw [if_neg (by simpa using he)] at h
  cases hp : plainB start p with
  | false => rw [if_pos hp] at h; cases h
  | true =>
    rw [if_neg (by rw [hp]; simp)] at h
    by_cases hl : 2000 < (compL start p).length
    · rw [if_pos hl] at h; cases h
    obtain ⟨hst, hkind⟩ := plain_kind hp
    have hz := chart_zero he
    have hlen := plain_len hz.2.2 hkind
    obtain ⟨n, rfl⟩ := Int.eq_ofNat_of_zero_le hz.2.1.1
    obtain ⟨S1, e1, l1, o1⟩ := head_spec (n := n) (by omega)
    obtain ⟨S2, e2, l2, o2⟩ := rows_spec p 0 (headL n) (List.replicate n 0) (fun b hb => by rw [List.eq_of_mem_replicate hb]; exact Or.inl rfl) (fun r hr => by have := hlen r hr; omega)
    have hL : compL (n : Int) p = (S1 ++ S2).flatten := by
      unfold compL
      rw [Int.toNat_natCast, e2, e1, List.flatten_append]
    have hok : ∀ s ∈ S1 ++ S2, OkSeg s := fun s hs => (List.mem_append.1 hs).elim (o1 s) (o2 s)
    have hall : ∀ i ∈ compL (n : Int) p, i.good ∧ i.wf ∧ i.op ≠ 8 := fun i hi => by
      rw [hL] at hi
      obtain ⟨s, hs, hi⟩ := List.mem_flatten.1 hi
      exact (hok s hs).ok i hi
    have hm := segs_may _ hok
    rw [← hL] at hm
    have hf := few_least (fun i hi => fit_of_good (hall i hi).2.1 (hall i hi).1) hm
    rw [List.length_map, List.length_append] at hf
    have hlk : lookE 0 (compL (n : Int) p) = 0 := by
      unfold lookE
      rw [if_neg (by omega), if_neg (by omega), lookB_none (fun j y _ hy => by
        unfold Ins.err; rw [if_pos (hall y (List.mem_of_getElem? hy)).1])]
      rfl
    refine ⟨hlk, fun i hi => (hall i hi).2.1, by omega, ?_, by omega, by omega, hst, hz.1⟩
    have : (compL (n : Int) p).length = (headL n).length + S2.flatten.length := by
      unfold compL
      rw [Int.toNat_natCast, e2, List.length_append]
    have h3 : (headL n).length = n + 1 := by unfold headL; simp
    omega
end Go.Proofs.Ytbnddpknejgmhaa
