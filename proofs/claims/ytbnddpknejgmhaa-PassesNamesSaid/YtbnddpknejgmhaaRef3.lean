/- Layer 31, the reference: pass. -/
import Derived.Test.YtbnddpknejgmhaaRef2
namespace Go.Proofs.Ytbnddpknejgmhaa
open Go.RowKit
set_option maxRecDepth 100000

def wayR (rack : Int) (a p x : Ins) : Bool := decide (x.car = a.car) && decide (x.right = a.right) && (if a.right then decide (p.col rack < x.col rack) else decide (x.col rack < p.col rack))
def stepR (rack : Int) (l : List Ins) (i : Nat) : Bool :=
  decide (groupI (l.getD i ins0) = groupI (l.getD 0 ins0)) &&
    (if groupI (l.getD 0 ins0) = 1 then wayR rack (l.getD 0 ins0) (l.getD (i - 1) ins0) (l.getD i ins0) else (List.range i).all fun k => !namesB (l.getD k ins0) (l.getD i ins0))
def passR (rack : Int) (l : List Ins) : Bool :=
  decide (0 < l.length) && !(decide (groupI (l.getD 0 ins0) = 0) && decide (1 < l.length)) && (List.range l.length).all fun i => decide (i = 0) || stepR rack l i
theorem getD_of {l : List Ins} {k : Nat} {x : Ins} (h : l[k]? = some x) : l.getD k ins0 = x := by rw [List.getD, h]; rfl
theorem passR_false {rack : Int} {l : List Ins} {k : Nat} (hk : k < l.length) (h1 : 1 ≤ k) (h : stepR rack l k = false) : passR rack l = false := by
  unfold passR
  have : ((List.range l.length).all fun i => decide (i = 0) || stepR rack l i) = false := by
    rw [List.all_eq_false]
    exact ⟨k, List.mem_range.2 hk, by rw [h]; simp; omega⟩
  rw [this, Bool.and_false]
theorem passR_true {rack : Int} {l : List Ins} (hp : 0 < l.length) (hg : ¬ (groupI (l.getD 0 ins0) = 0 ∧ 1 < l.length)) (h : ∀ k, 1 ≤ k → k < l.length → stepR rack l k = true) : passR rack l = true := by
  unfold passR
  rw [decide_eq_true hp, List.all_eq_true.2 (fun i hi => ?_)]
  · simp only [Bool.true_and, Bool.and_true, Bool.not_eq_true', Bool.and_eq_false_iff, decide_eq_false_iff_not]
    by_cases h1 : groupI (l.getD 0 ins0) = 0
    · exact Or.inr fun h2 => hg ⟨h1, h2⟩
    · exact Or.inl h1
  · rw [List.mem_range] at hi
    by_cases e : i = 0
    · simp [e]
    · rw [h i (by omega) hi, Bool.or_true]

theorem keep_two {W0 W W' : World} {b ox oa : Nat} {x a : Ins} (h : W.cell? ⟨b, ox, none⟩ = some (.int .u8 x.op) ∧ W.cell? ⟨b, ox + 1, none⟩ = some (.bool x.right) ∧ W.cell? ⟨b, ox + 2, none⟩ = some (.int .u8 x.bed) ∧ W.cell? ⟨b, ox + 3, none⟩ = some (.int .i64 x.at_) ∧ W.cell? ⟨b, ox + 4, none⟩ = some (.int .i64 x.to_) ∧ W.cell? ⟨b, ox + 5, none⟩ = some (.int .i64 x.car) ∧ W.cell? ⟨b, ox + 6, none⟩ = some (.int .i64 x.rack) ∧ W.cell? ⟨b, oa, none⟩ = some (.int .u8 a.op) ∧ W.cell? ⟨b, oa + 1, none⟩ = some (.bool a.right) ∧ W.cell? ⟨b, oa + 2, none⟩ = some (.int .u8 a.bed) ∧ W.cell? ⟨b, oa + 3, none⟩ = some (.int .i64 a.at_) ∧ W.cell? ⟨b, oa + 4, none⟩ = some (.int .i64 a.to_) ∧ W.cell? ⟨b, oa + 5, none⟩ = some (.int .i64 a.car) ∧ W.cell? ⟨b, oa + 6, none⟩ = some (.int .i64 a.rack) ∧ Below W0.heap.size W0 W) (hb : Below W.heap.size W W') : W'.cell? ⟨b, ox, none⟩ = some (.int .u8 x.op) ∧ W'.cell? ⟨b, ox + 1, none⟩ = some (.bool x.right) ∧ W'.cell? ⟨b, ox + 2, none⟩ = some (.int .u8 x.bed) ∧ W'.cell? ⟨b, ox + 3, none⟩ = some (.int .i64 x.at_) ∧ W'.cell? ⟨b, ox + 4, none⟩ = some (.int .i64 x.to_) ∧ W'.cell? ⟨b, ox + 5, none⟩ = some (.int .i64 x.car) ∧ W'.cell? ⟨b, ox + 6, none⟩ = some (.int .i64 x.rack) ∧ W'.cell? ⟨b, oa, none⟩ = some (.int .u8 a.op) ∧ W'.cell? ⟨b, oa + 1, none⟩ = some (.bool a.right) ∧ W'.cell? ⟨b, oa + 2, none⟩ = some (.int .u8 a.bed) ∧ W'.cell? ⟨b, oa + 3, none⟩ = some (.int .i64 a.at_) ∧ W'.cell? ⟨b, oa + 4, none⟩ = some (.int .i64 a.to_) ∧ W'.cell? ⟨b, oa + 5, none⟩ = some (.int .i64 a.car) ∧ W'.cell? ⟨b, oa + 6, none⟩ = some (.int .i64 a.rack) ∧ Below W0.heap.size W0 W' := by
  obtain ⟨s0, s1, s2, s3, s4, s5, s6, s7, s8, s9, s10, s11, s12, s13, s16⟩ := h
  exact ⟨(bcell hb (cell_lt s0) _).trans s0, (bcell hb (cell_lt s1) _).trans s1, (bcell hb (cell_lt s2) _).trans s2, (bcell hb (cell_lt s3) _).trans s3, (bcell hb (cell_lt s4) _).trans s4, (bcell hb (cell_lt s5) _).trans s5, (bcell hb (cell_lt s6) _).trans s6, (bcell hb (cell_lt s7) _).trans s7, (bcell hb (cell_lt s8) _).trans s8, (bcell hb (cell_lt s9) _).trans s9, (bcell hb (cell_lt s10) _).trans s10, (bcell hb (cell_lt s11) _).trans s11, (bcell hb (cell_lt s12) _).trans s12, (bcell hb (cell_lt s13) _).trans s13, s16.trans (hb.mono s16.size)⟩
theorem two_at {W0 : World} {b ox oa : Nat} {x a : Ins} (hx : InsAt W0 b ox x) (ha : InsAt W0 b oa a) : W0.cell? ⟨b, ox, none⟩ = some (.int .u8 x.op) ∧ W0.cell? ⟨b, ox + 1, none⟩ = some (.bool x.right) ∧ W0.cell? ⟨b, ox + 2, none⟩ = some (.int .u8 x.bed) ∧ W0.cell? ⟨b, ox + 3, none⟩ = some (.int .i64 x.at_) ∧ W0.cell? ⟨b, ox + 4, none⟩ = some (.int .i64 x.to_) ∧ W0.cell? ⟨b, ox + 5, none⟩ = some (.int .i64 x.car) ∧ W0.cell? ⟨b, ox + 6, none⟩ = some (.int .i64 x.rack) ∧ W0.cell? ⟨b, oa, none⟩ = some (.int .u8 a.op) ∧ W0.cell? ⟨b, oa + 1, none⟩ = some (.bool a.right) ∧ W0.cell? ⟨b, oa + 2, none⟩ = some (.int .u8 a.bed) ∧ W0.cell? ⟨b, oa + 3, none⟩ = some (.int .i64 a.at_) ∧ W0.cell? ⟨b, oa + 4, none⟩ = some (.int .i64 a.to_) ∧ W0.cell? ⟨b, oa + 5, none⟩ = some (.int .i64 a.car) ∧ W0.cell? ⟨b, oa + 6, none⟩ = some (.int .i64 a.rack) ∧ Below W0.heap.size W0 W0 := by
  obtain ⟨s0, s1, s2, s3, s4, s5, s6⟩ := hx
  obtain ⟨t0, t1, t2, t3, t4, t5, t6⟩ := ha
  exact ⟨s0, s1, s2, s3, s4, s5, s6, t0, t1, t2, t3, t4, t5, t6, Below.refl _ _⟩
end Go.Proofs.Ytbnddpknejgmhaa
