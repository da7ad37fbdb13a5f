/- Layer 26: Clone of stitches. -/
import Derived.Test.YtbnddpknejgmhaaCo1
import Derived.Test.YtbnddpknejgmhaaFlat
namespace Go.Proofs.Ytbnddpknejgmhaa
open Go.RowKit Go.Shelf
set_option maxRecDepth 100000

theorem info_stc : (Try.prog.info? 56).map (fun i => (i.zero, i.size, i.bytes)) = some (some (.agg #[.int .u8 0, .bool false, .int .i64 0, .int .i64 0]), 4, 24) := by kernel_rfl
theorem cells4 (l : List Stc) : ∀ cs ∈ l.map Stc.cells, cs.length = 4 := by
  intro cs h
  obtain ⟨s, _, rfl⟩ := List.mem_map.1 h
  rfl
theorem one4 (l : List Stc) : ∀ u ∈ (l.map Stc.cells).flatten, u.oneCell' = true := by
  intro u hu
  obtain ⟨cs, hcs, hu⟩ := List.mem_flatten.1 hu
  obtain ⟨s, _, rfl⟩ := List.mem_map.1 hcs
  simp only [Stc.cells, List.mem_cons, List.not_mem_nil, or_false] at hu
  rcases hu with rfl | rfl | rfl | rfl <;> rfl
theorem eql_some (ad : Addr) (n c : Nat) (W : World) : (binOp .eql 57 (.slice (some ad) n c) (.slice none 0 0)).run Try.prog W = .ok (.bool false) W := by kernel_rfl
theorem eql_none (n c : Nat) (W : World) : (binOp .eql 57 (.slice none n c) (.slice none 0 0)).run Try.prog W = .ok (.bool true) W := by kernel_rfl
def stcOut (l : List Stc) (w : World) (e : Ending) (w' : World) : Prop := ∃ A c, e = .returned (.slice A l.length c) ∧ SlT w' w'.heap.size A l ∧ Below w.heap.size w w' ∧ (l ≠ [] → ∀ ad, A = some ad → w.heap.size ≤ ad.block)
set_option maxHeartbeats 1000000 in
theorem clone_any (A : Option Addr) (c : Nat) (l : List Stc) (hn : l.length ≤ 1000000) (w : World) (hs : SlT w w.heap.size A l) :
    Calls Try.prog 54 #[.slice A l.length c] w fun e w' => stcOut l w e w' := by
  obtain ⟨i0, hi, hz0, hz1, hz2⟩ := info_parts info_stc
  cases A with
  | none =>
    have hl : l = [] := by
      cases l with
      | nil => rfl
      | cons a t =>
        obtain ⟨b, off, e, _⟩ := hs (by simp)
        cases e
    subst hl
    have HO : Hid (∀ A c, stcOut [] w (.returned (.slice A 0 c)) w) := fun A c => ⟨A, c, rfl, SlT.nil, Below.refl _ _, fun h => absurd rfl h⟩
    clear hs
    rw [List.length_nil]
    have hq := eql_none 0 c
    go_enter Try.func54, Try.ntmps54
    go_wp2
    go_ret
    exact HO.out _ _
  | some ad =>
    have hnews : ∀ j u, (l.map Stc.cells).flatten[j]? = some u → (w.alloc (.cells #[] 56)).cell? (ad.add j) = some u := by
      intro j u hu
      have hne : l.map Stc.cells ≠ [] := fun e => by rw [e] at hu; simp at hu
      obtain ⟨b, off, e, hB, _⟩ := hs hne
      cases e
      have h1 := SlS.flat (cells4 l) hs j u hu
      exact (World.cell?_alloc_lt w _ _ (by have e : ((⟨b, off, none⟩ : Addr).add j).block = b := by unfold Addr.add; split <;> rfl
                                            rw [e]; exact hB)).trans h1
    have HN := Lib.hid hnews
    have hlen : (l.map Stc.cells).flatten.length = l.length * 4 := by rw [flat_len (cells4 l), List.length_map]
    have HL := Lib.hid hlen
    clear hs hnews hlen
    have hq := eql_some ad l.length c
    go_enter Try.func54, Try.ntmps54
    go_wp2_with (at_builtin; refine wpList_append_own _ rfl _ _ 57 rfl w.heap.size 56 i0 (.agg #[.int .u8 0, .bool false, .int .i64 0, .int .i64 0]) 4 24 Try.underlying57 hi hz0 hz1 hz2 rfl (by decide) _ 0 [] rfl (World.ownsRow_lit w #[] 0 (Nat.le_refl _) (by decide) rfl) ad l.length c (l.map Stc.cells).flatten rfl HL.out HN.out (one4 l) (by unfold maxLen; omega) (by omega) (by simp) ?_; intro v' w1 hown' hgrow _; have HOw := Lib.hid hown'; have HG := Lib.hid hgrow; clear hown' hgrow)
    have ho := HOw.out
    rw [Nat.zero_add, List.nil_append] at ho
    obtain ⟨a2, c2, rfl, _⟩ := own_slice ho
    have hT : SlT w1 w1.heap.size a2 l := SlS.of_own (cells4 l) (by rw [List.length_map]) ho
    have hB : Below w.heap.size w w1 := ((Below.refl _ w).alloc (Nat.le_refl _) _).grown HG.out (by simp) (fun k e => by cases e; exact Nat.le_refl _)
    have HO := Lib.hid (show stcOut l w (.returned (.slice a2 l.length c2)) w1 from ⟨a2, c2, rfl, hT, hB, fun _ ad had => (ho.lt ad.block (by rw [had]; rfl)).1⟩)
    clear ho hT hB HOw HG
    go_ret
    exact HO.out
end Go.Proofs.Ytbnddpknejgmhaa
