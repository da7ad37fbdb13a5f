/- slices.AppendSeq, Collect of slices.Values at ints. -/
import Derived.Test.YtodjkifcbgmckaaVal
import Derived.Test.YtodjkifcbgmckaaMem
namespace Go.Proofs.Ytodjkifcbgmckaa
open Go.RowKit Go.Shelf
attribute [local go_sem] Oper.semAt_some
set_option maxRecDepth 100000

def intV (l : List Int) : List Value := l.map (Value.int .i64)
theorem info_int' : (Try.prog.info? 3).map (fun i => (i.zero, i.size, i.bytes)) = some (some (.int .i64 0), 1, 8) := by kernel_rfl
/-- What holds between the rounds of AppendSeq's. -/
def SeqI (w : World) (ob : Nat) (N : Nat) (pre : List Int) (W : World) : Prop :=
  ∃ vo, Below w.heap.size w W ∧ ob < W.heap.size ∧ (W.cell? ⟨ob, 0, none⟩ = some vo ∧ W.frozen? ⟨ob, 0, none⟩ = false) ∧ W.ownsRow w.heap.size 3 1 vo pre.length (intV pre) ∧ vo.ownBlock ≠ some ob ∧ pre.length ≤ N
theorem SeqI.from (w : World) (ob N : Nat) (B3 : Nat) (hB : w.heap.size ≤ B3) : OwnFrom B3 (SeqI w ob N) := by
  rintro pre W W' row ⟨vo, h1, h2, ⟨h3, h4⟩, h5, h6, h8⟩ hg hr
  have hr' : ∀ r, row = some r → ∃ o : Obj, W.heap[r]? = some o ∧ o.isCells = false := fun r e => (hr r e).2
  refine ⟨vo, h1.grown hg h1.size (fun k e => Nat.le_trans hB (hr k e).1), Nat.lt_of_lt_of_le h2 hg.size, ⟨cell_kept h3 hg hr', (frozen_kept h3 hg hr').trans h4⟩, h5.kept hg ?_, h6, h8⟩
  cases row with
  | none =>
    cases hv : vo.ownBlock with
    | none => exact Or.inl rfl
    | some g => exact Or.inr (by simp)
  | some r =>
    refine Or.inr fun e => ?_
    obtain ⟨o, ho, hc⟩ := hr' r rfl
    rcases h5.2 with ⟨rfl, _⟩ | ⟨g, cap, cur, rfl, _, hh, _⟩
    · cases e
    · cases e
      rw [hh] at ho; cases ho; cases hc
theorem intV_snoc (l : List Int) (x : Int) : intV (l ++ [x]) = intV l ++ [.int .i64 x] := by simp [intV]
/-- A round: an append, and the slice stored into its box. -/
theorem seq_round {w W w6 : World} {ob N B3 : Nat} {pre : List Int} {x : Int} {vo vo' : Value} {o : Obj} (hwo : w.heap.size ≤ ob) (hB3 : ob < B3) (hB : Below w.heap.size w W) (hz : ob < W.heap.size)
    (hc : W.cell? ⟨ob, 0, none⟩ = some vo) (hf : W.frozen? ⟨ob, 0, none⟩ = false) (hown : W.ownsRow w.heap.size 3 1 vo pre.length (intV pre)) (hne : vo.ownBlock ≠ some ob) (hlen : pre.length < N)
    (h6 : (W.alloc o).grownBy w6 vo.ownBlock) (hat : vo'.ownBlock = vo.ownBlock ∨ vo'.ownBlock = some (W.alloc o).heap.size) (ho6 : w6.ownsRow w.heap.size 3 1 vo' (pre.length + 1) (intV pre ++ [.int .i64 x])) :
    KeepsFrom B3 W (w6.setCell ⟨ob, 0, none⟩ vo') ∧ Below w.heap.size W (w6.setCell ⟨ob, 0, none⟩ vo') ∧ SeqI w ob N (pre ++ [x]) (w6.setCell ⟨ob, 0, none⟩ vo') := by
  have hvlt : ∀ g, vo.ownBlock = some g → w.heap.size ≤ g ∧ g < W.heap.size := fun g e => hown.lt g e
  have hz6 := h6.size
  rw [World.size_alloc] at hz6 hat
  have hgc : ∀ g o, vo.ownBlock = some g → W.heap[g]? = some o → o.isCells = true := fun g o e hg => by
    rcases hown.2 with ⟨rfl, _⟩ | ⟨g', cap, cur, rfl, _, hh, _⟩
    · cases e
    · cases e; rw [hh] at hg; cases hg; rfl
  have hb : Below w.heap.size W (w6.setCell ⟨ob, 0, none⟩ vo') := (((Below.refl _ W).alloc hB.size o).grown h6 (by have := hB.size; simp; omega) (fun k e => (hvlt k e).1)).setCell (p := ⟨ob, 0, none⟩) hwo _
  have hc6 : W.heap[ob]? = w6.heap[ob]? := by
    rw [h6.block ob (by simp; omega) (fun e => hne e.symm)]
    exact (((Below.refl W.heap.size W).alloc (Nat.le_refl _) o).block ob hz).symm
  refine ⟨⟨by simp only [World.size_setCell]; omega, fun k o' hk hko ho' => ?_⟩, hb, vo', hB.trans hb, by simp only [World.size_setCell]; omega, ⟨?_, ?_⟩, ?_, ?_, ?_⟩
  · have hkl := (Array.getElem?_eq_some_iff.1 hko).1
    have e6 := ((Below.refl W.heap.size W).alloc (Nat.le_refl _) o).block k hkl
    have e7 := h6.block k (by simp; omega) (fun e => by rw [hgc k o' e.symm hko] at ho'; cases ho')
    have e8 := (grown_setAt w6 ob 0 vo').block k (by omega) (fun e => by cases e; omega)
    rw [e8, e7, e6]; exact hko
  · exact World.cell?_setCell_same' _ _ _ (by rw [World.cell?_of_block (a := ⟨ob, 0, none⟩) (w := W) hc6.symm, hc]; rfl)
  · rw [World.frozen?_setCell, World.frozen?_of_block (a := ⟨ob, 0, none⟩) (w := W) hc6.symm]; exact hf
  · rw [List.length_append, intV_snoc]
    refine ho6.kept (grown_setAt w6 ob 0 vo') (Or.inr fun e => ?_)
    rcases hat with h | h
    · exact hne (by rw [← h]; exact e)
    · rw [h] at e; have := Option.some.inj e; omega
  · intro e
    rcases hat with h | h
    · exact hne (by rw [← h]; exact e)
    · rw [h] at e; have := Option.some.inj e; omega
  · rw [List.length_append]; simp; omega
set_option maxHeartbeats 4000000 in
theorem appendSeq_any (Bs : Nat) (A : Option Addr) (c : Nat) (zs : List Int) (hl : zs.length ≤ 1000000) (w : World) (hBs : Bs < w.heap.size) (hc0 : w.cell? ⟨Bs, 0, none⟩ = some (.slice A zs.length c)) (hs : SlI w w.heap.size A zs) :
    Calls Try.prog 64 #[.slice none 0 0, .func (.func 62) #[] #[.pointer (some ⟨Bs, 0, none⟩)]] w fun e w' => ∃ v, e = .returned v ∧ w'.ownsRow w.heap.size 3 1 v zs.length (intV zs) ∧ Below w.heap.size w w' := by
  obtain ⟨i0, hi, hz0, hz1, hz2⟩ := info_parts info_int'
  have HS := Lib.hid hs
  refine (callsIn_wide (n := 3)).1 ?_
  refine callsIn_of_wp_marks Try.func64 rfl trivial ?_ rfl
  simp only [Try.ntmps64, List.size_toArray, List.length_cons, List.length_nil, Nat.reduceAdd, Nat.reduceSub, Array.replicate_succ, Array.replicate_zero, List.push_toArray, List.append_toArray, List.nil_append, List.cons_append]
  gi_wp2
  refine abs_world (Q := fun W => Code.wpIn _ _ _ _ _ _ W) (F := fun W => W.heap.size = w.heap.size + 1 ∧ Below w.heap.size w W ∧ SeqI w w.heap.size zs.length [] W) _ ?_ ?_
  · have hb := (Below.refl w.heap.size w).alloc (Nat.le_refl _) (.cells #[.slice none 0 0] 22)
    exact ⟨by simp, hb, .slice none 0 0, hb, by simp, ⟨cell_new rfl rfl rfl, thawed_new' _ _ _ 0 rfl⟩, World.ownsRow_nil _ _ _ _, (fun e => by cases e), Nat.zero_le _⟩
  rintro w3 ⟨hz3, hB3, hI3⟩
  have HI3 := Lib.hid hI3
  clear hI3
  refine wpIn_rangeFunc_ownH rfl (by omega) (gf := 62) (lb := #[.pointer (some ⟨Bs, 0, none⟩)]) rfl trivial (enters_of Try.func62 (by kernel_rfl) rfl)
    (values_stops (3 - 1) (by omega) Bs w.heap.size A c zs hl w3 (by omega) (by omega) ((bcell hB3 hBs _).trans hc0) (HS.out.below hB3)) belowK_t (belowK_b (by omega)) (Below.refl _ _) (fun _ => rfl)
    (SeqI w w.heap.size zs.length) (fun _ _ _ => False)
    (SeqI.from w w.heap.size zs.length _ (by omega))
    (fun _ _ _ _ _ hs _ _ => hs)
    HI3.out
    (fun (x : Int) (a' : Act) (_ : World) => a' = { tmps := #[.slice none 0 0, .func (.func 62) #[] #[.pointer (some ⟨Bs, 0, none⟩)], .pointer (some ⟨w.heap.size, 0, none⟩), undef, .slice none 0 0, .int .i64 x, .func (.func 62) #[] #[.pointer (some ⟨Bs, 0, none⟩)], .int .i64 x, undef, undef, undef, undef, undef], defers := [] })
    (fun _ _ _ _ _ _ h _ _ => h) ?assign ?body ?done ?stop
  case assign =>
    intro l2 pre x W K hI hK
    unfold encI1
    gi_wp2
    exact hK _ _ (KeepsFrom.refl _ _) (Below.refl _ _) hI rfl
  case body =>
    rintro l2 pre x a' W hl2 hrec ⟨vo, hB, hz, ⟨hc, hf⟩, hown, hne, hN⟩ rfl hpre
    have uc := fun o => cell_al hc o
    have vf := fun o => (Below.frozen ((Below.refl W.heap.size W).alloc (Nat.le_refl _) o) (p := ⟨w.heap.size, 0, none⟩) (lt_of_cell hc)).trans hf
    have HO := Lib.hid hown
    have HB := Lib.hid (show _ ∧ _ ∧ _ from ⟨hB, hc, hf⟩)
    have hwz := hB.size
    clear hown hB
    gi_wp2_with (gi_at_builtin; refine wpListIn_append_own_at _ rfl _ _ 22 rfl w.heap.size 3 i0 (.int .i64 0) 1 8 Try.underlying22 hi hz0 hz1 hz2 rfl (by decide) vo pre.length (intV pre) rfl (HO.out.alloc _) ⟨W.heap.size, 0, none⟩ 1 1 [.int .i64 x] rfl rfl (newsT W _ _ _ rfl) (by intro v hv; rw [List.mem_singleton.1 hv]; rfl) (by unfold maxLen; omega) (by omega) (by simp; omega) ?_; intro v' w6 hown6 hgrow6 _ hat6; have HT := Lib.hid (seq_round (Nat.le_refl _) (show w.heap.size < w3.heap.size by omega) HB.out.1 hz HB.out.2.1 HB.out.2.2 HO.out hne hpre hgrow6 hat6 hown6); have hc6 : w6.cell? ⟨w.heap.size, 0, none⟩ = some vo := (World.cell?_of_block (hgrow6.block w.heap.size (lt_of_cell (uc _)) (fun e => hne e.symm))).trans (uc _); have hf6 : w6.frozen? ⟨w.heap.size, 0, none⟩ = false := (World.frozen?_of_block (hgrow6.block w.heap.size (lt_of_cell (uc _)) (fun e => hne e.symm))).trans (vf _); obtain ⟨a9, c9, rfl, hc9⟩ := own_slice hown6; clear hown6 hgrow6 hat6)
    exact HT.out
  case done =>
    rintro D xs W hD rfl ⟨vo, hB, hz, ⟨hc, hf⟩, hown, hne, hN⟩ hK
    have HOwn := Lib.hid hown
    have HB := Lib.hid hB
    clear hown hB
    gi_wp2
    refine ⟨by simp, .inl ⟨_, _, rfl, run_takeDeferred hK, ?_⟩⟩
    have hk : (W.putObj D (.deferred none)).ownsRow w.heap.size 3 1 vo xs.length (intV xs) := HOwn.out.kept (grownBy_putObj' W D _) (by
      cases hv : vo.ownBlock with
      | none => exact Or.inl rfl
      | some g =>
        refine Or.inr fun e => ?_
        rcases HOwn.out.2 with ⟨hv2, _⟩ | ⟨g', cap, cur, hv2, _, hh, _⟩
        · rw [hv2] at hv; cases hv
        · rw [hv2] at hv; cases hv; cases e
          rw [hh] at hK; cases hK)
    exact ⟨_, results_tmp rfl _ _ _, vo, rfl, hk, HB.out.trans (belowK_b (w := w) (Nat.le_refl _) W D _ _ (by omega) hK rfl rfl)⟩
  case stop =>
    rintro D c' pre W _ _ h _
    exact h.elim
end Go.Proofs.Ytodjkifcbgmckaa
