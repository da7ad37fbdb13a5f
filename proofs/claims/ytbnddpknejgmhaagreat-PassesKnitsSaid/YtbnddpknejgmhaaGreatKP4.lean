/- slices.Values, AppendSeq, Collect at ints. slices.AppendSeq, Collect of slices.Values at ints. slices.Sorted of slices.Values, Compact of it, at ints. bed.distinct: numbers pairwise different, and within bounds. bed.distinct walked. -/
import Derived.Test.YtbnddpknejgmhaaGreatKP3
import Derived.Test.YtbnddpknejgmhaaGreatKP1
import Derived.Maps.OwnIn
import Derived.Laws.OwnMore
import Derived.Test.YtbnddpknejgmhaaGreatShelf
import Derived.Lib.SlKeysI
import Derived.Sort.OwnSorted
import Derived.Lib.SlicesCompact
namespace Go.Proofs.YtbnddpknejgmhaaGreat
open Go.RowKit Go.Shelf
attribute [local go_sem] Oper.semAt_some
set_option maxRecDepth 100000

theorem values_any (A : Option Addr) (n c : Nat) (w : World) :
    Calls Tryz.prog 88 #[.slice A n c] w fun e w' => e = .returned (.func (.func 112) #[] #[.pointer (some ⟨w.heap.size, 0, none⟩)]) ∧ w.alloc (.cells #[.slice A n c] 43) = w' := by
  have hmf : ∀ (fn : Fn) (first cap : Array Value) (w : World), (Instr.makeFunc fn first cap).run Tryz.prog w = .ok (.func fn first cap) w := fun _ _ _ _ => rfl
  go_enter Tryz.func88, Tryz.ntmps88
  go_wp2
  go_ret
  exact ⟨rfl, rfl⟩
def encI1 (x : Int) : Array Value := #[.int .i64 x]
set_option maxHeartbeats 4000000 in
theorem values_stops (n : Nat) (hn : 1 ≤ n) (Bs n₀ : Nat) (A : Option Addr) (c : Nat) (zs : List Int) (hpl : zs.length ≤ 1000000) (w : World) (hBs : Bs < w.heap.size) (hn0 : n₀ ≤ w.heap.size)
    (hc0 : w.cell? ⟨Bs, 0, none⟩ = some (.slice A zs.length c)) (hs : SlI w n₀ A zs) :
    SeqStopsK Fence.wide n Tryz.prog 112 #[.pointer (some ⟨Bs, 0, none⟩)] encI1 (Below n₀) (fun xs => xs = zs) (fun _ => True) zs.length w := by
  intro l J Jx W hW hJ hJx hY h0
  have hcW0 := (hW.cell (p := ⟨Bs, 0, none⟩) hBs).trans hc0
  have hsW : SlI W n₀ A zs := hs.below (hW.mono (by omega))
  clear hc0 hs hW hBs
  have HY := Lib.hid hY
  have HJ := Lib.hid hJ
  clear hY hJ hJx
  refine callsIn_of_wp Tryz.func112 rfl trivial ?_ rfl
  simp only [Tryz.ntmps112, List.size_toArray, List.length_cons, List.length_nil, Nat.reduceAdd, Nat.reduceSub, Array.replicate_succ, Array.replicate_zero, List.push_toArray, List.append_toArray, List.nil_append, List.cons_append]
  gi_wp2
  gi_loopw [4, 7] (fun s4 s7 wr => ∃ (k : Nat) (v4 : Value), k ≤ zs.length ∧ s7 = .int .i64 (k : Int) ∧ v4 = s4 ∧ Hid (J (zs.take k) wr) ∧ SlI wr n₀ A zs) (fun _ s7 _ => zs.length - (intOf s7).toNat)
  case atStart => exact ⟨0, _, Nat.zero_le _, rfl, rfl, h0, hsW⟩
  case round =>
    obtain ⟨k, v4, hk, rfl, rfl, HJs, hsr⟩ := hrel
    clear hcW0 hsW h0
    by_cases hlt : k < zs.length
    · obtain ⟨b, off, x, rfl, hB, hr, hcx⟩ := hsr.at_ hlt
      have hx : zs.take (k + 1) = zs.take k ++ [x] := by
        obtain ⟨hk', e⟩ := List.getElem?_eq_some_iff.1 hr
        rw [List.take_succ_eq_append_getElem hk', e]
      obtain ⟨fn, tmps, assign, body, hy, hR⟩ := HY.out _ x _ HJs.out (by rw [List.length_take]; omega)
      unfold encI1 at hy
      rw [← hx] at hR
      have HS := Lib.hid hsr
      clear hsr HJs hr hx
      gi_wp2
      refine hR.mono ?_
      rintro e W3 (⟨rfl, hJ3, hk3⟩ | ⟨rfl, hJx3⟩)
      · have HJ3 := Lib.hid hJ3
        have HS3 := Lib.hid (HS.out.below hk3)
        clear hk3 hJ3 hcx
        gi_wp2
        go_roundw
        case rel => exact ⟨k + 1, _, by omega, by go_num, rfl, HJ3, HS3.out⟩
        case measure => simp [intOf]; omega
      · gi_wp2
        refine bodyPost_ret (results_none rfl _ _ _) rfl ?_
        exact ⟨⟨_, rfl⟩, .inr ⟨_, trivial, hJx3⟩⟩
    · obtain rfl : k = zs.length := by omega
      have HF : Hid (J zs wr) := by have := HJs.out; rwa [List.take_length] at this
      clear hsr HJs
      gi_wp2
      go_end0
      exact ⟨⟨_, rfl⟩, .inl ⟨_, rfl, HF.out⟩⟩
end Go.Proofs.YtbnddpknejgmhaaGreat
namespace Go.Proofs.YtbnddpknejgmhaaGreat
open Go.RowKit Go.Shelf
attribute [local go_sem] Oper.semAt_some
set_option maxRecDepth 100000

def intV (l : List Int) : List Value := l.map (Value.int .i64)
theorem info_int' : (Tryz.prog.info? 3).map (fun i => (i.zero, i.size, i.bytes)) = some (some (.int .i64 0), 1, 8) := by kernel_rfl
/-- What holds between the rounds of AppendSeq's. -/
def SeqI (w : World) (ob : Nat) (N : Nat) (pre : List Int) (W : World) : Prop :=
  ∃ vo, Below w.heap.size w W ∧ ob < W.heap.size ∧ (W.cell? ⟨ob, 0, none⟩ = some vo ∧ W.frozen? ⟨ob, 0, none⟩ = false) ∧ W.ownsRow w.heap.size 3 1 vo pre.length (intV pre) ∧ vo.ownBlock ≠ some ob ∧ pre.length ≤ N
theorem SeqI.from (w : World) (ob N : Nat) (B3 : Nat) (hB : w.heap.size ≤ B3) : OwnFrom B3 (SeqI w ob N) := by
  rintro pre W W' row ⟨vo, h1, h2, ⟨h3, h4⟩, h5, h6, h8⟩ hg hr
  have hr' : ∀ r, row = some r → ∃ o : Obj, W.heap[r]? = some o ∧ o.isCells = false := fun r e => (hr r e).2
  refine ⟨vo, h1.grown hg h1.size (fun k e => Nat.le_trans hB (hr k e).1), Nat.lt_of_lt_of_le h2 hg.size, ⟨cell_kept h3 hg hr', (frozen_kept h3 hg hr').trans h4⟩, h5.kept hg ?_, h6, h8⟩
  cases row with
  | none =>
    cases hv : vo.ownBlock with
    | none => exact Or.inl rfl
    | some g => exact Or.inr (by simp)
  | some r =>
    refine Or.inr fun e => ?_
    obtain ⟨o, ho, hc⟩ := hr' r rfl
    rcases h5.2 with ⟨rfl, _⟩ | ⟨g, cap, cur, rfl, _, hh, _⟩
    · cases e
    · cases e
      rw [hh] at ho; cases ho; cases hc
theorem intV_snoc (l : List Int) (x : Int) : intV (l ++ [x]) = intV l ++ [.int .i64 x] := by simp [intV]
/-- A round: an append, and the slice stored into its box. -/
theorem seq_round {w W w6 : World} {ob N B3 : Nat} {pre : List Int} {x : Int} {vo vo' : Value} {o : Obj} (hwo : w.heap.size ≤ ob) (hB3 : ob < B3) (hB : Below w.heap.size w W) (hz : ob < W.heap.size)
    (hc : W.cell? ⟨ob, 0, none⟩ = some vo) (hf : W.frozen? ⟨ob, 0, none⟩ = false) (hown : W.ownsRow w.heap.size 3 1 vo pre.length (intV pre)) (hne : vo.ownBlock ≠ some ob) (hlen : pre.length < N)
    (h6 : (W.alloc o).grownBy w6 vo.ownBlock) (hat : vo'.ownBlock = vo.ownBlock ∨ vo'.ownBlock = some (W.alloc o).heap.size) (ho6 : w6.ownsRow w.heap.size 3 1 vo' (pre.length + 1) (intV pre ++ [.int .i64 x])) :
    KeepsFrom B3 W (w6.setCell ⟨ob, 0, none⟩ vo') ∧ Below w.heap.size W (w6.setCell ⟨ob, 0, none⟩ vo') ∧ SeqI w ob N (pre ++ [x]) (w6.setCell ⟨ob, 0, none⟩ vo') := by
  have hvlt : ∀ g, vo.ownBlock = some g → w.heap.size ≤ g ∧ g < W.heap.size := fun g e => hown.lt g e
  have hz6 := h6.size
  rw [World.size_alloc] at hz6 hat
  have hgc : ∀ g o, vo.ownBlock = some g → W.heap[g]? = some o → o.isCells = true := fun g o e hg => by
    rcases hown.2 with ⟨rfl, _⟩ | ⟨g', cap, cur, rfl, _, hh, _⟩
    · cases e
    · cases e; rw [hh] at hg; cases hg; rfl
  have hb : Below w.heap.size W (w6.setCell ⟨ob, 0, none⟩ vo') := (((Below.refl _ W).alloc hB.size o).grown h6 (by have := hB.size; simp; omega) (fun k e => (hvlt k e).1)).setCell (p := ⟨ob, 0, none⟩) hwo _
  have hc6 : W.heap[ob]? = w6.heap[ob]? := by
    rw [h6.block ob (by simp; omega) (fun e => hne e.symm)]
    exact (((Below.refl W.heap.size W).alloc (Nat.le_refl _) o).block ob hz).symm
  refine ⟨⟨by simp only [World.size_setCell]; omega, fun k o' hk hko ho' => ?_⟩, hb, vo', hB.trans hb, by simp only [World.size_setCell]; omega, ⟨?_, ?_⟩, ?_, ?_, ?_⟩
  · have hkl := (Array.getElem?_eq_some_iff.1 hko).1
    have e6 := ((Below.refl W.heap.size W).alloc (Nat.le_refl _) o).block k hkl
    have e7 := h6.block k (by simp; omega) (fun e => by rw [hgc k o' e.symm hko] at ho'; cases ho')
    have e8 := (grown_setAt w6 ob 0 vo').block k (by omega) (fun e => by cases e; omega)
    rw [e8, e7, e6]; exact hko
  · exact World.cell?_setCell_same' _ _ _ (by rw [World.cell?_of_block (a := ⟨ob, 0, none⟩) (w := W) hc6.symm, hc]; rfl)
  · rw [World.frozen?_setCell, World.frozen?_of_block (a := ⟨ob, 0, none⟩) (w := W) hc6.symm]; exact hf
  · rw [List.length_append, intV_snoc]
    refine ho6.kept (grown_setAt w6 ob 0 vo') (Or.inr fun e => ?_)
    rcases hat with h | h
    · exact hne (by rw [← h]; exact e)
    · rw [h] at e; have := Option.some.inj e; omega
  · intro e
    rcases hat with h | h
    · exact hne (by rw [← h]; exact e)
    · rw [h] at e; have := Option.some.inj e; omega
  · rw [List.length_append]; simp; omega
set_option maxHeartbeats 4000000 in
theorem appendSeq_any (Bs : Nat) (A : Option Addr) (c : Nat) (zs : List Int) (hl : zs.length ≤ 1000000) (w : World) (hBs : Bs < w.heap.size) (hc0 : w.cell? ⟨Bs, 0, none⟩ = some (.slice A zs.length c)) (hs : SlI w w.heap.size A zs) :
    Calls Tryz.prog 123 #[.slice none 0 0, .func (.func 112) #[] #[.pointer (some ⟨Bs, 0, none⟩)]] w fun e w' => ∃ v, e = .returned v ∧ w'.ownsRow w.heap.size 3 1 v zs.length (intV zs) ∧ Below w.heap.size w w' := by
  obtain ⟨i0, hi, hz0, hz1, hz2⟩ := info_parts info_int'
  have HS := Lib.hid hs
  refine (callsIn_wide (n := 3)).1 ?_
  refine callsIn_of_wp_marks Tryz.func123 rfl trivial ?_ rfl
  simp only [Tryz.ntmps123, List.size_toArray, List.length_cons, List.length_nil, Nat.reduceAdd, Nat.reduceSub, Array.replicate_succ, Array.replicate_zero, List.push_toArray, List.append_toArray, List.nil_append, List.cons_append]
  gi_wp2
  refine abs_world (Q := fun W => Code.wpIn _ _ _ _ _ _ W) (F := fun W => W.heap.size = w.heap.size + 1 ∧ Below w.heap.size w W ∧ SeqI w w.heap.size zs.length [] W) _ ?_ ?_
  · have hb := (Below.refl w.heap.size w).alloc (Nat.le_refl _) (.cells #[.slice none 0 0] 43)
    exact ⟨by simp, hb, .slice none 0 0, hb, by simp, ⟨cell_new rfl rfl rfl, thawed_new' _ _ _ 0 rfl⟩, World.ownsRow_nil _ _ _ _, (fun e => by cases e), Nat.zero_le _⟩
  rintro w3 ⟨hz3, hB3, hI3⟩
  have HI3 := Lib.hid hI3
  clear hI3
  refine wpIn_rangeFunc_ownH rfl (by omega) (gf := 112) (lb := #[.pointer (some ⟨Bs, 0, none⟩)]) rfl trivial (enters_of Tryz.func112 (by kernel_rfl) rfl)
    (values_stops (3 - 1) (by omega) Bs w.heap.size A c zs hl w3 (by omega) (by omega) ((bcell hB3 hBs _).trans hc0) (HS.out.below hB3)) belowK_t (belowK_b (by omega)) (Below.refl _ _) (fun _ => rfl)
    (SeqI w w.heap.size zs.length) (fun _ _ _ => False)
    (SeqI.from w w.heap.size zs.length _ (by omega))
    (fun _ _ _ _ _ hs _ _ => hs)
    HI3.out
    (fun (x : Int) (a' : Act) (_ : World) => a' = { tmps := #[.slice none 0 0, .func (.func 112) #[] #[.pointer (some ⟨Bs, 0, none⟩)], .pointer (some ⟨w.heap.size, 0, none⟩), undef, .slice none 0 0, .int .i64 x, .func (.func 112) #[] #[.pointer (some ⟨Bs, 0, none⟩)], .int .i64 x, undef, undef, undef, undef, undef], defers := [] })
    (fun _ _ _ _ _ _ h _ _ => h) ?assign ?body ?done ?stop
  case assign =>
    intro l2 pre x W K hI hK
    unfold encI1
    gi_wp2
    exact hK _ _ (KeepsFrom.refl _ _) (Below.refl _ _) hI rfl
  case body =>
    rintro l2 pre x a' W hl2 hrec ⟨vo, hB, hz, ⟨hc, hf⟩, hown, hne, hN⟩ rfl hpre
    have uc := fun o => cell_al hc o
    have vf := fun o => (Below.frozen ((Below.refl W.heap.size W).alloc (Nat.le_refl _) o) (p := ⟨w.heap.size, 0, none⟩) (lt_of_cell hc)).trans hf
    have HO := Lib.hid hown
    have HB := Lib.hid (show _ ∧ _ ∧ _ from ⟨hB, hc, hf⟩)
    have hwz := hB.size
    clear hown hB
    gi_wp2_with (gi_at_builtin; refine wpListIn_append_own_at _ rfl _ _ 43 rfl w.heap.size 3 i0 (.int .i64 0) 1 8 Tryz.underlying43 hi hz0 hz1 hz2 rfl (by decide) vo pre.length (intV pre) rfl (HO.out.alloc _) ⟨W.heap.size, 0, none⟩ 1 1 [.int .i64 x] rfl rfl (newsT W _ _ _ rfl) (by intro v hv; rw [List.mem_singleton.1 hv]; rfl) (by unfold maxLen; omega) (by omega) (by simp; omega) ?_; intro v' w6 hown6 hgrow6 _ hat6; have HT := Lib.hid (seq_round (Nat.le_refl _) (show w.heap.size < w3.heap.size by omega) HB.out.1 hz HB.out.2.1 HB.out.2.2 HO.out hne hpre hgrow6 hat6 hown6); have hc6 : w6.cell? ⟨w.heap.size, 0, none⟩ = some vo := (World.cell?_of_block (hgrow6.block w.heap.size (lt_of_cell (uc _)) (fun e => hne e.symm))).trans (uc _); have hf6 : w6.frozen? ⟨w.heap.size, 0, none⟩ = false := (World.frozen?_of_block (hgrow6.block w.heap.size (lt_of_cell (uc _)) (fun e => hne e.symm))).trans (vf _); obtain ⟨a9, c9, rfl, hc9⟩ := own_slice hown6; clear hown6 hgrow6 hat6)
    exact HT.out
  case done =>
    rintro D xs W hD rfl ⟨vo, hB, hz, ⟨hc, hf⟩, hown, hne, hN⟩ hK
    have HOwn := Lib.hid hown
    have HB := Lib.hid hB
    clear hown hB
    gi_wp2
    refine ⟨by simp, .inl ⟨_, _, rfl, run_takeDeferred hK, ?_⟩⟩
    have hk : (W.putObj D (.deferred none)).ownsRow w.heap.size 3 1 vo xs.length (intV xs) := HOwn.out.kept (grownBy_putObj' W D _) (by
      cases hv : vo.ownBlock with
      | none => exact Or.inl rfl
      | some g =>
        refine Or.inr fun e => ?_
        rcases HOwn.out.2 with ⟨hv2, _⟩ | ⟨g', cap, cur, hv2, _, hh, _⟩
        · rw [hv2] at hv; cases hv
        · rw [hv2] at hv; cases hv; cases e
          rw [hh] at hK; cases hK)
    exact ⟨_, results_tmp rfl _ _ _, vo, rfl, hk, HB.out.trans (belowK_b (w := w) (Nat.le_refl _) W D _ _ (by omega) hK rfl rfl)⟩
  case stop =>
    rintro D c' pre W _ _ h _
    exact h.elim
end Go.Proofs.YtbnddpknejgmhaaGreat
namespace Go.Proofs.YtbnddpknejgmhaaGreat
open Go.RowKit Go.Shelf Go.Sort Go.Maps
set_option maxRecDepth 100000

def sortZ (l : List Int) : List Int := l.mergeSort fun x y => decide (x ≤ y)
theorem sortZ_len (l : List Int) : (sortZ l).length = l.length := by unfold sortZ; exact List.length_mergeSort l
theorem sortZ_mem {l : List Int} {x : Int} : x ∈ sortZ l ↔ x ∈ l := by unfold sortZ; exact List.mem_mergeSort
/-- A slice that the call owns. -/
def ownI (w : World) (B : Nat) (v : Value) (l : List Int) : Prop := w.ownsRow B 3 1 v l.length (intV l)
theorem ownI.slI {w : World} {B : Nat} {a : Option Addr} {n c : Nat} {l : List Int} (h : ownI w B (.slice a n c) l) : SlI w w.heap.size a l := fun hne => by
  have hp : 0 < l.length := List.length_pos_iff.2 hne
  rcases h.2 with ⟨hv, h0⟩ | ⟨g, cap, cur, hv, hg, hh, r⟩
  · omega
  · cases hv
    refine ⟨g, 0, rfl, (Array.getElem?_eq_some_iff.1 hh).1, fun j z hz => ?_⟩
    have hlt : j < l.length := (List.getElem?_eq_some_iff.1 hz).1
    have := World.ownsRow.cellAt h j (by omega)
    rw [Nat.zero_add, this]
    unfold intV
    rw [List.getElem?_map, hz]; rfl
set_option maxHeartbeats 1000000 in
theorem collect_any (Bs : Nat) (A : Option Addr) (c : Nat) (zs : List Int) (hl : zs.length ≤ 1000000) (w : World) (hBs : Bs < w.heap.size) (hc0 : w.cell? ⟨Bs, 0, none⟩ = some (.slice A zs.length c)) (hs : SlI w w.heap.size A zs) :
    Calls Tryz.prog 110 #[.func (.func 112) #[] #[.pointer (some ⟨Bs, 0, none⟩)]] w fun e w' => ∃ v, e = .returned v ∧ ownI w' w.heap.size v zs ∧ Below w.heap.size w w' := by
  have HA := Lib.hid (appendSeq_any Bs A c zs hl w hBs hc0 hs)
  clear hs hc0
  go_enter Tryz.func110, Tryz.ntmps110
  go_wp2_with (go_at_call 123; refine HA.out.mono ?_; rintro e w1 ⟨v, rfl, hown, hb⟩)
  go_ret
  exact ⟨v, rfl, hown, hb⟩
set_option maxHeartbeats 2000000 in
theorem sorted_any (Bs : Nat) (A : Option Addr) (c : Nat) (zs : List Int) (hl : zs.length ≤ 1000000) (w : World) (hBs : Bs < w.heap.size) (hc0 : w.cell? ⟨Bs, 0, none⟩ = some (.slice A zs.length c)) (hs : SlI w w.heap.size A zs) :
    Calls Tryz.prog 87 #[.func (.func 112) #[] #[.pointer (some ⟨Bs, 0, none⟩)]] w fun e w' => ∃ v, e = .returned v ∧ ownI w' w.heap.size v (sortZ zs) ∧ Below w.heap.size w w' := by
  have HA := Lib.hid (collect_any Bs A c zs hl w hBs hc0 hs)
  clear hs hc0
  go_enter Tryz.func87, Tryz.ntmps87
  go_wp2_with fail
  refine HA.out.mono ?_
  rintro e w1 ⟨v, rfl, hown, hb⟩
  rcases hown.2 with ⟨rfl, hz⟩ | ⟨gb, cap, cur, rfl, hbase, hgb, r1, r2, r3, r4⟩
  · have hzs : zs = [] := List.eq_nil_of_length_eq_zero hz
    subst hzs
    have HB := Lib.hid hb
    have hn : sortZ [] = [] := by simp [sortZ]
    clear hown hb
    go_wp2_with fail
    refine (Tryz.slices_Sort_int_none none 0 w1).mono ?_
    rintro e w' ⟨rfl, rfl⟩
    go_wp2
    go_ret
    exact ⟨.slice none 0 0, rfl, by rw [hn]; exact World.ownsRow_nil _ _ _ _, HB.out⟩
  · have hH : Holds (Value.int .i64) w1 gb 0 zs.toArray := holds_of_block_i hgb (by simpa [intV] using r4)
    have hgl : gb < w1.heap.size := (Array.getElem?_eq_some_iff.1 hgb).1
    have cS := Tryz.slices_Sort_int gb 0 cap zs w1 hH hgl (by omega)
    have HB := Lib.hid hb
    have HR := Lib.hid (show _ ∧ _ ∧ _ ∧ _ ∧ _ from ⟨hbase, hgb, r1, r2, r3⟩)
    clear hown hb hH r4 hgb
    go_wp2_with fail
    refine cS.mono ?_
    rintro e w' ⟨rfl, nn, os, rfl⟩
    have ho : (grow (putRow (Value.int .i64) (Sort.ahead w1 nn) gb 0 (sortZ zs).toArray) os).ownsRow w.heap.size 3 1 (.slice (some ⟨gb, 0, none⟩) zs.length cap) zs.length (intV (sortZ zs)) :=
      ownsRow_sorted_i (sortZ_len zs) HR.out.1 HR.out.2.1 HR.out.2.2.1 HR.out.2.2.2.1 HR.out.2.2.2.2
    have hbb : Below w.heap.size w (grow (putRow (Value.int .i64) (Sort.ahead w1 nn) gb 0 (sortZ zs).toArray) os) := HB.out.grown (grownBy_sorted_i _) HB.out.size (fun j hj => by cases hj; exact HR.out.1)
    have HO := Lib.hid (show _ ∧ _ from ⟨ho, hbb⟩)
    clear ho hbb cS HR HB
    obtain ⟨w2, hw2⟩ : ∃ w2, w2 = grow (putRow (Value.int .i64) (Sort.ahead w1 nn) gb 0 (zs.mergeSort fun x y => decide (x ≤ y)).toArray) os := ⟨_, rfl⟩
    have HO2 : Hid (w2.ownsRow w.heap.size 3 1 (.slice (some ⟨gb, 0, none⟩) zs.length cap) zs.length (intV (sortZ zs)) ∧ Below w.heap.size w w2) := by rw [hw2]; exact HO.out
    rw [← hw2]
    clear HO hw2
    go_wp2
    go_ret
    refine ⟨_, rfl, ?_, HO2.out.2⟩
    unfold ownI
    rw [sortZ_len]
    exact HO2.out.1
end Go.Proofs.YtbnddpknejgmhaaGreat
namespace Go.Proofs.YtbnddpknejgmhaaGreat
open Go.RowKit Go.Shelf Go.Sort
set_option maxRecDepth 100000

def distB' (l : List Int) (n : Int) : Bool := decide (∀ x ∈ l, 0 ≤ x ∧ x < n) && decide l.Nodup
theorem sortZ_perm (l : List Int) : (sortZ l).Perm l := List.mergeSort_perm l _
theorem sortZ_le (l : List Int) : (sortZ l).Pairwise (· ≤ ·) := by
  have h := List.pairwise_mergeSort (le := fun x y : Int => decide (x ≤ y)) (fun a b c h1 h2 => by simp only [decide_eq_true_eq] at *; omega) (fun a b => by simp only [Bool.or_eq_true, decide_eq_true_eq]; omega) l
  exact h.imp fun h => of_decide_eq_true h
theorem get_le {s : List Int} (h : s.Pairwise (· ≤ ·)) {i j : Nat} (hij : i ≤ j) (hj : j < s.length) : s[i]'(by omega) ≤ s[j] := by
  rcases Nat.lt_or_eq_of_le hij with e | e
  · exact List.pairwise_iff_getElem.1 h i j (by omega) hj e
  · subst e; exact Int.le_refl _
theorem compact_iff (s : List Int) : (Lib.compact s).length = s.length ↔ ∀ j (h : j + 1 < s.length), s[j + 1] ≠ s[j] := by
  unfold Lib.compact Lib.compactUpTo
  rw [List.length_map]
  have hr : (List.range s.length).length = s.length := List.length_range
  constructor
  · intro h j hj
    have h1 : ((List.range s.length).filter (Lib.keeps s.toArray)).length = (List.range s.length).length := by rw [h, hr]
    have h2 := List.length_filter_eq_length_iff.1 h1 (j + 1) (List.mem_range.2 hj)
    unfold Lib.keeps at h2
    have h3 := of_decide_eq_true h2
    rw [Nat.add_sub_cancel, getElem!_pos s.toArray (j + 1) (by simpa using hj), getElem!_pos s.toArray j (by simp; omega)] at h3
    rcases h3 with h3 | h3
    · omega
    · simpa using h3
  · intro h
    have h1 : ((List.range s.length).filter (Lib.keeps s.toArray)).length = (List.range s.length).length := by
      refine List.length_filter_eq_length_iff.2 fun j hj => ?_
      have hj' := List.mem_range.1 hj
      unfold Lib.keeps
      rw [decide_eq_true_iff]
      cases j with
      | zero => exact Or.inl rfl
      | succ j =>
        refine Or.inr ?_
        rw [Nat.add_sub_cancel, getElem!_pos s.toArray (j + 1) (by simpa using hj'), getElem!_pos s.toArray j (by simp; omega)]
        simpa using h j hj'
    rw [h1, hr]
theorem lt_of_step {s : List Int} (hle : s.Pairwise (· ≤ ·)) (h : ∀ j (h : j + 1 < s.length), s[j + 1] ≠ s[j]) : s.Nodup := by
  unfold List.Nodup
  rw [List.pairwise_iff_getElem]
  intro i j hi hj hij
  have h1 := get_le hle (i := i) (j := j - 1) (by omega) (by omega)
  have h2 := get_le hle (i := j - 1) (j := j) (by omega) hj
  have h3 := h (j - 1) (by omega)
  simp only [Nat.sub_add_cancel (show 1 ≤ j by omega)] at h3
  intro e
  omega
theorem distinct_plain {l : List Int} (hp : 0 < l.length) (n : Int) (h0 : 0 < (sortZ l).length) (hl : (sortZ l).length - 1 < (sortZ l).length) :
    (decide ((0 : Int) ≤ (sortZ l)[0]) && (decide ((sortZ l)[(sortZ l).length - 1] < n) && decide ((Lib.compact (sortZ l)).length = l.length))) = distB' l n := by
  have hle := sortZ_le l
  have hpm := sortZ_perm l
  have hsl := sortZ_len l
  have hnd : l.Nodup ↔ (sortZ l).Nodup := hpm.nodup_iff.symm
  have hmem : ∀ x, x ∈ sortZ l ↔ x ∈ l := fun x => hpm.mem_iff
  rw [← hsl]
  generalize sortZ l = s at hle hpm hsl hnd hmem h0 hl
  unfold distB'
  rw [Bool.eq_iff_iff]
  simp only [Bool.and_eq_true, decide_eq_true_eq]
  rw [hnd, compact_iff]
  constructor
  · rintro ⟨a, b, c⟩
    refine ⟨fun x hx => ?_, lt_of_step hle c⟩
    obtain ⟨i, hi, rfl⟩ := List.mem_iff_getElem.1 ((hmem x).2 hx)
    have h1 := get_le hle (i := 0) (j := i) (by omega) hi
    have h2 := get_le hle (i := i) (j := s.length - 1) (by omega) hl
    omega
  · rintro ⟨a, c⟩
    refine ⟨(a _ ((hmem _).1 (List.getElem_mem h0))).1, (a _ ((hmem _).1 (List.getElem_mem hl))).2, fun j hj e => ?_⟩
    have := List.pairwise_iff_getElem.1 c j (j + 1) (by omega) hj (by omega)
    exact this e.symm
end Go.Proofs.YtbnddpknejgmhaaGreat
namespace Go.Proofs.YtbnddpknejgmhaaGreat
open Go.RowKit Go.Shelf Go.Sort
set_option maxRecDepth 100000

theorem grown_row {w : World} {g n : Nat} (d : Array Int) : w.grownBy (putRow (Value.int .i64) (Sort.ahead w n) g 0 d) (some g) := by
  refine ⟨rfl, rfl, rfl, by simp, fun k hk hne => ?_⟩
  have : g ≠ k := fun e => hne (by rw [e])
  simp [putRow, mapBlock, Sort.ahead, Array.getElem?_modify, this]
set_option maxHeartbeats 4000000 in
theorem distinct_any (A : Option Addr) (c : Nat) (l : List Int) (hl : l.length ≤ 1000000) (n : Int) (w : World) (hs : SlI w w.heap.size A l) :
    Calls Tryz.prog 52 #[.slice A l.length c, .int .i64 n] w fun e w' => e = .returned (.bool (distB' l n)) ∧ Below w.heap.size w w' := by
  have HV := Lib.hid (values_any A l.length c w)
  have hb0 : Below w.heap.size w (w.alloc (.cells #[.slice A l.length c] 43)) := (Below.refl _ w).alloc (Nat.le_refl _) _
  have HSo := Lib.hid (sorted_any w.heap.size A c l hl (w.alloc (.cells #[.slice A l.length c] 43)) (by simp) (cell_new rfl rfl rfl) ((hs.below hb0).more hb0.size))
  have HB0 := Lib.hid hb0
  clear hs hb0
  by_cases hp : 0 < l.length
  case neg =>
    have hnil : l = [] := List.length_eq_zero_iff.1 (by omega)
    subst hnil
    have HD : Hid (distB' [] n = true) := by simp [Hid, distB']
    go_enter Tryz.func52, Tryz.ntmps52
    go_wp2_with (first
      | (go_at_call 88; refine HV.out.mono ?_; rintro e w1 ⟨rfl, rfl⟩)
      | (go_at_call 87; refine HSo.out.mono ?_; rintro e w2 ⟨v, rfl, hown, hb2⟩))
    go_ret
    exact ⟨ret_bool HD.out.symm, HB0.out.trans (hb2.mono HB0.out.size)⟩
  case pos =>
    have h0 : 0 < (sortZ l).length := by rw [sortZ_len]; exact hp
    have hlast : (sortZ l).length - 1 < (sortZ l).length := by omega
    have HD := Lib.hid (distinct_plain hp n h0 hlast)
    obtain ⟨m, hm⟩ : ∃ m, l.length = m + 1 := ⟨l.length - 1, by omega⟩
    have hsl := sortZ_len l
    have hg0 : (sortZ l)[0]? = some (sortZ l)[0] := List.getElem?_eq_getElem h0
    have hgl : (sortZ l)[m]? = some ((sortZ l)[(sortZ l).length - 1]) := by
      rw [List.getElem?_eq_getElem (show m < (sortZ l).length by omega)]
      congr 1
      have : m = (sortZ l).length - 1 := by omega
      subst this; rfl
    generalize (sortZ l)[0] = s0 at HD hg0
    generalize (sortZ l)[(sortZ l).length - 1] = s1 at HD hgl
    clear h0 hlast hp
    have hmb : m ≤ 1000000 := by omega
    rw [hm] at HV HSo HD HB0 hsl ⊢
    have HSl := Lib.hid hsl
    have HM := Lib.hid hm
    clear hm hsl
    go_enter Tryz.func52, Tryz.ntmps52
    go_upto_region 2 with (first
      | (go_at_call 88; refine HV.out.mono ?_; rintro e w1 ⟨rfl, rfl⟩)
      | (go_at_call 87; refine HSo.out.mono ?_; rintro e w2 ⟨v, rfl, hown, hb2⟩))
    have hsl := HSl.out
    have hm := HM.out
    obtain ⟨g, cap, rfl⟩ : ∃ g cap, v = .slice (some ⟨g, 0, none⟩) (m + 1) cap := by
      rcases hown.2 with ⟨_, h⟩ | ⟨g, cap, cur, h, _⟩
      · omega
      · exact ⟨g, cap, by rw [h, hsl]⟩
    have hown' : w2.ownsRow (w.alloc (.cells #[.slice A (m + 1) c] 43)).heap.size 3 1 (.slice (some ⟨g, 0, none⟩) (m + 1) cap) (m + 1) (intV (sortZ l)) := by
      have h := hown
      unfold ownI at h
      rw [hsl] at h
      exact h
    have hc0 : w2.cell? ⟨g, 0, none⟩ = some (.int .i64 s0) := by
      rw [hown'.cellAt 0 (by omega)]; unfold intV; rw [List.getElem?_map, hg0]; rfl
    have hc1 : w2.cell? ⟨g, m, none⟩ = some (.int .i64 s1) := by
      rw [hown'.cellAt m (by omega)]; unfold intV; rw [List.getElem?_map, hgl]; rfl
    have hcap : m + 1 ≤ cap := by
      obtain ⟨a9, c9, e, h⟩ := own_slice hown'
      cases e; exact h
    have hH : Holds (Value.int .i64) w2 g 0 (sortZ l).toArray := fun j hj => by
      have hj' : j < (sortZ l).length := by simpa using hj
      rw [Nat.zero_add]
      refine ⟨?_, hown'.frozenAt j⟩
      rw [hown'.cellAt j (by omega)]
      unfold intV
      rw [List.getElem?_map, List.getElem?_eq_getElem hj', getElem!_pos (sortZ l).toArray j hj]; rfl
    have hcp := Tryz.slices_Compact_int g 0 cap (sortZ l) w2 hH (by omega) (by omega)
    rw [hsl] at hcp
    have HCp := Lib.hid hcp
    have hgz : w.heap.size ≤ g := by have := (hown'.lt g rfl).1; simp at this; omega
    have HB2 := Lib.hid (HB0.out.trans (hb2.mono HB0.out.size))
    have hb3 : ∀ q (d : Array Int), Below w.heap.size w (putRow (Value.int .i64) (Sort.ahead w2 q) g 0 d) := fun q d => HB2.out.grown (grown_row d) HB2.out.size (fun j hj => by cases hj; exact hgz)
    have HB3 := Lib.hid hb3
    clear hown hown' hH hcp hb2 hb3 hg0 hgl hsl hm HV HSo hgz HSl HM
    generalize (Lib.compact (sortZ l)).length = k at HD HCp
    have hcl : decide ((m : Int) < ((m + 1 : Nat) : Int)) = true := decide_eq_true (by omega)
    have hsub : IntKind.i64.wrap (((m + 1 : Nat) : Int) - 1) = (m : Int) := by rw [show ((m + 1 : Nat) : Int) - 1 = (m : Int) by omega]; exact IntWalk.i64_in _ (by omega)
    cases q1 : decide (0 ≤ s0) with
    | false =>
      have HF : Hid (distB' l n = false) := by unfold Hid; rw [← HD.out, q1]; rfl
      clear HD
      go_wp2
      go_ret
      exact ⟨ret_bool HF.out.symm, HB2.out⟩
    | true =>
      cases q2 : decide (s1 < n) with
      | false =>
        have HF : Hid (distB' l n = false) := by unfold Hid; rw [← HD.out, q1, q2]; rfl
        clear HD
        go_wp2
        go_ret
        exact ⟨ret_bool HF.out.symm, HB2.out⟩
      | true =>
        have HF : Hid (distB' l n = decide (k = m + 1)) := by unfold Hid; rw [← HD.out, q1, q2]; rfl
        clear HD
        go_wp2_with (go_at_call 89; refine HCp.out.mono ?_; rintro e w3 ⟨rfl, q, rfl⟩)
        go_ret
        exact ⟨ret_bool (by rw [HF.out, Bool.eq_iff_iff]; simp; omega), HB3.out _ _⟩
end Go.Proofs.YtbnddpknejgmhaaGreat
