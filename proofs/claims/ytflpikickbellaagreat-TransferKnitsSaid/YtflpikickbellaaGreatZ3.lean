/- Words for ranges over functions. -/
import Derived.Test.YtflpikickbellaaGreatZ2
import Derived.RangeFuncNested
import Derived.RangeFuncBound
import Derived.RangeFuncCalls
import Derived.RangeFuncLeaves
import Derived.Shelf.RegionOpen
import Derived.OwnWalkIn
import Derived.TacticsInMore
import Derived.LoopNIn
import Derived.LoopIn
import Derived.Maps.OwnIn
import Derived.Laws.OwnMore
import Derived.Maps.AppendAt
namespace Go.Proofs.YtflpikickbellaaGreat
open Go.RowKit Go.Shelf
def KC (B0 : Nat) (W W' : World) : Prop := W.heap.size ≤ W'.heap.size ∧ ∀ k cs t f, k ≠ B0 → W.heap[k]? = some (.cells cs t f) → W'.heap[k]? = some (.cells cs t f)
theorem KC.refl (B0 : Nat) (W : World) : KC B0 W W := ⟨Nat.le_refl _, fun _ _ _ _ _ h => h⟩
theorem KC.trans {B0 : Nat} {A B C : World} (h : KC B0 A B) (k : KC B0 B C) : KC B0 A C := ⟨Nat.le_trans h.1 k.1, fun i cs t f hi hc => k.2 i cs t f hi (h.2 i cs t f hi hc)⟩
theorem KC.of_below {B0 : Nat} {A B : World} (h : Below A.heap.size A B) : KC B0 A B := ⟨h.size, fun i _ _ _ _ hc => (h.block i (Array.getElem?_eq_some_iff.1 hc).1).trans hc⟩
theorem KC.put {B0 : Nat} (W : World) (l : Nat) (o o' : Obj) (h : W.heap[l]? = some o) (ho : o.isCells = false) : KC B0 W (W.putObj l o') := by
 refine ⟨by simp, fun i cs t f _ hc => ?_⟩
 have hne : i ≠ l := by
  rintro rfl
  rw [hc] at h; cases h; cases ho
 rw [World.putObj_heap_other hne]; exact hc
theorem KC.cell {B0 : Nat} {A B : World} (h : KC B0 A B) {b o : Nat} {v : Value} (hb : b ≠ B0) (hc : A.cell? ⟨b, o, none⟩ = some v) : B.cell? ⟨b, o, none⟩ = some v := by
 unfold World.cell? at hc ⊢
 cases hk : A.heap[b]? with
 | none => simp [hk] at hc
 | some ob =>
   cases ob with
   | cells cs t f => rw [h.2 b cs t f hb hk]; rw [hk] at hc; exact hc
   | _ => simp [hk] at hc
theorem grownN_of_below {W W' : World} {B : Nat} (h : Below B W W') (hB : W.heap.size ≤ B) : W.grownBy W' none := ⟨h.os, h.tape, h.output, h.size, fun k hk _ => h.block k (by omega)⟩
theorem wide_calls {n : Nat} {P : Program} {f : FuncId} {args : Array Value} {w : World} {R : Ending → World → Prop} (h : Calls P f args w R) : CallsIn Fence.wide n P f args w R := callsIn_wide.2 h
attribute [local go_sem] Oper.semAt_some
set_option maxRecDepth 100000
theorem values_any (A : Option Addr) (n c : Nat) (w : World) :
 Calls Tryz.prog 27 #[.slice A n c] w fun e w' => e = .returned (.func (.func 58) #[] #[.pointer (some ⟨w.heap.size, 0, none⟩)]) ∧ w.alloc (.cells #[.slice A n c] 22) = w' := by
 have hmf : ∀ (fn : Fn) (first cap : Array Value) (w : World), (Instr.makeFunc fn first cap).run Tryz.prog w = .ok (.func fn first cap) w := fun _ _ _ _ => rfl
 go_enter Tryz.func27, Tryz.ntmps27
 go_wp2
 go_ret
 exact ⟨rfl, rfl⟩
def encI1 (x : Int) : Array Value := #[.int .i64 x]
set_option maxHeartbeats 4000000 in
theorem values_stops (n : Nat) (hn : 1 ≤ n) (Bs n₀ : Nat) (A : Option Addr) (c : Nat) (zs : List Int) (hpl : zs.length ≤ 1000000) (w : World) (hBs : Bs < w.heap.size) (hn0 : n₀ ≤ w.heap.size)
 (hc0 : w.cell? ⟨Bs, 0, none⟩ = some (.slice A zs.length c)) (hs : SlI w n₀ A zs) :
 SeqStopsK Fence.wide n Tryz.prog 58 #[.pointer (some ⟨Bs, 0, none⟩)] encI1 (Below n₀) (fun xs => xs = zs) (fun _ => True) zs.length w := by
 intro l J Jx W hW hJ hJx hY h0
 have hcW0 := (hW.cell (p := ⟨Bs, 0, none⟩) hBs).trans hc0
 have hsW : SlI W n₀ A zs := hs.below (hW.mono (by omega))
 clear hc0 hs hW hBs
 have HY := Lib.hid hY
 have HJ := Lib.hid hJ
 clear hY hJ hJx
 refine callsIn_of_wp Tryz.func58 rfl trivial ?_ rfl
 simp only [Tryz.ntmps58, List.size_toArray, List.length_cons, List.length_nil, Nat.reduceAdd, Nat.reduceSub, Array.replicate_succ, Array.replicate_zero, List.push_toArray, List.append_toArray, List.nil_append, List.cons_append]
 gi_wp2
 gi_loopw [4, 7] (fun s4 s7 wr => ∃ (k : Nat) (v4 : Value), k ≤ zs.length ∧ s7 = .int .i64 (k : Int) ∧ v4 = s4 ∧ Hid (J (zs.take k) wr) ∧ SlI wr n₀ A zs) (fun _ s7 _ => zs.length - (intOf s7).toNat)
 case atStart => exact ⟨0, _, Nat.zero_le _, rfl, rfl, h0, hsW⟩
 case round =>
  obtain ⟨k, v4, hk, rfl, rfl, HJs, hsr⟩ := hrel
  clear hcW0 hsW h0
  by_cases hlt : k < zs.length
  · obtain ⟨b, off, x, rfl, hB, hr, hcx⟩ := hsr.at_ hlt
    have hx : zs.take (k + 1) = zs.take k ++ [x] := by
     obtain ⟨hk', e⟩ := List.getElem?_eq_some_iff.1 hr
     rw [List.take_succ_eq_append_getElem hk', e]
    obtain ⟨fn, tmps, assign, body, hy, hR⟩ := HY.out _ x _ HJs.out (by rw [List.length_take]; omega)
    unfold encI1 at hy
    rw [← hx] at hR
    have HS := Lib.hid hsr
    clear hsr HJs hr hx
    gi_wp2
    refine hR.mono ?_
    rintro e W3 (⟨rfl, hJ3, hk3⟩ | ⟨rfl, hJx3⟩)
    · have HJ3 := Lib.hid hJ3
      have HS3 := Lib.hid (HS.out.below hk3)
      clear hk3 hJ3 hcx
      gi_wp2
      go_roundw
      case rel => exact ⟨k + 1, _, by omega, by go_num, rfl, HJ3, HS3.out⟩
      case measure => simp [intOf]; omega
    · gi_wp2
      refine bodyPost_ret (results_none rfl _ _ _) rfl ?_
      exact ⟨⟨_, rfl⟩, .inr ⟨_, trivial, hJx3⟩⟩
  · obtain rfl : k = zs.length := by omega
    have HF : Hid (J zs wr) := by have := HJs.out; rwa [List.take_length] at this
    clear hsr HJs
    gi_wp2
    go_end0
    exact ⟨⟨_, rfl⟩, .inl ⟨_, rfl, HF.out⟩⟩
end Go.Proofs.YtflpikickbellaaGreat
namespace Go.Proofs.YtflpikickbellaaGreat
open Go.RowKit Go.Shelf
attribute [local go_sem] Oper.semAt_some
set_option maxRecDepth 100000
def intV (l : List Int) : List Value := l.map (Value.int .i64)
theorem info_int' : (Tryz.prog.info? 3).map (fun i => (i.zero, i.size, i.bytes)) = some (some (.int .i64 0), 1, 8) := by kernel_rfl
def SeqI (w : World) (ob : Nat) (N : Nat) (pre : List Int) (W : World) : Prop :=
 ∃ vo, Below w.heap.size w W ∧ ob < W.heap.size ∧ (W.cell? ⟨ob, 0, none⟩ = some vo ∧ W.frozen? ⟨ob, 0, none⟩ = false) ∧ W.ownsRow w.heap.size 3 1 vo pre.length (intV pre) ∧ vo.ownBlock ≠ some ob ∧ pre.length ≤ N
theorem SeqI.from (w : World) (ob N : Nat) (B3 : Nat) (hB : w.heap.size ≤ B3) : OwnFrom B3 (SeqI w ob N) := by
 rintro pre W W' row ⟨vo, h1, h2, ⟨h3, h4⟩, h5, h6, h8⟩ hg hr
 have hr' : ∀ r, row = some r → ∃ o : Obj, W.heap[r]? = some o ∧ o.isCells = false := fun r e => (hr r e).2
 refine ⟨vo, h1.grown hg h1.size (fun k e => Nat.le_trans hB (hr k e).1), Nat.lt_of_lt_of_le h2 hg.size, ⟨cell_kept h3 hg hr', (frozen_kept h3 hg hr').trans h4⟩, h5.kept hg ?_, h6, h8⟩
 cases row with
 | none =>
   cases hv : vo.ownBlock with
   | none => exact Or.inl rfl
   | some g => exact Or.inr (by simp)
 | some r =>
   refine Or.inr fun e => ?_
   obtain ⟨o, ho, hc⟩ := hr' r rfl
   rcases h5.2 with ⟨rfl, _⟩ | ⟨g, cap, cur, rfl, _, hh, _⟩
   · cases e
   · cases e
     rw [hh] at ho; cases ho; cases hc
theorem intV_snoc (l : List Int) (x : Int) : intV (l ++ [x]) = intV l ++ [.int .i64 x] := by simp [intV]
theorem seq_round {w W w6 : World} {ob N B3 : Nat} {pre : List Int} {x : Int} {vo vo' : Value} {o : Obj} (hwo : w.heap.size ≤ ob) (hB3 : ob < B3) (hB : Below w.heap.size w W) (hz : ob < W.heap.size)
 (hc : W.cell? ⟨ob, 0, none⟩ = some vo) (hf : W.frozen? ⟨ob, 0, none⟩ = false) (hown : W.ownsRow w.heap.size 3 1 vo pre.length (intV pre)) (hne : vo.ownBlock ≠ some ob) (hlen : pre.length < N)
 (h6 : (W.alloc o).grownBy w6 vo.ownBlock) (hat : vo'.ownBlock = vo.ownBlock ∨ vo'.ownBlock = some (W.alloc o).heap.size) (ho6 : w6.ownsRow w.heap.size 3 1 vo' (pre.length + 1) (intV pre ++ [.int .i64 x])) :
 KeepsFrom B3 W (w6.setCell ⟨ob, 0, none⟩ vo') ∧ Below w.heap.size W (w6.setCell ⟨ob, 0, none⟩ vo') ∧ SeqI w ob N (pre ++ [x]) (w6.setCell ⟨ob, 0, none⟩ vo') := by
 have hvlt : ∀ g, vo.ownBlock = some g → w.heap.size ≤ g ∧ g < W.heap.size := fun g e => hown.lt g e
 have hz6 := h6.size
 rw [World.size_alloc] at hz6 hat
 have hgc : ∀ g o, vo.ownBlock = some g → W.heap[g]? = some o → o.isCells = true := fun g o e hg => by
  rcases hown.2 with ⟨rfl, _⟩ | ⟨g', cap, cur, rfl, _, hh, _⟩
  · cases e
  · cases e; rw [hh] at hg; cases hg; rfl
 have hb : Below w.heap.size W (w6.setCell ⟨ob, 0, none⟩ vo') := (((Below.refl _ W).alloc hB.size o).grown h6 (by have := hB.size; simp; omega) (fun k e => (hvlt k e).1)).setCell (p := ⟨ob, 0, none⟩) hwo _
 have hc6 : W.heap[ob]? = w6.heap[ob]? := by
  rw [h6.block ob (by simp; omega) (fun e => hne e.symm)]
  exact (((Below.refl W.heap.size W).alloc (Nat.le_refl _) o).block ob hz).symm
 refine ⟨⟨by simp only [World.size_setCell]; omega, fun k o' hk hko ho' => ?_⟩, hb, vo', hB.trans hb, by simp only [World.size_setCell]; omega, ⟨?_, ?_⟩, ?_, ?_, ?_⟩
 · have hkl := (Array.getElem?_eq_some_iff.1 hko).1
   have e6 := ((Below.refl W.heap.size W).alloc (Nat.le_refl _) o).block k hkl
   have e7 := h6.block k (by simp; omega) (fun e => by rw [hgc k o' e.symm hko] at ho'; cases ho')
   have e8 := (grown_setAt w6 ob 0 vo').block k (by omega) (fun e => by cases e; omega)
   rw [e8, e7, e6]; exact hko
 · exact World.cell?_setCell_same' _ _ _ (by rw [World.cell?_of_block (a := ⟨ob, 0, none⟩) (w := W) hc6.symm, hc]; rfl)
 · rw [World.frozen?_setCell, World.frozen?_of_block (a := ⟨ob, 0, none⟩) (w := W) hc6.symm]; exact hf
 · rw [List.length_append, intV_snoc]
   refine ho6.kept (grown_setAt w6 ob 0 vo') (Or.inr fun e => ?_)
   rcases hat with h | h
   · exact hne (by rw [← h]; exact e)
   · rw [h] at e; have := Option.some.inj e; omega
 · intro e
   rcases hat with h | h
   · exact hne (by rw [← h]; exact e)
   · rw [h] at e; have := Option.some.inj e; omega
 · rw [List.length_append]; simp; omega
set_option maxHeartbeats 4000000 in
theorem appendSeq_any (Bs : Nat) (A : Option Addr) (c : Nat) (zs : List Int) (hl : zs.length ≤ 1000000) (w : World) (hBs : Bs < w.heap.size) (hc0 : w.cell? ⟨Bs, 0, none⟩ = some (.slice A zs.length c)) (hs : SlI w w.heap.size A zs) :
 Calls Tryz.prog 92 #[.slice none 0 0, .func (.func 58) #[] #[.pointer (some ⟨Bs, 0, none⟩)]] w fun e w' => ∃ v, e = .returned v ∧ w'.ownsRow w.heap.size 3 1 v zs.length (intV zs) ∧ Below w.heap.size w w' := by
 obtain ⟨i0, hi, hz0, hz1, hz2⟩ := info_parts info_int'
 have HS := Lib.hid hs
 refine (callsIn_wide (n := 3)).1 ?_
 refine callsIn_of_wp_marks Tryz.func92 rfl trivial ?_ rfl
 simp only [Tryz.ntmps92, List.size_toArray, List.length_cons, List.length_nil, Nat.reduceAdd, Nat.reduceSub, Array.replicate_succ, Array.replicate_zero, List.push_toArray, List.append_toArray, List.nil_append, List.cons_append]
 gi_wp2
 refine abs_world (Q := fun W => Code.wpIn _ _ _ _ _ _ W) (F := fun W => W.heap.size = w.heap.size + 1 ∧ Below w.heap.size w W ∧ SeqI w w.heap.size zs.length [] W) _ ?_ ?_
 · have hb := (Below.refl w.heap.size w).alloc (Nat.le_refl _) (.cells #[.slice none 0 0] 22)
   exact ⟨by simp, hb, .slice none 0 0, hb, by simp, ⟨cell_new rfl rfl rfl, thawed_new' _ _ _ 0 rfl⟩, World.ownsRow_nil _ _ _ _, (fun e => by cases e), Nat.zero_le _⟩
 rintro w3 ⟨hz3, hB3, hI3⟩
 have HI3 := Lib.hid hI3
 clear hI3
 refine wpIn_rangeFunc_ownH rfl (by omega) (gf := 58) (lb := #[.pointer (some ⟨Bs, 0, none⟩)]) rfl trivial (enters_of Tryz.func58 (by kernel_rfl) rfl)
  (values_stops (3 - 1) (by omega) Bs w.heap.size A c zs hl w3 (by omega) (by omega) ((bcell hB3 hBs _).trans hc0) (HS.out.below hB3)) belowK_t (belowK_b (by omega)) (Below.refl _ _) (fun _ => rfl)
  (SeqI w w.heap.size zs.length) (fun _ _ _ => False)
  (SeqI.from w w.heap.size zs.length _ (by omega))
  (fun _ _ _ _ _ hs _ _ => hs)
  HI3.out
  (fun (x : Int) (a' : Act) (_ : World) => a' = { tmps := #[.slice none 0 0, .func (.func 58) #[] #[.pointer (some ⟨Bs, 0, none⟩)], .pointer (some ⟨w.heap.size, 0, none⟩), undef, .slice none 0 0, .int .i64 x, .func (.func 58) #[] #[.pointer (some ⟨Bs, 0, none⟩)], .int .i64 x, undef, undef, undef, undef, undef], defers := [] })
  (fun _ _ _ _ _ _ h _ _ => h) ?assign ?body ?done ?stop
 case assign =>
  intro l2 pre x W K hI hK
  unfold encI1
  gi_wp2
  exact hK _ _ (KeepsFrom.refl _ _) (Below.refl _ _) hI rfl
 case body =>
  rintro l2 pre x a' W hl2 hrec ⟨vo, hB, hz, ⟨hc, hf⟩, hown, hne, hN⟩ rfl hpre
  have uc := fun o => cell_al hc o
  have vf := fun o => (Below.frozen ((Below.refl W.heap.size W).alloc (Nat.le_refl _) o) (p := ⟨w.heap.size, 0, none⟩) (lt_of_cell hc)).trans hf
  have HO := Lib.hid hown
  have HB := Lib.hid (show _ ∧ _ ∧ _ from ⟨hB, hc, hf⟩)
  have hwz := hB.size
  clear hown hB
  gi_wp2_with (gi_at_builtin; refine wpListIn_append_own_at _ rfl _ _ 22 rfl w.heap.size 3 i0 (.int .i64 0) 1 8 Tryz.underlying22 hi hz0 hz1 hz2 rfl (by decide) vo pre.length (intV pre) rfl (HO.out.alloc _) ⟨W.heap.size, 0, none⟩ 1 1 [.int .i64 x] rfl rfl (newsT W _ _ _ rfl) (by intro v hv; rw [List.mem_singleton.1 hv]; rfl) (by unfold maxLen; omega) (by omega) (by simp; omega) ?_; intro v' w6 hown6 hgrow6 _ hat6; have HT := Lib.hid (seq_round (Nat.le_refl _) (show w.heap.size < w3.heap.size by omega) HB.out.1 hz HB.out.2.1 HB.out.2.2 HO.out hne hpre hgrow6 hat6 hown6); have hc6 : w6.cell? ⟨w.heap.size, 0, none⟩ = some vo := (World.cell?_of_block (hgrow6.block w.heap.size (lt_of_cell (uc _)) (fun e => hne e.symm))).trans (uc _); have hf6 : w6.frozen? ⟨w.heap.size, 0, none⟩ = false := (World.frozen?_of_block (hgrow6.block w.heap.size (lt_of_cell (uc _)) (fun e => hne e.symm))).trans (vf _); obtain ⟨a9, c9, rfl, hc9⟩ := own_slice hown6; clear hown6 hgrow6 hat6)
  exact HT.out
 case done =>
  rintro D xs W hD rfl ⟨vo, hB, hz, ⟨hc, hf⟩, hown, hne, hN⟩ hK
  have HOwn := Lib.hid hown
  have HB := Lib.hid hB
  clear hown hB
  gi_wp2
  refine ⟨by simp, .inl ⟨_, _, rfl, run_takeDeferred hK, ?_⟩⟩
  have hk : (W.putObj D (.deferred none)).ownsRow w.heap.size 3 1 vo xs.length (intV xs) := HOwn.out.kept (grownBy_putObj' W D _) (by
   cases hv : vo.ownBlock with
   | none => exact Or.inl rfl
   | some g =>
     refine Or.inr fun e => ?_
     rcases HOwn.out.2 with ⟨hv2, _⟩ | ⟨g', cap, cur, hv2, _, hh, _⟩
     · rw [hv2] at hv; cases hv
     · rw [hv2] at hv; cases hv; cases e
       rw [hh] at hK; cases hK)
  exact ⟨_, results_tmp rfl _ _ _, vo, rfl, hk, HB.out.trans (belowK_b (w := w) (Nat.le_refl _) W D _ _ (by omega) hK rfl rfl)⟩
 case stop =>
  rintro D c' pre W _ _ h _
  exact h.elim
end Go.Proofs.YtflpikickbellaaGreat
namespace Go.Proofs.YtflpikickbellaaGreat
open Go.RowKit Go.Shelf
set_option maxRecDepth 100000
theorem run_app_any {e t : TypeId} {i : TypeInfo} {z : Value} {size bytes : Nat} (ht : Tryz.prog.underlying t = some (.slice e)) (hi : Tryz.prog.info? e = some i) (hz : i.zero = some z) (hsize : i.size = size) (hby : i.bytes = bytes) (hzs : z.cells.size = size) (hsz : 0 < size)
 {w : World} {base n : Nat} {v : Value} {xs : List Value} (hown : w.ownsRow base e size v n xs) (A : Option Addr) (m c : Nat) (news : List Value) (hl : news.length = m * size) (hA : A = none → m = 0) (hnews : ∀ ad, A = some ad → ∀ j u, news[j]? = some u → w.cell? (ad.add j) = some u) (h1 : ∀ u ∈ news, u.oneCell' = true)
 (h63 : n + m ≤ maxLen) (hbytes : (n + m) * bytes ≤ 140737488355328) (hbase : base ≤ w.heap.size) :
 ∃ A' c' w', (Builtin.append_ #[t, t] t #[v, .slice A m c]).run Tryz.prog w = .ok (.slice A' (n + m) c') w' ∧ w'.ownsRow base e size (.slice A' (n + m) c') (n + m) (xs ++ news) ∧ w.grownBy w' v.ownBlock ∧ ∀ k, (Value.slice A' (n + m) c').ownBlock = some k → v.ownBlock = some k ∨ w.heap.size ≤ k := by
 cases A with
 | some ad =>
   obtain ⟨v', w', hr, h2, h3, -, h5⟩ := run_append_own_at (P := Tryz.prog) w base t t e i z size bytes ht hi hz hsize hby hzs hsz v n xs hown ad m c news hl (hnews ad rfl) h1 h63 hbytes hbase
   obtain ⟨A', c', rfl, -⟩ := own_slice h2
   refine ⟨A', c', w', hr, h2, h3, fun k hk => ?_⟩
   rcases h5 with h5 | h5
   · exact Or.inl (h5 ▸ hk)
   · rw [h5] at hk; cases hk; exact Or.inr (Nat.le_refl _)
 | none =>
   obtain rfl := hA rfl
   obtain rfl : news = [] := List.eq_nil_of_length_eq_zero (by simpa using hl)
   rw [Nat.add_zero, List.append_nil]
   rcases hown.2 with ⟨rfl, h0⟩ | ⟨g, cap, cur, rfl, h4, h5, hnc, h6⟩
   · subst h0
     refine ⟨none, 0, w, ?_, hown, ⟨rfl, rfl, rfl, Nat.le_refl _, fun _ _ _ => rfl⟩, fun k hk => Or.inl hk⟩
     simp [Builtin.append_, run_underlying ht, sizeOf, typeInfo, hi, Builtin.lenOf, Builtin.firstCells]
   · refine ⟨some ⟨g, 0, none⟩, cap, w, ?_, hown, ⟨rfl, rfl, rfl, Nat.le_refl _, fun _ _ _ => rfl⟩, fun k hk => Or.inl hk⟩
     simp [Builtin.append_, run_underlying ht, sizeOf, typeInfo, hi, Builtin.lenOf, Builtin.firstCells, hnc, storeCells, loadCells]
theorem wpList_append_run {P : Program} (w : World) {ops : Array Oper} {rest : List Oper} {o : Oper} {a : Act} {Q : Exit → Act → World → Prop} (hgd : o.guard = none) (d s : Operand) (t t' : TypeId)
 (ho : o.op = .call { callee := .builtin .append, args := #[d, s], argTypes := #[t, t'] }) (v u : Value) (hd : a.eval d = v) (hs : a.eval s = u) {v' : Value} {w' : World}
 (hr : (Builtin.append_ #[t, t'] o.type #[v, u]).run P w = .ok v' w') (h : wpList P ops Q rest (a.put o.dst v') w') : wpList P ops Q (o :: rest) a w :=
 wpList_plain hgd fun K hK => by
  unfold Oper.wp
  simp [execOp, ho, resolve, invoke, builtin, hd, hs, hr, Result.andThen]
  exact hK _ _ h
end Go.Proofs.YtflpikickbellaaGreat
namespace Go.Proofs.YtflpikickbellaaGreat
open Go.RowKit
set_option maxRecDepth 100000
set_option maxHeartbeats 4000000 in
theorem forms_any (k : Int) (hk : 0 ≤ k ∧ k ≤ 255) (w : World) : Calls Tryz.prog 111 #[.int .u8 k] w fun e w' =>
 e = .returned (.tuple #[(formI k).val, .bool (decide (1 ≤ k ∧ k ≤ 10))]) ∧ Below w.heap.size w w' := by
 obtain ⟨V, hV⟩ : ∃ V, V = Value.tuple #[(formI k).val, .bool (decide (1 ≤ k ∧ k ≤ 10))] := ⟨_, rfl⟩
 rw [← hV]
 have HV := Lib.hid hV
 clear hV
 go_enter Tryz.func111, Tryz.ntmps111
 go_upto_region 4 with (fail)
 refine abs_world (Q := fun W => Code.wp _ _ _ _ W) (F := fun W => Below w.heap.size w W ∧ FormAt W w.heap.size 0 form0 ∧ (∀ k, W.frozen? ⟨w.heap.size, k, none⟩ = false) ∧ ∀ j, j < 10 → FormAt W (w.heap.size + 1 + 1 + 1 + 1) (j * 8) (formT.getD j form0)) _ ?_ ?_
 · refine ⟨((((((Below.refl _ w).alloc (Nat.le_refl _) _).alloc (by simp) _).alloc (by simp; omega) _).alloc (by simp; omega) _).alloc (by simp; omega) _), ?_, ?_, ?_⟩
   · have hr : ∀ o v, (#[.string { data := #[] }, .int .i64 0, .int .i64 0, .int .i64 0, .int .i64 0, .bool false, .int .i64 0, .int .i64 0] : Array Value)[o]? = some v → ∀ o1 o2 o3 o4,
      (((((w.alloc (.cells #[.string { data := #[] }, .int .i64 0, .int .i64 0, .int .i64 0, .int .i64 0, .bool false, .int .i64 0, .int .i64 0] 170)).alloc o1).alloc o2).alloc o3).alloc o4).cell? ⟨w.heap.size, o, none⟩ = some v := fun o v hv o1 o2 o3 o4 =>
      (bcell (B := w.heap.size + 1) (((((Below.refl _ _).alloc (by simp) _).alloc (by simp) _).alloc (by simp) _).alloc (by simp) _) (by omega) _).trans (cell_new rfl rfl hv)
     exact ⟨hr 0 _ rfl _ _ _ _, hr 1 _ rfl _ _ _ _, hr 2 _ rfl _ _ _ _, hr 3 _ rfl _ _ _ _, hr 4 _ rfl _ _ _ _, hr 5 _ rfl _ _ _ _, hr 6 _ rfl _ _ _ _, hr 7 _ rfl _ _ _ _⟩
   · intro k
     refine (Below.frozen (B := w.heap.size + 1) (w := w.alloc (.cells #[.string { data := #[] }, .int .i64 0, .int .i64 0, .int .i64 0, .int .i64 0, .bool false, .int .i64 0, .int .i64 0] 170)) (((((Below.refl _ _).alloc (by simp) _).alloc (by simp) _).alloc (by simp) _).alloc (by simp) _) (by show w.heap.size < _; omega)).trans ?_
     exact thawed_new' w _ _ k rfl
   · intro j hj
     rcases (by omega : j = 0 ∨ j = 1 ∨ j = 2 ∨ j = 3 ∨ j = 4 ∨ j = 5 ∨ j = 6 ∨ j = 7 ∨ j = 8 ∨ j = 9) with rfl | rfl | rfl | rfl | rfl | rfl | rfl | rfl | rfl | rfl
     all_goals exact ⟨cell_new rfl (by simp) rfl, cell_new rfl (by simp) rfl, cell_new rfl (by simp) rfl, cell_new rfl (by simp) rfl, cell_new rfl (by simp) rfl, cell_new rfl (by simp) rfl, cell_new rfl (by simp) rfl, cell_new rfl (by simp) rfl⟩
 intro W hW
 obtain ⟨hbW, ⟨r0, r1, r2, r3, r4, r5, r6, r7⟩, hfr, hT⟩ := hW
 have HT := Lib.hid hT
 have HB := Lib.hid hbW
 clear hT hbW
 have HG := Lib.hid (show FormAt W w.heap.size 0 form0 from ⟨r0, r1, r2, r3, r4, r5, r6, r7⟩)
 by_cases h1 : k < 1
 · obtain rfl : k = 0 := by omega
   clear h1 hk
   go_wp2
   exact form_close (f := form0) HG.out HB.out rfl rfl fun W' hb => ⟨congrArg Ending.returned HV.out.symm, hb⟩
 by_cases h2 : 10 < k
 · have HV2 : Hid (V = Value.tuple #[form0.val, .bool false]) := by
    unfold Hid; rw [HV.out, decide_eq_false (by omega)]; unfold formI; rw [if_pos (by omega), List.getD, List.getElem?_eq_none (by simp [formT]; omega)]; rfl
   go_wp2
   exact form_close (f := form0) HG.out HB.out rfl rfl fun W' hb => ⟨congrArg Ending.returned HV2.out.symm, hb⟩
 obtain ⟨j, hj, rfl⟩ : ∃ j : Nat, j < 10 ∧ k = (j : Int) + 1 := ⟨(k - 1).toNat, by omega, by omega⟩
 have hq := HT.out j hj
 clear h1 h2 hk HT
 rcases (by omega : j = 0 ∨ j = 1 ∨ j = 2 ∨ j = 3 ∨ j = 4 ∨ j = 5 ∨ j = 6 ∨ j = 7 ∨ j = 8 ∨ j = 9) with rfl | rfl | rfl | rfl | rfl | rfl | rfl | rfl | rfl | rfl
 · obtain ⟨q0, q1, q2, q3, q4, q5, q6, q7⟩ := hq
   simp only [formT, List.getD_cons_zero, Nat.zero_mul, Nat.zero_add] at q0 q1 q2 q3 q4 q5 q6 q7
   go_wp2
   exact form_close (f := ⟨{ data := #[] }, 0, 0, 0, 0, true, 1, 1⟩) HG.out HB.out rfl rfl fun W' hb => ⟨congrArg Ending.returned HV.out.symm, hb⟩
 · obtain ⟨q0, q1, q2, q3, q4, q5, q6, q7⟩ := hq
   simp only [formT, List.getD_cons_zero, List.getD_cons_succ, Nat.reduceMul, Nat.reduceAdd] at q0 q1 q2 q3 q4 q5 q6 q7
   go_wp2
   exact form_close (f := ⟨{ data := #[] }, 0, 0, 0, 0, false, 0, 1⟩) HG.out HB.out rfl rfl fun W' hb => ⟨congrArg Ending.returned HV.out.symm, hb⟩
 · obtain ⟨q0, q1, q2, q3, q4, q5, q6, q7⟩ := hq
   simp only [formT, List.getD_cons_zero, List.getD_cons_succ, Nat.reduceMul, Nat.reduceAdd] at q0 q1 q2 q3 q4 q5 q6 q7
   go_wp2
   exact form_close (f := ⟨{ data := #[102] }, 2, 4, 0, 0, true, 2, 1⟩) HG.out HB.out rfl rfl fun W' hb => ⟨congrArg Ending.returned HV.out.symm, hb⟩
 · obtain ⟨q0, q1, q2, q3, q4, q5, q6, q7⟩ := hq
   simp only [formT, List.getD_cons_zero, List.getD_cons_succ, Nat.reduceMul, Nat.reduceAdd] at q0 q1 q2 q3 q4 q5 q6 q7
   go_wp2
   exact form_close (f := ⟨{ data := #[108] }, 2, 4, 0, 0, true, 2, 1⟩) HG.out HB.out rfl rfl fun W' hb => ⟨congrArg Ending.returned HV.out.symm, hb⟩
 · obtain ⟨q0, q1, q2, q3, q4, q5, q6, q7⟩ := hq
   simp only [formT, List.getD_cons_zero, List.getD_cons_succ, Nat.reduceMul, Nat.reduceAdd] at q0 q1 q2 q3 q4 q5 q6 q7
   go_wp2
   exact form_close (f := ⟨{ data := #[109] }, 2, 4, 0, 0, true, 1, 2⟩) HG.out HB.out rfl rfl fun W' hb => ⟨congrArg Ending.returned HV.out.symm, hb⟩
 · obtain ⟨q0, q1, q2, q3, q4, q5, q6, q7⟩ := hq
   simp only [formT, List.getD_cons_zero, List.getD_cons_succ, Nat.reduceMul, Nat.reduceAdd] at q0 q1 q2 q3 q4 q5 q6 q7
   go_wp2
   exact form_close (f := ⟨{ data := #[120] }, 1, 6, 1, 6, true, 3, 3⟩) HG.out HB.out rfl rfl fun W' hb => ⟨congrArg Ending.returned HV.out.symm, hb⟩
 · obtain ⟨q0, q1, q2, q3, q4, q5, q6, q7⟩ := hq
   simp only [formT, List.getD_cons_zero, List.getD_cons_succ, Nat.reduceMul, Nat.reduceAdd] at q0 q1 q2 q3 q4 q5 q6 q7
   go_wp2
   exact form_close (f := ⟨{ data := #[121] }, 1, 6, 1, 6, true, 3, 3⟩) HG.out HB.out rfl rfl fun W' hb => ⟨congrArg Ending.returned HV.out.symm, hb⟩
 · obtain ⟨q0, q1, q2, q3, q4, q5, q6, q7⟩ := hq
   simp only [formT, List.getD_cons_zero, List.getD_cons_succ, Nat.reduceMul, Nat.reduceAdd] at q0 q1 q2 q3 q4 q5 q6 q7
   go_wp2
   exact form_close (f := ⟨{ data := #[115] }, 0, 0, 0, 0, true, 1, 1⟩) HG.out HB.out rfl rfl fun W' hb => ⟨congrArg Ending.returned HV.out.symm, hb⟩
 · obtain ⟨q0, q1, q2, q3, q4, q5, q6, q7⟩ := hq
   simp only [formT, List.getD_cons_zero, List.getD_cons_succ, Nat.reduceMul, Nat.reduceAdd] at q0 q1 q2 q3 q4 q5 q6 q7
   go_wp2
   exact form_close (f := ⟨{ data := #[] }, 1, 200, 0, 0, false, 0, 2⟩) HG.out HB.out rfl rfl fun W' hb => ⟨congrArg Ending.returned HV.out.symm, hb⟩
 · obtain ⟨q0, q1, q2, q3, q4, q5, q6, q7⟩ := hq
   simp only [formT, List.getD_cons_zero, List.getD_cons_succ, Nat.reduceMul, Nat.reduceAdd] at q0 q1 q2 q3 q4 q5 q6 q7
   go_wp2
   exact form_close (f := ⟨{ data := #[111] }, 1, 200, 0, 0, true, 2, 0⟩) HG.out HB.out rfl rfl fun W' hb => ⟨congrArg Ending.returned HV.out.symm, hb⟩
end Go.Proofs.YtflpikickbellaaGreat
