/- maps.Keys at a map keyed by int, slices.Collect and slices.Sorted of it. slices.IndexFunc and ContainsFunc over numbers, with a function that captures. Rows that a call owns, pairwise in blocks of their own: each is turned by itself. -/
import Derived.Test.YtbibndpkcilblaaKG1
import Derived.Sort.MapsRangeIn
import Derived.Sort.KeysCollected
import Derived.RangeFuncSeq
import Derived.TacticsInMore
import Derived.LoopIn
import Derived.Shelf.Abstract
import Derived.Deep.Onto
import Derived.Deep.AppendLies
namespace Go.Proofs.Ytbibndpkcilblaa
open Go.RowKit Go.Shelf Go.Sort Go.Maps
attribute [local go_sem] Oper.semAt_some
set_option maxRecDepth 100000

theorem keys_any (mb : Nat) (w : World) :
    Calls Try.prog 33 #[.map (some mb)] w fun e w' => e = .returned (.func (.func 56) #[] #[.pointer (some ⟨w.heap.size, 0, none⟩)]) ∧ w.alloc (.cells #[.map (some mb)] 71) = w' := by
  have hmf : ∀ (fn : Fn) (first cap : Array Value) (w : World), (Instr.makeFunc fn first cap).run Try.prog w = .ok (.func fn first cap) w := fun _ _ _ _ => rfl
  go_enter Try.func33, Try.ntmps33
  go_wp2
  go_ret
  exact ⟨rfl, rfl⟩
set_option maxHeartbeats 4000000 in
theorem keys_stops (n : Nat) (hn : 1 ≤ n) (Bs mb nn : Nat) (D : DataW Value) (w : World) (hBs : Bs < w.heap.size) (hm : w.cell? ⟨Bs, 0, none⟩ = some (.map (some mb))) (hown : w.ownsMap Try.prog 3 rawR mb nn D) :
    SeqStopsK Fence.wide n Try.prog 56 #[.pointer (some ⟨Bs, 0, none⟩)] encI1 KeepsWalks (fun xs => xs.Perm (intKeys D)) (fun _ => True) (Maps.size D) w := by
  intro l J Jx W hW hJ hJx hY h0
  have hm0 := (hW.cell (p := ⟨Bs, 0, none⟩) hBs).trans hm
  have hown0 : W.ownsMap Try.prog 3 rawR mb nn D := by
    have hbl := hown.lt
    obtain ⟨es, clock, hb, Ft, hs, hD⟩ := hown
    exact ⟨es, clock, (hW.block mb hbl).trans hb, Ft, hs, hD⟩
  clear hm hown hW hBs
  have HY := Lib.hid hY
  have HJ := Lib.hid hJ
  clear hY hJ hJx
  refine callsIn_of_wp Try.func56 rfl trivial ?_ rfl
  simp only [Try.ntmps56, List.size_toArray, List.length_cons, List.length_nil, Nat.reduceAdd, Nat.reduceSub, Array.replicate_succ, Array.replicate_zero, List.push_toArray, List.append_toArray, List.nil_append, List.cons_append]
  gi_wp2_with (first
    | (gi_at_range; refine wpListIn_range_own _ rfl _ 71 rfl 3 4 (int_keyed Try.underlying3) Try.underlying71 _ mb nn _ rfl hown0 ?_; intro w0 hrg0 hg0 hs0)
    | gi_in)
  go_frame
  have HRg0 := Lib.hid hrg0
  have HJ0 := Lib.hid (HJ.out [] W w0 none h0 hg0 (fun r e => by cases e))
  clear hrg0 hg0 hs0 h0 hm0
  gi_loopw [3] (fun _ wr => ∃ (left : Lit → Bool) (cnt : Nat) (ss : List Int), Hid (wr.ranges Try.prog 3 rawR mb W.heap.size nn D left cnt) ∧ Hid (ss.length + cnt ≤ Maps.size D) ∧ Hid (CollectedI D left ss) ∧ Hid (J ss wr))
    (fun _ wr => wr.rangeLeft mb W.heap.size)
  case atStart => exact ⟨_, _, [], HRg0.out, (by show _ ≤ _; simp), CollectedI.start D, HJ0.out⟩
  case round =>
    obtain ⟨left, cnt, ss, HRg, HCs, HC, HJs⟩ := hrel
    clear HRg0 HJ0
    gi_wp2_with (first
      | (gi_at_next; refine wpListIn_next_ranges _ rfl _ rfl 3 (int_keyed Try.underlying3) rawR encZ id (fun key kl hk => by obtain ⟨x, hx, _⟩ := Maps.keyOf_i64 Try.underlying3 hk; exact ⟨x, hx⟩) (fun v _ _ => ⟨v, rfl⟩) mb W.heap.size nn _ _ _ rfl HRg.out ?_ ?_)
      | gi_in)
    · intro hc0 hl0
      have HF := Lib.hid (HC.out.perm hown0 (int_keyed Try.underlying3) Try.underlying3 hl0)
      clear hc0 hl0 HC HCs HRg
      gi_wp2
      go_end0
      exact ⟨⟨_, rfl⟩, .inl ⟨ss, HF.out, HJs.out⟩⟩
    · intro x c kl yd yp w2 cnt2 hkey hlk hv hat hrg2 hlt hg2 hs2 hen
      obtain ⟨x', ex, rfl, _⟩ := Maps.keyOf_i64 Try.underlying3 hkey
      obtain rfl : x = x' := encZ_inj ex
      have hJ2 : J ss w2 := HJ.out ss wr w2 (some W.heap.size) HJs.out hg2 (fun r e => by cases e; exact ⟨Nat.le_refl _, HRg.out.iter_walk⟩)
      obtain ⟨fn, tmps, assign, body, hy, hR⟩ := HY.out ss x w2 hJ2 (by have := HCs.out; omega)
      unfold encI1 at hy
      have HR := Lib.hid hR
      have HRg2 := Lib.hid hrg2
      have HC2 := Lib.hid (HC.out.step hlk hat)
      have HCs2 : Hid ((ss ++ [x]).length + cnt2 ≤ Maps.size D) := by
        have h := HCs.out
        show _ ≤ _
        rw [List.length_append, List.length_singleton]
        omega
      have HLe : Hid (wr.rangeLeft mb W.heap.size = cnt ∧ cnt2 < cnt) := ⟨HRg.out.left_eq, hlt⟩
      clear hs2 hR hrg2 hlk hat hJ2 hg2 hlt HRg HC HCs HJs hkey hv ex hown0
      gi_wp2
      refine HR.out.mono ?_
      rintro e W3 (⟨rfl, hJ3, hk3⟩ | ⟨rfl, hJx3⟩)
      · have HJ3 := Lib.hid hJ3
        have HRg3 := Lib.hid (HRg2.out.of_walks hk3)
        clear hk3 hJ3 HRg2
        gi_wp2
        go_roundw
        case rel => exact ⟨_, cnt2, ss ++ [x], HRg3.out, HCs2.out, HC2.out, HJ3.out⟩
        case measure => rw [HRg3.out.left_eq, HLe.out.1]; exact HLe.out.2
      · gi_wp2
        refine bodyPost_ret (results_none rfl _ _ _) rfl ?_
        exact ⟨⟨_, rfl⟩, .inr ⟨_, trivial, hJx3⟩⟩
theorem seq_walks {w W w6 : World} {ob : Nat} {vo vo' : Value} {pre : List Int} {o : Obj} (hown : W.ownsRow w.heap.size 3 1 vo pre.length (intV pre)) (h6 : (W.alloc o).grownBy w6 vo.ownBlock) : KeepsWalks W (w6.setCell ⟨ob, 0, none⟩ vo') := by
  refine ((KeepsWalks.alloc W o).trans (KeepsWalks.of_grownBy h6 fun j x e hx => ?_)).trans (KeepsWalks.setCell _ _ _)
  rcases hown.2 with ⟨hv, _⟩ | ⟨g, cap, cur, hv, _, hh, _⟩
  · rw [hv] at e; cases e
  · rw [hv] at e
    cases e
    have := ((Below.refl W.heap.size W).alloc (Nat.le_refl _) o).block g (Array.getElem?_eq_some_iff.1 hh).1
    rw [this, hh] at hx
    cases hx; rfl
set_option maxHeartbeats 4000000 in
/-- slices.AppendSeq to nil, of any iterator over ints. -/
theorem appendSeqK (g : Nat) (lb : Array Value) (eg : ∀ args w, (callFunc g args).run Try.prog w = .ok (.enter g args) w) (S : List Int → Prop) (N : Nat) (hN : N ≤ 1000000) (w : World)
    (hseq : ∀ W, Below w.heap.size w W → SeqStopsK Fence.wide 2 Try.prog g lb encI1 KeepsWalks S (fun _ => True) N W) :
    Calls Try.prog 69 #[.slice none 0 0, .func (.func g) #[] lb] w fun e w' => ∃ v xs, e = .returned v ∧ S xs ∧ w'.ownsRow w.heap.size 3 1 v xs.length (intV xs) ∧ Below w.heap.size w w' := by
  obtain ⟨i0, hi, hz0, hz1, hz2⟩ := info_parts info_int'
  refine (callsIn_wide (n := 3)).1 ?_
  refine callsIn_of_wp_marks Try.func69 rfl trivial ?_ rfl
  simp only [Try.ntmps69, List.size_toArray, List.length_cons, List.length_nil, Nat.reduceAdd, Nat.reduceSub, Array.replicate_succ, Array.replicate_zero, List.push_toArray, List.append_toArray, List.nil_append, List.cons_append]
  have HSq := Lib.hid hseq
  clear hseq
  gi_wp2
  refine abs_world (Q := fun W => Code.wpIn _ _ _ _ _ _ W) (F := fun W => W.heap.size = w.heap.size + 1 ∧ Below w.heap.size w W ∧ SeqI w w.heap.size N [] W) _ ?_ ?_
  · have hb := (Below.refl w.heap.size w).alloc (Nat.le_refl _) (.cells #[.slice none 0 0] 25)
    exact ⟨by simp, hb, .slice none 0 0, hb, by simp, ⟨cell_new rfl rfl rfl, thawed_new' _ _ _ 0 rfl⟩, World.ownsRow_nil _ _ _ _, (fun e => by cases e), Nat.zero_le _⟩
  rintro w3 ⟨hz3, hB3, hI3⟩
  have HI3 := Lib.hid hI3
  clear hI3
  refine wpIn_rangeFunc_ownH rfl (by omega) (gf := g) (lb := lb) rfl trivial eg
    (HSq.out w3 hB3) walksK_t walksK_b (Below.refl _ _) (fun _ => rfl)
    (SeqI w w.heap.size N) (fun _ _ _ => False)
    (SeqI.from w w.heap.size N _ (by omega))
    (fun _ _ _ _ _ hs _ _ => hs)
    HI3.out
    (fun (x : Int) (a' : Act) (_ : World) => a' = { tmps := #[.slice none 0 0, .func (.func g) #[] lb, .pointer (some ⟨w.heap.size, 0, none⟩), undef, .slice none 0 0, .int .i64 x, .func (.func g) #[] lb, .int .i64 x, undef, undef, undef, undef, undef], defers := [] })
    (fun _ _ _ _ _ _ h _ _ => h) ?assign ?body ?done ?stop
  case assign =>
    intro l2 pre x W K hI hK
    unfold encI1
    gi_wp2
    exact hK _ _ (KeepsFrom.refl _ _) (KeepsWalks.refl _) hI rfl
  case body =>
    rintro l2 pre x a' W hl2 hrec ⟨vo, hB, hz, ⟨hc, hf⟩, hown, hne, hN2⟩ rfl hpre
    have uc := fun o => cell_al hc o
    have vf := fun o => (Below.frozen ((Below.refl W.heap.size W).alloc (Nat.le_refl _) o) (p := ⟨w.heap.size, 0, none⟩) (lt_of_cell hc)).trans hf
    have HO := Lib.hid hown
    have HB := Lib.hid (show _ ∧ _ ∧ _ from ⟨hB, hc, hf⟩)
    have hwz := hB.size
    clear hown hB
    gi_wp2_with (gi_at_builtin; refine wpListIn_append_own_at _ rfl _ _ 25 rfl w.heap.size 3 i0 (.int .i64 0) 1 8 Try.underlying25 hi hz0 hz1 hz2 rfl (by decide) vo pre.length (intV pre) rfl (HO.out.alloc _) ⟨W.heap.size, 0, none⟩ 1 1 [.int .i64 x] rfl rfl (newsT W _ _ _ rfl) (by intro v hv; rw [List.mem_singleton.1 hv]; rfl) (by unfold maxLen; omega) (by omega) (by simp; omega) ?_; intro v' w6 hown6 hgrow6 _ hat6; have HT := Lib.hid (seq_round (Nat.le_refl _) (show w.heap.size < w3.heap.size by omega) HB.out.1 hz HB.out.2.1 HB.out.2.2 HO.out hne hpre hgrow6 hat6 hown6); have HK := Lib.hid (seq_walks (ob := w.heap.size) (vo' := v') HO.out hgrow6); have hc6 : w6.cell? ⟨w.heap.size, 0, none⟩ = some vo := (World.cell?_of_block (hgrow6.block w.heap.size (lt_of_cell (uc _)) (fun e => hne e.symm))).trans (uc _); have hf6 : w6.frozen? ⟨w.heap.size, 0, none⟩ = false := (World.frozen?_of_block (hgrow6.block w.heap.size (lt_of_cell (uc _)) (fun e => hne e.symm))).trans (vf _); obtain ⟨a9, c9, rfl, hc9⟩ := own_slice hown6; clear hown6 hgrow6 hat6)
    exact ⟨HT.out.1, HK.out, HT.out.2.2⟩
  case done =>
    rintro D xs W hD hS ⟨vo, hB, hz, ⟨hc, hf⟩, hown, hne, hN2⟩ hK
    have HOwn := Lib.hid hown
    have HB := Lib.hid hB
    clear hown hB
    gi_wp2
    refine ⟨by simp, .inl ⟨_, _, rfl, run_takeDeferred hK, ?_⟩⟩
    have hk : (W.putObj D (.deferred none)).ownsRow w.heap.size 3 1 vo xs.length (intV xs) := HOwn.out.kept (grownBy_putObj' W D _) (by
      cases hv : vo.ownBlock with
      | none => exact Or.inl rfl
      | some g =>
        refine Or.inr fun e => ?_
        rcases HOwn.out.2 with ⟨hv2, _⟩ | ⟨g', cap, cur, hv2, _, hh, _⟩
        · rw [hv2] at hv; cases hv
        · rw [hv2] at hv; cases hv; cases e
          rw [hh] at hK; cases hK)
    exact ⟨_, results_tmp rfl _ _ _, vo, xs, rfl, hS, hk, HB.out.trans (belowK_b (w := w) (Nat.le_refl _) W D _ _ (by omega) hK rfl rfl)⟩
  case stop =>
    rintro D c' pre W _ _ h _
    exact h.elim
set_option maxHeartbeats 1000000 in
theorem collectK (g : Nat) (lb : Array Value) (eg : ∀ args w, (callFunc g args).run Try.prog w = .ok (.enter g args) w) (S : List Int → Prop) (N : Nat) (hN : N ≤ 1000000) (w : World)
    (hseq : ∀ W, Below w.heap.size w W → SeqStopsK Fence.wide 2 Try.prog g lb encI1 KeepsWalks S (fun _ => True) N W) :
    Calls Try.prog 54 #[.func (.func g) #[] lb] w fun e w' => ∃ v xs, e = .returned v ∧ S xs ∧ ownI w' w.heap.size v xs ∧ Below w.heap.size w w' := by
  have HA := Lib.hid (appendSeqK g lb eg S N hN w hseq)
  clear hseq eg
  go_enter Try.func54, Try.ntmps54
  go_wp2_with (go_at_call 69; refine HA.out.mono ?_; rintro e w1 ⟨v, xs, rfl, hS, hown, hb⟩)
  go_ret
  exact ⟨v, xs, rfl, hS, hown, hb⟩
set_option maxHeartbeats 2000000 in
theorem sortedK (g : Nat) (lb : Array Value) (eg : ∀ args w, (callFunc g args).run Try.prog w = .ok (.enter g args) w) (S : List Int → Prop) (N : Nat) (hN : N ≤ 1000000) (hSN : ∀ xs, S xs → xs.length ≤ 1000000) (w : World)
    (hseq : ∀ W, Below w.heap.size w W → SeqStopsK Fence.wide 2 Try.prog g lb encI1 KeepsWalks S (fun _ => True) N W) :
    Calls Try.prog 32 #[.func (.func g) #[] lb] w fun e w' => ∃ v xs, e = .returned v ∧ S xs ∧ ownI w' w.heap.size v (sortZ xs) ∧ Below w.heap.size w w' := by
  have HA := Lib.hid (collectK g lb eg S N hN w hseq)
  have HSN := Lib.hid hSN
  clear hseq eg hSN
  go_enter Try.func32, Try.ntmps32
  go_wp2_with fail
  refine HA.out.mono ?_
  rintro e w1 ⟨v, zs, rfl, hS, hown, hb⟩
  have hl := HSN.out zs hS
  have HSx := Lib.hid hS
  clear hS HSN
  rcases hown.2 with ⟨rfl, hz⟩ | ⟨gb, cap, cur, rfl, hbase, hgb, r1, r2, r3, r4⟩
  · have hzs : zs = [] := List.eq_nil_of_length_eq_zero hz
    subst hzs
    have HB := Lib.hid hb
    have hn : sortZ [] = [] := by simp [sortZ]
    clear hown hb hz hl
    go_wp2_with fail
    refine (Try.slices_Sort_int_none none 0 w1).mono ?_
    rintro e w' ⟨rfl, rfl⟩
    go_wp2
    go_ret
    exact ⟨.slice none 0 0, [], rfl, HSx.out, by rw [hn]; exact World.ownsRow_nil _ _ _ _, HB.out⟩
  · have hH : Holds (Value.int .i64) w1 gb 0 zs.toArray := holds_of_block_i hgb (by simpa [intV] using r4)
    have hgl : gb < w1.heap.size := (Array.getElem?_eq_some_iff.1 hgb).1
    have cS := Try.slices_Sort_int gb 0 cap zs w1 hH hgl (by omega)
    have HB := Lib.hid hb
    have HR := Lib.hid (show _ ∧ _ ∧ _ ∧ _ ∧ _ from ⟨hbase, hgb, r1, r2, r3⟩)
    clear hown hb hH r4 hgb
    go_wp2_with fail
    refine cS.mono ?_
    rintro e w' ⟨rfl, nn, os, rfl⟩
    have ho : (grow (putRow (Value.int .i64) (Sort.ahead w1 nn) gb 0 (sortZ zs).toArray) os).ownsRow w.heap.size 3 1 (.slice (some ⟨gb, 0, none⟩) zs.length cap) zs.length (intV (sortZ zs)) :=
      ownsRow_sorted_i (sortZ_len zs) HR.out.1 HR.out.2.1 HR.out.2.2.1 HR.out.2.2.2.1 HR.out.2.2.2.2
    have hbb : Below w.heap.size w (grow (putRow (Value.int .i64) (Sort.ahead w1 nn) gb 0 (sortZ zs).toArray) os) := HB.out.grown (grownBy_sorted_i _) HB.out.size (fun j hj => by cases hj; exact HR.out.1)
    have HO := Lib.hid (show _ ∧ _ from ⟨ho, hbb⟩)
    clear ho hbb cS HR HB
    obtain ⟨w2, hw2⟩ : ∃ w2, w2 = grow (putRow (Value.int .i64) (Sort.ahead w1 nn) gb 0 (zs.mergeSort fun x y => decide (x ≤ y)).toArray) os := ⟨_, rfl⟩
    have HO2 : Hid (w2.ownsRow w.heap.size 3 1 (.slice (some ⟨gb, 0, none⟩) zs.length cap) zs.length (intV (sortZ zs)) ∧ Below w.heap.size w w2) := by rw [hw2]; exact HO.out
    rw [← hw2]
    clear HO hw2
    go_wp2
    go_ret
    refine ⟨_, zs, rfl, HSx.out, ?_, HO2.out.2⟩
    unfold ownI
    rw [sortZ_len]
    exact HO2.out.1
/-- A row that holds a map's keys. -/
def KyOf (G : Int → Option Value) (xs : List Int) : Prop := xs.Nodup ∧ ∀ k, k ∈ xs ↔ (G k).isSome = true
theorem keys_of {w : World} {mb n Bs : Nat} {G : Int → Option Value} (h : MapV w mb n G) (hBs : Bs < w.heap.size) (hm : w.cell? ⟨Bs, 0, none⟩ = some (.map (some mb))) {N : Nat} (hN : ∀ L : List Int, L.Nodup → (∀ k ∈ L, (G k).isSome = true) → L.length ≤ N) :
    ∃ D : DataW Value, Maps.size D ≤ N ∧ (∀ xs, xs.Perm (intKeys D) → KyOf G xs) ∧ ∀ W, Below w.heap.size w W → SeqStopsK Fence.wide 2 Try.prog 56 #[.pointer (some ⟨Bs, 0, none⟩)] encI1 KeepsWalks (fun xs => xs.Perm (intKeys D)) (fun _ => True) (Maps.size D) W := by
  obtain ⟨D, h1, h2, h3, h4, -, h5⟩ := h.keys
  refine ⟨D, by rw [h5]; exact hN _ h3 (fun k hk => (h4 k).1 hk), fun xs hp => ⟨hp.nodup_iff.2 h3, fun k => by rw [hp.mem_iff]; exact h4 k⟩, fun W hb => ?_⟩
  refine keys_stops 2 (by omega) Bs mb n D W (Nat.lt_of_lt_of_le hBs hb.size) ((bcell hb hBs _).trans hm) ?_
  have hbl := h1.lt
  obtain ⟨es, clock, hh, Ft, hs, hD⟩ := h1
  exact ⟨es, clock, (hb.block mb hbl).trans hh, Ft, hs, hD⟩
/-- slices.Collect(maps.Keys(m)). -/
theorem collectKeys_any {w : World} {mb n Bs : Nat} {G : Int → Option Value} (h : MapV w mb n G) (hBs : Bs < w.heap.size) (hm : w.cell? ⟨Bs, 0, none⟩ = some (.map (some mb))) {N : Nat} (hN1 : N ≤ 1000000) (hN : ∀ L : List Int, L.Nodup → (∀ k ∈ L, (G k).isSome = true) → L.length ≤ N) :
    Calls Try.prog 54 #[.func (.func 56) #[] #[.pointer (some ⟨Bs, 0, none⟩)]] w fun e w' => ∃ v xs, e = .returned v ∧ KyOf G xs ∧ ownI w' w.heap.size v xs ∧ Below w.heap.size w w' := by
  obtain ⟨D, h1, h2, h3⟩ := keys_of h hBs hm hN
  refine (collectK _ _ (enters_of Try.func56 (by kernel_rfl) rfl) _ _ (by omega) w h3).mono ?_
  rintro e w' ⟨v, xs, rfl, hS, ho, hb⟩
  exact ⟨v, xs, rfl, h2 xs hS, ho, hb⟩
/-- slices.Sorted(maps.Keys(m)). -/
theorem sortedKeys_any {w : World} {mb n Bs : Nat} {G : Int → Option Value} (h : MapV w mb n G) (hBs : Bs < w.heap.size) (hm : w.cell? ⟨Bs, 0, none⟩ = some (.map (some mb))) {N : Nat} (hN1 : N ≤ 1000000) (hN : ∀ L : List Int, L.Nodup → (∀ k ∈ L, (G k).isSome = true) → L.length ≤ N) :
    Calls Try.prog 32 #[.func (.func 56) #[] #[.pointer (some ⟨Bs, 0, none⟩)]] w fun e w' => ∃ v xs, e = .returned v ∧ KyOf G xs ∧ ownI w' w.heap.size v (sortZ xs) ∧ Below w.heap.size w w' := by
  obtain ⟨D, h1, h2, h3⟩ := keys_of h hBs hm hN
  refine (sortedK _ _ (enters_of Try.func56 (by kernel_rfl) rfl) _ _ (by omega) (fun xs hx => ?_) w h3).mono ?_
  · have := hN xs (h2 xs hx).1 (fun k hk => ((h2 xs hx).2 k).1 hk)
    omega
  · rintro e w' ⟨v, xs, rfl, hS, ho, hb⟩
    exact ⟨v, xs, rfl, h2 xs hS, ho, hb⟩
end Go.Proofs.Ytbibndpkcilblaa
namespace Go.Proofs.Ytbibndpkcilblaa
open Go.RowKit Go.Shelf Go.Sort
set_option maxRecDepth 100000

set_option maxHeartbeats 1000000 in
theorem idxI_any (g : Nat) (lb : Array Value) (eg : ∀ args w, (callFunc g args).run Try.prog w = .ok (.enter g args) w) (pr : Int → Bool) (A : Option Addr) (c : Nat) (zs : List (Int)) (w : World)
    (hs : SlI w w.heap.size A zs) (hn : zs.length ≤ 4611686018427387904) (hp : ∀ x, x ∈ zs → ∀ w', Below w.heap.size w w' → Calls Try.prog g (#[.int .i64 x] ++ lb) w' fun e w2 => e = .returned (.bool (pr x)) ∧ Below w'.heap.size w' w2) :
    Calls Try.prog 60 #[.slice A zs.length c, .func (.func g) #[] lb] w fun e w' => e = .returned (.int .i64 (idxE pr zs)) ∧ Below w.heap.size w w' := by
  go_enter Try.func60, Try.ntmps60
  go_wp2
  go_loopw [8] (fun i wr => ∃ k : Nat, k ≤ zs.length ∧ i = .int .i64 k ∧ Hid (∀ j y, j < k → zs[j]? = some y → pr y = false) ∧ Below w.heap.size w wr) (fun i _ => zs.length - (intOf i).toNat)
  case atStart => exact ⟨0, Nat.zero_le _, rfl, fun j _ hj => absurd hj (Nat.not_lt_zero j), Below.refl _ _⟩
  case round =>
    obtain ⟨k, hk, rfl, H, hbw⟩ := hrel
    by_cases hlt : k < zs.length
    · obtain ⟨b, off, z, rfl, hB, hr, q0⟩ := hs.at_ hlt
      have c0 := (bcell hbw hB _).trans q0
      have hcall := hp z (List.mem_of_getElem? hr) wr hbw
      have HR : Hid (zs[k]? = some z) := hr
      clear hr hs hp q0
      cases hq : pr z with
      | true =>
        rw [hq] at hcall
        have HQ : Hid (pr z = true) := hq
        clear hq
        go_wp2_with (go_at_fn g; refine hcall.mono ?_; rintro e w' ⟨rfl, hb1⟩)
        go_ret
        exact ⟨ret_int (idxE_hit HR.out HQ.out H.out).symm, hbw.trans (hb1.mono hbw.size)⟩
      | false =>
        rw [hq] at hcall
        have HQ : Hid (pr z = false) := hq
        clear hq
        go_wp2_with (go_at_fn g; refine hcall.mono ?_; rintro e w' ⟨rfl, hb1⟩)
        go_roundw
        case rel =>
          refine ⟨k + 1, by omega, by go_num, fun j y hj hy => ?_, hbw.trans (hb1.mono hbw.size)⟩
          by_cases e : j = k
          · subst e; rw [HR.out] at hy; injection hy with hy; subst hy; exact HQ.out
          · exact H.out j y (by omega) hy
        case measure => simp [intOf]; omega
    · have HE : Hid (idxE pr zs = -1) := idxE_none (fun j y hj => H.out j y (by omega))
      clear H hs hp
      go_wp2
      go_ret
      exact ⟨ret_int HE.out.symm, hbw⟩
theorem contI_any (g : Nat) (lb : Array Value) (eg : ∀ args w, (callFunc g args).run Try.prog w = .ok (.enter g args) w) (pr : Int → Bool) (A : Option Addr) (c : Nat) (zs : List (Int)) (w : World)
    (hs : SlI w w.heap.size A zs) (hn : zs.length ≤ 4611686018427387904) (hp : ∀ x, x ∈ zs → ∀ w', Below w.heap.size w w' → Calls Try.prog g (#[.int .i64 x] ++ lb) w' fun e w2 => e = .returned (.bool (pr x)) ∧ Below w'.heap.size w' w2) :
    Calls Try.prog 37 #[.slice A zs.length c, .func (.func g) #[] lb] w fun e w' => e = .returned (.bool (zs.any pr)) ∧ Below w.heap.size w w' := by
  have HA : Hid (decide (0 ≤ idxE pr zs) = zs.any pr) := idxE_any pr zs
  have hcall := Lib.hid (idxI_any g lb eg pr A c zs w hs hn hp)
  clear hs hp eg
  go_enter Try.func37, Try.ntmps37
  go_wp2_with (go_at_call 60; refine hcall.out.mono ?_; rintro e w' ⟨rfl, hb1⟩)
  go_ret
  exact ⟨ret_bool (by first | exact HA.out | (rw [← HA.out]; simp)), hb1⟩
end Go.Proofs.Ytbibndpkcilblaa
namespace Go.Proofs.Ytbibndpkcilblaa
open Go.RowKit Go.Shelf
set_option maxRecDepth 100000

/-- A row of memory: the slice v holds n elements of sz cells, the cells xs. -/
structure Own where
  e : TypeId
  sz : Nat
  n : Nat
  v : Value
  xs : List Value
def Own.lies (o : Own) (w : World) (B : Nat) : Prop := w.ownsRow B o.e o.sz o.v o.n o.xs
def apart (a b : Own) : Prop := ∀ k, a.v.ownBlock = some k → b.v.ownBlock ≠ some k
theorem apart_symm {a b : Own} (h : apart a b) : apart b a := fun k hb ha => h k ha hb
structure Owns (w : World) (B : Nat) (L : List Own) : Prop where
  all : ∀ o ∈ L, o.lies w B
  apart : L.Pairwise apart
theorem Owns.nil {w : World} {B : Nat} : Owns w B [] := ⟨fun _ h => absurd h List.not_mem_nil, List.Pairwise.nil⟩
theorem Owns.perm {w : World} {B : Nat} {L L' : List Own} (h : Owns w B L) (p : L.Perm L') : Owns w B L' :=
  ⟨fun o ho => h.all o (p.mem_iff.2 ho), (p.pairwise_iff (fun h => apart_symm h)).1 h.apart⟩
theorem Owns.sub {w : World} {B : Nat} {L L' : List Own} (h : Owns w B L) (s : L'.Sublist L) : Owns w B L' :=
  ⟨fun o ho => h.all o (s.subset ho), h.apart.sublist s⟩
theorem Owns.tail {w : World} {B : Nat} {o : Own} {L : List Own} (h : Owns w B (o :: L)) : Owns w B L := h.sub (List.sublist_cons_self _ _)
theorem Owns.head {w : World} {B : Nat} {o : Own} {L : List Own} (h : Owns w B (o :: L)) : o.lies w B := h.all o List.mem_cons_self
theorem Owns.to {w w' : World} {B : Nat} {L : List Own} (h : Owns w B L) (hb : Below w.heap.size w w') : Owns w' B L :=
  ⟨fun o ho => own_below (h.all o ho) hb (Nat.le_refl _), h.apart⟩
/-- One row is turned, into a row in the same block or in a new one. -/
theorem Owns.turn {w w' : World} {B : Nat} {o o' : Own} {L : List Own} (h : Owns w B (o :: L)) (hg : w.grownBy w' o.v.ownBlock) (ho : o'.lies w' B)
    (hn : ∀ k, o'.v.ownBlock = some k → o.v.ownBlock = some k ∨ w.heap.size ≤ k) : Owns w' B (o' :: L) := by
  have hp := List.pairwise_cons.1 h.apart
  refine ⟨fun x hx => ?_, List.pairwise_cons.2 ⟨fun x hx k hk => ?_, hp.2⟩⟩
  · rcases List.mem_cons.1 hx with rfl | hx
    · exact ho
    · refine World.ownsRow.kept (h.all x (List.mem_cons_of_mem _ hx)) hg ?_
      cases e : x.v.ownBlock with
      | none => exact Or.inl rfl
      | some k => exact Or.inr fun e2 => hp.1 x hx k e2.symm e
  · rcases hn k hk with h1 | h1
    · exact hp.1 x hx k h1
    · intro e
      have := (World.ownsRow.lt (h.all x (List.mem_cons_of_mem _ hx)) k e).2
      omega
/-- A row is made anew. -/
theorem Owns.add {w w' : World} {B : Nat} {o : Own} {L : List Own} (h : Owns w B L) (hb : Below w.heap.size w w') (hB : B ≤ w.heap.size) (ho : o.lies w' w.heap.size) : Owns w' B (o :: L) := by
  refine ⟨fun x hx => ?_, List.pairwise_cons.2 ⟨fun x hx k hk e => ?_, (h.to hb).apart⟩⟩
  · rcases List.mem_cons.1 hx with rfl | hx
    · exact World.ownsRow.mono ho hB
    · exact (h.to hb).all x hx
  · have h1 := (World.ownsRow.lt ho k hk).1
    have h2 := (World.ownsRow.lt (h.all x hx) k e).2
    omega
theorem Owns.swap {w : World} {B : Nat} {a b : Own} {L : List Own} (h : Owns w B (a :: b :: L)) : Owns w B (b :: a :: L) := h.perm (List.Perm.swap ..)
/-- A row that is nil. -/
theorem Owns.none {w : World} {B : Nat} {L : List Own} (h : Owns w B L) (e : TypeId) (sz : Nat) : Owns w B (⟨e, sz, 0, .slice none 0 0, []⟩ :: L) :=
  ⟨fun x hx => by
    rcases List.mem_cons.1 hx with rfl | hx
    · exact World.ownsRow_nil ..
    · exact h.all x hx, List.pairwise_cons.2 ⟨fun x _ k hk => by simp [Value.ownBlock] at hk, h.apart⟩⟩
theorem Below.of_grown {w w' : World} {B : Nat} {row : Option Nat} (hg : w.grownBy w' row) (hB : B ≤ w.heap.size) (hr : ∀ k, row = some k → B ≤ k) : Below B w w' := (Below.refl B w).grown hg hB hr
theorem grown_trans {w w' w'' : World} {row : Option Nat} (h : w.grownBy w' row) (h' : w'.grownBy w'' row) : w.grownBy w'' row :=
  ⟨h'.os.trans h.os, h'.tape.trans h.tape, h'.output.trans h.output, Nat.le_trans h.size h'.size, fun k hk hn => (h'.block k (Nat.lt_of_lt_of_le hk h.size) hn).trans (h.block k hk hn)⟩
theorem grown_below {w w' : World} {row : Option Nat} (h : Below w.heap.size w w') : w.grownBy w' row := ⟨h.os, h.tape, h.output, h.size, fun k hk _ => h.block k hk⟩
end Go.Proofs.Ytbibndpkcilblaa
