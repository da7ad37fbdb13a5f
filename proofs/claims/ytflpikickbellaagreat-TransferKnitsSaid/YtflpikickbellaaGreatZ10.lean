/- append, copy and clear on a row whose elements have several cells, as steps of a walk. -/
import Derived.Test.YtflpikickbellaaGreatZ9
import Derived.Laws.CopyOwn
import Derived.Lib.AppendZerosOnto
import Derived.Lib.Overlaps
import Derived.Laws.Externs
namespace Go.Proofs.YtflpikickbellaaGreat
open Go.RowKit Go.Shelf
set_option maxRecDepth 100000
section
variable {P : Program}
theorem step_append_run {ops : Array Oper} {o : Oper} {a : Act} {w : World} {K : Act → World → Prop} {Q : Exit → Act → World → Prop} {E : Prop}
 (hg : o.guard = none) (d x : Operand) (dT sT : TypeId) (hop : o.op = Op.call { callee := Callee.builtin Builtin.append, args := #[d, x], argTypes := #[dT, sT] })
 (v u : Value) (hd : a.eval d = v) (hx : a.eval x = u) {v' : Value} {w' : World} (hr : (Builtin.append_ #[dT, sT] o.type #[v, u]).run P w = .ok v' w') (hK : K (a.put o.dst v') w') :
 if Region.wanted o (yielded ops a.tmps) = true then Oper.wp P o a w K Q else E := by
 have hw : Region.wanted o (yielded ops a.tmps) = true := by simp [Region.wanted, hg]
 rw [if_pos hw]
 unfold Oper.wp
 simp [execOp, hop, resolve, invoke, builtin, hd, hx, hr, Result.andThen]
 exact hK
theorem step_copy_run {ops : Array Oper} {o : Oper} {a : Act} {w : World} {K : Act → World → Prop} {Q : Exit → Act → World → Prop} {E : Prop}
 (hg : o.guard = none) (d x : Operand) (dT sT : TypeId) (hop : o.op = Op.call { callee := Callee.builtin Builtin.copy, args := #[d, x], argTypes := #[dT, sT] })
 (v u : Value) (hd : a.eval d = v) (hx : a.eval x = u) {v' : Value} {w' : World} (hr : (Builtin.copy_ #[dT, sT] o.type #[v, u]).run P w = .ok v' w') (hK : K (a.put o.dst v') w') :
 if Region.wanted o (yielded ops a.tmps) = true then Oper.wp P o a w K Q else E := by
 have hw : Region.wanted o (yielded ops a.tmps) = true := by simp [Region.wanted, hg]
 rw [if_pos hw]
 unfold Oper.wp
 simp [execOp, hop, resolve, invoke, builtin, hd, hx, hr, Result.andThen]
 exact hK
theorem wpList_copy_run (w : World) {ops : Array Oper} {rest : List Oper} {o : Oper} {a : Act} {Q : Exit → Act → World → Prop} (hgd : o.guard = none) (d s : Operand) (t t' : TypeId)
 (ho : o.op = .call { callee := .builtin .copy, args := #[d, s], argTypes := #[t, t'] }) (v u : Value) (hd : a.eval d = v) (hs : a.eval s = u) {v' : Value} {w' : World}
 (hr : (Builtin.copy_ #[t, t'] o.type #[v, u]).run P w = .ok v' w') (h : wpList P ops Q rest (a.put o.dst v') w') : wpList P ops Q (o :: rest) a w :=
 wpList_plain hgd fun K hK => by
  unfold Oper.wp
  simp [execOp, ho, resolve, invoke, builtin, hd, hs, hr, Result.andThen]
  exact hK _ _ h
theorem wpList_clear_run (w : World) {ops : Array Oper} {rest : List Oper} {o : Oper} {a : Act} {Q : Exit → Act → World → Prop} (hgd : o.guard = none) (d : Operand) (t : TypeId)
 (ho : o.op = .call { callee := .builtin .clear, args := #[d], argTypes := #[t] }) (v : Value) (hd : a.eval d = v) {v' : Value} {w' : World}
 (hr : (Builtin.clear_ #[t] o.type #[v]).run P w = .ok v' w') (h : wpList P ops Q rest (a.put o.dst v') w') : wpList P ops Q (o :: rest) a w :=
 wpList_plain hgd fun K hK => by
  unfold Oper.wp
  simp [execOp, ho, resolve, invoke, builtin, hd, hr, Result.andThen]
  exact hK _ _ h
theorem run_copy_rowk (w : World) (dT sT ty elem : TypeId) (g o dLen dCap : Nat) (a : Addr) (sLen sCap : Nat) (cur : Array Value) (t : TypeId) (cs : List Value) (k m : Nat)
 (hu : P.underlying dT = some (.slice elem)) (hs : (P.info? elem).map (·.size) = some k)
 (hg : w.heap[g]? = some (.cells cur t (0, 0))) (hm : Nat.min sLen dLen = m) (hn : cs.length = m * k)
 (hsrc : ∀ j v, cs[j]? = some v → w.cell? (a.add j) = some v) (hfit : o + cs.length ≤ cur.size) (h1 : ∀ v ∈ cs, v.oneCell' = true) :
 (Builtin.copy_ #[dT, sT] ty #[.slice (some ⟨g, o, none⟩) dLen dCap, .slice (some a) sLen sCap]).run P w =
   .ok (goInt m) (w.setRow g (splice cur.toList o cs).toArray) := by
 have hl := run_loadCells_list (P := P) w a cs hsrc
 have hst := run_storeCells_at P g o t cs 0 cur w hg (by simpa using hfit) h1
 cases hq : P.info? elem with
 | none => simp [hq] at hs
 | some i =>
   have hi : i.size = k := by simpa [hq] using hs
   simp [Builtin.copy_, run_underlying hu, Builtin.lenOf, Builtin.firstCells, sizeOf, typeInfo, hq, hi, hm, ← hn, hl, hst, splice]
theorem run_clear_rowk (w : World) (t e ty : TypeId) (z : Value) (ht : P.underlying t = some (.slice e)) (hv : ∀ w, (zeroValue e).run P w = .ok z w) (g o c : Nat) (cur : Array Value) (te : TypeId) (zs : List Value)
 (hg : w.heap[g]? = some (.cells cur te (0, 0))) (hz : (Builtin.zeroCells z.cells 1).toList = zs) (hfit : o + zs.length ≤ cur.size) (h1 : ∀ v ∈ zs, v.oneCell' = true) :
 (Builtin.clear_ #[t] ty #[.slice (some ⟨g, o, none⟩) 1 c]).run P w = .ok (.tuple #[]) (w.setRow g (splice cur.toList o zs).toArray) := by
 have hst := run_storeCells_at P g o te zs 0 cur w hg (by simpa using hfit) h1
 simp [Builtin.clear_, run_underlying ht, hv, hz, hst, splice]
end
theorem addr_plus (b off j : Nat) : (⟨b, off, none⟩ : Addr).add j = ⟨b, off + j, none⟩ := by unfold Addr.add; split <;> simp_all
theorem own_whole {w : World} {B : Nat} {e : TypeId} {sz n g c : Nat} {xs : List Value} (h : w.ownsRow B e sz (.slice (some ⟨g, 0, none⟩) n c) n xs) :
 ∃ cur, w.heap[g]? = some (.cells cur e (0, 0)) ∧ B ≤ g ∧ n ≤ c ∧ c ≤ maxLen ∧ cur.size = c * sz ∧ cur.toList.take (n * sz) = xs ∧ xs.length = n * sz := by
 rcases h.2 with ⟨hv, _⟩ | ⟨g', cap, cur, hv, hb, hg, h1, h2, h3, h4⟩
 · cases hv
 · cases hv
   exact ⟨cur, hg, hb, h1, h2, h3, h4, h.1⟩
theorem own_of_whole {w : World} {B : Nat} {e : TypeId} {sz n g c : Nat} {cur : Array Value} (hg : w.heap[g]? = some (.cells cur e (0, 0))) (hb : B ≤ g) (h1 : n ≤ c) (h2 : c ≤ maxLen) (h3 : cur.size = c * sz) :
 w.ownsRow B e sz (.slice (some ⟨g, 0, none⟩) n c) n (cur.toList.take (n * sz)) :=
 ⟨by rw [List.length_take, Array.length_toList, h3]; exact Nat.min_eq_left (Nat.mul_le_mul_right _ h1), Or.inr ⟨g, c, cur, rfl, hb, hg, h1, h2, h3, rfl⟩⟩
theorem cell_whole {w : World} {g : Nat} {e : TypeId} {cur : Array Value} (hg : w.heap[g]? = some (.cells cur e (0, 0))) (j : Nat) : w.cell? ⟨g, j, none⟩ = cur[j]? := by simp [World.cell?, hg]
theorem splice_len {l : List Value} {o : Nat} {cs : List Value} (h : o + cs.length ≤ l.length) : (splice l o cs).toArray.size = l.length := by simp [splice]; omega
theorem grown_setRow (w : World) (g : Nat) (cs : Array Value) : w.grownBy (w.setRow g cs) (some g) := ⟨rfl, rfl, rfl, by simp [World.setRow], fun k _ hk => setRow_other w g k cs (fun e => hk (by rw [e]))⟩
theorem heap_setRow {w : World} {g : Nat} {cur cs : Array Value} {e : TypeId} (hg : w.heap[g]? = some (.cells cur e (0, 0))) : (w.setRow g cs).heap[g]? = some (.cells cs e (0, 0)) := setRow_heap w g cur cs e _ hg
theorem splice_take {l : List Value} {o n : Nat} {cs : List Value} (ho : o ≤ l.length) (hn : n ≤ o) : (splice l o cs).take n = l.take n := by
 unfold splice
 rw [List.take_append_of_le_length (by rw [List.length_take]; omega), List.take_take, Nat.min_eq_left hn]
end Go.Proofs.YtflpikickbellaaGreat
namespace Go.Proofs.YtflpikickbellaaGreat
open Go.RowKit Go.Shelf Go.Sort
set_option maxRecDepth 100000
set_option maxHeartbeats 16000000 in
theorem pfree1_any (A F : Option Addr) (c fc : Nat) (s : Sft) (mb wb tb ib : Nat) (hs : SftOk s) (come : Nat → Bool) (t : Int) (i : Nat) (p : Int × Int) (hp : p ∈ s.first) (w : World) (h : WkBx wb A F c fc s mb w) (ht : w.cell? ⟨tb, 0, none⟩ = some (.int .i64 t)) (hi : w.cell? ⟨ib, 0, none⟩ = some (.int .i64 (i : Int))) (hw : WtA mb s come w) :
 Calls Tryz.prog 54 #[pairV p, .pointer (some ⟨ib, 0, none⟩), .pointer (some ⟨wb, 0, none⟩), .pointer (some ⟨tb, 0, none⟩)] w fun e w' => e = .returned (.bool (holdsI s come t i p)) ∧ Below w.heap.size w w' := by
 obtain ⟨hp1, hp2, hp3, hp4, -⟩ := hs.first p hp
 obtain ⟨x, y⟩ := p
 simp only at hp1 hp2 hp3 hp4
 obtain ⟨an, rfl⟩ : ∃ an : Nat, x = (an : Int) := ⟨x.toNat, by omega⟩
 obtain ⟨bn, rfl⟩ : ∃ bn : Nat, y = (bn : Int) := ⟨y.toNat, by omega⟩
 have hal : an < s.n := by omega
 have hH : holdsI s come t i ((an : Int), (bn : Int)) = (decide ((bn : Int) = (i : Int)) && (decide (offN s an = t) && waitN s come an)) := by
  unfold holdsI
  rw [Int.toNat_natCast]
 have hb1 := al_t w (.cells #[.int .i64 (an : Int), .int .i64 (bn : Int)] 48)
 have HB := Lib.hid hb1
 have hx1 := h.to hb1
 have HSb : Hid (∀ W', Below (w.alloc (.cells #[.int .i64 (an : Int), .int .i64 (bn : Int)] 48)).heap.size (w.alloc (.cells #[.int .i64 (an : Int), .int .i64 (bn : Int)] 48)) W' → W'.cell? ⟨wb, 0, none⟩ = some (.slice A s.to_.length c) ∧ W'.cell? ⟨wb, 1, none⟩ = some (.slice F s.first.length fc) ∧ W'.cell? ⟨wb, 2, none⟩ = some (.map (some mb)) ∧ W'.cell? ⟨tb, 0, none⟩ = some (.int .i64 t) ∧ W'.cell? ⟨ib, 0, none⟩ = some (.int .i64 (i : Int)) ∧ W'.cell? ⟨w.heap.size, 0, none⟩ = some (.int .i64 (an : Int)) ∧ W'.cell? ⟨w.heap.size, 1, none⟩ = some (.int .i64 (bn : Int)) ∧ Below (w.alloc (.cells #[.int .i64 (an : Int), .int .i64 (bn : Int)] 48)).heap.size (w.alloc (.cells #[.int .i64 (an : Int), .int .i64 (bn : Int)] 48)) W') := fun W' hb =>
  ⟨(hx1.to hb).c0, (hx1.to hb).c1, (hx1.to hb).c2, (bcell (hb1.trans (hb.mono hb1.size)) (lt_of_cell ht) _).trans ht, (bcell (hb1.trans (hb.mono hb1.size)) (lt_of_cell hi) _).trans hi, (bcell hb (by simp) _).trans (cell_new rfl rfl rfl), (bcell hb (by simp) _).trans (cell_new rfl rfl rfl), hb⟩
 have HOa : Hid (∀ W, (W.cell? ⟨wb, 0, none⟩ = some (.slice A s.to_.length c) ∧ W.cell? ⟨wb, 1, none⟩ = some (.slice F s.first.length fc) ∧ W.cell? ⟨wb, 2, none⟩ = some (.map (some mb)) ∧ W.cell? ⟨tb, 0, none⟩ = some (.int .i64 t) ∧ W.cell? ⟨ib, 0, none⟩ = some (.int .i64 (i : Int)) ∧ W.cell? ⟨w.heap.size, 0, none⟩ = some (.int .i64 (an : Int)) ∧ W.cell? ⟨w.heap.size, 1, none⟩ = some (.int .i64 (bn : Int)) ∧ Below (w.alloc (.cells #[.int .i64 (an : Int), .int .i64 (bn : Int)] 48)).heap.size (w.alloc (.cells #[.int .i64 (an : Int), .int .i64 (bn : Int)] 48)) W) → Calls Tryz.prog 51 #[wkV A F c fc s mb, .int .i64 (an : Int)] W fun e w' => e = .returned (.int .i64 (offN s an)) ∧ Below W.heap.size W w') := fun W hS => poff_later c fc mb hs hx1.at_ an W hal hS.2.2.2.2.2.2.2
 have HWa : Hid (∀ W, (W.cell? ⟨wb, 0, none⟩ = some (.slice A s.to_.length c) ∧ W.cell? ⟨wb, 1, none⟩ = some (.slice F s.first.length fc) ∧ W.cell? ⟨wb, 2, none⟩ = some (.map (some mb)) ∧ W.cell? ⟨tb, 0, none⟩ = some (.int .i64 t) ∧ W.cell? ⟨ib, 0, none⟩ = some (.int .i64 (i : Int)) ∧ W.cell? ⟨w.heap.size, 0, none⟩ = some (.int .i64 (an : Int)) ∧ W.cell? ⟨w.heap.size, 1, none⟩ = some (.int .i64 (bn : Int)) ∧ Below (w.alloc (.cells #[.int .i64 (an : Int), .int .i64 (bn : Int)] 48)).heap.size (w.alloc (.cells #[.int .i64 (an : Int), .int .i64 (bn : Int)] 48)) W) → Calls Tryz.prog 52 #[wkV A F c fc s mb, .int .i64 (an : Int)] W fun e w' => e = .returned (.bool (waitN s come an)) ∧ Below W.heap.size W w') := fun W hS => pwaiting_any A F c fc s mb hs come an hal W (hx1.at_.to hS.2.2.2.2.2.2.2) ((hw.to hb1).to hS.2.2.2.2.2.2.2)
 obtain ⟨y0, y1, y2, y3, y4, y5, y6, -⟩ := HSb.out _ (Below.refl _ _)
 obtain ⟨r, hr⟩ : ∃ r, r = holdsI s come t i ((an : Int), (bn : Int)) := ⟨_, rfl⟩
 rw [← hr] at hH ⊢
 obtain ⟨oa, hoa⟩ : ∃ oa, oa = offN s an := ⟨_, rfl⟩
 obtain ⟨q, hq⟩ : ∃ q, q = waitN s come an := ⟨_, rfl⟩
 rw [← hoa, ← hq] at hH
 simp only [← hoa] at HOa
 simp only [← hq] at HWa
 have HH := Lib.hid hH
 clear h ht hi hw hx1 hb1 hr hoa hq hH hs hp hp1 hp2 hp3 hp4 hal
 by_cases e1 : (bn : Int) = (i : Int)
 case neg =>
  have b1 : ((bn : Int) == (i : Int)) = false := beq_eq_false_iff_ne.2 e1
  have HR : Hid (r = false) := by show _ = _; rw [HH.out, decide_eq_false e1]; rfl
  clear HH e1
  go_enter Tryz.func54, Tryz.ntmps54
  go_wp2
  go_quiet (fail)
  go_wp2
  go_ret
  exact ⟨ret_bool HR.out.symm, below_drewT HB.out _⟩
 case pos =>
  obtain rfl : bn = i := by omega
  clear y0 y1 y2 y3 y4 y5 y6
  have b1 : ((bn : Int) == (bn : Int)) = true := by simp
  go_enter Tryz.func54, Tryz.ntmps54
  go_wp2
  cases b2 : (oa == t) with
  | false =>
    have HR : Hid (r = false) := by
     show _ = _
     rw [HH.out, show decide (oa = t) = false from decide_eq_false (by simpa using b2)]; simp
    clear HH
    refine wp_region_held_drew (S := fun W' => W'.cell? ⟨wb, 0, none⟩ = some (.slice A s.to_.length c) ∧ W'.cell? ⟨wb, 1, none⟩ = some (.slice F s.first.length fc) ∧ W'.cell? ⟨wb, 2, none⟩ = some (.map (some mb)) ∧ W'.cell? ⟨tb, 0, none⟩ = some (.int .i64 t) ∧ W'.cell? ⟨ib, 0, none⟩ = some (.int .i64 (bn : Int)) ∧ W'.cell? ⟨w.heap.size, 0, none⟩ = some (.int .i64 (an : Int)) ∧ W'.cell? ⟨w.heap.size, 1, none⟩ = some (.int .i64 (bn : Int)) ∧ Below (w.alloc (.cells #[.int .i64 (an : Int), .int .i64 (bn : Int)] 48)).heap.size (w.alloc (.cells #[.int .i64 (an : Int), .int .i64 (bn : Int)] 48)) W') (by kernel_rfl) (HSb.out _ (Below.drew (Below.refl _ _))) (fun hHeld => ?_)
    refine wpAnyH_take (i := 0) (v := ?_) rfl (by kernel_rfl) (by kernel_rfl) (by kernel_rfl) (fun _ _ _ h => h) (Or.inl ⟨by rfl, ?_⟩) (by assumption) ?_
    rotate_left
    · (intro w hSw; (try dsimp only at hSw); go_simp; try with_reducible rfl)
    simp only [Act.put, List.getElem_toArray, List.getElem_cons_zero, List.setIfInBounds_toArray, List.set_cons_zero, List.set_cons_succ]
    refine wpAnyH_take (i := 1) (v := ?_) rfl (by kernel_rfl) (by kernel_rfl) (by kernel_rfl) (fun _ _ _ h => h) (Or.inl ⟨by rfl, ?_⟩) (by assumption) ?_
    rotate_left
    · (intro w hSw; (try dsimp only at hSw); go_simp; try with_reducible rfl)
    simp only [Act.put, List.getElem_toArray, List.getElem_cons_zero, List.getElem_cons_succ, List.setIfInBounds_toArray, List.set_cons_zero, List.set_cons_succ]
    refine wpAnyH_take (i := 2) (v := ?_) rfl (by kernel_rfl) (by kernel_rfl) (by kernel_rfl) (fun _ _ _ h => h) (Or.inl ⟨by rfl, ?_⟩) (by assumption) ?_
    rotate_left
    · (intro w hSw; (try dsimp only at hSw); go_simp; try with_reducible rfl)
    simp only [Act.put, List.getElem_toArray, List.getElem_cons_zero, List.getElem_cons_succ, List.setIfInBounds_toArray, List.set_cons_zero, List.set_cons_succ]
    refine wpAnyH_take (i := 3) (v := ?_) rfl (by kernel_rfl) (by kernel_rfl) (by kernel_rfl) (fun _ _ _ h => h) (Or.inl ⟨by rfl, ?_⟩) (by assumption) ?_
    rotate_left
    · (intro w hSw; (try dsimp only at hSw); go_simp; try with_reducible rfl)
    simp only [Act.put, List.getElem_toArray, List.getElem_cons_zero, List.getElem_cons_succ, List.setIfInBounds_toArray, List.set_cons_zero, List.set_cons_succ]
    refine wpAnyH_take (i := 4) (v := ?_) rfl (by kernel_rfl) (by kernel_rfl) (by kernel_rfl) (fun _ _ _ h => h) (Or.inl ⟨by rfl, ?_⟩) (by assumption) ?_
    rotate_left
    · (intro w hSw; (try dsimp only at hSw); go_simp; try with_reducible rfl)
    simp only [Act.put, List.getElem_toArray, List.getElem_cons_zero, List.getElem_cons_succ, List.setIfInBounds_toArray, List.set_cons_zero, List.set_cons_succ]
    refine wpAnyH_take (i := 5) (v := ?_) rfl (by kernel_rfl) (by kernel_rfl) (by kernel_rfl) (fun _ _ _ h => h) (Or.inl ⟨by rfl, ?_⟩) (by assumption) ?_
    rotate_left
    · (intro w hSw; (try dsimp only at hSw); go_simp; try with_reducible rfl)
    simp only [Act.put, List.getElem_toArray, List.getElem_cons_zero, List.getElem_cons_succ, List.setIfInBounds_toArray, List.set_cons_zero, List.set_cons_succ]
    refine wpAnyH_take (i := 6) (v := ?_) rfl (by kernel_rfl) (by kernel_rfl) (by kernel_rfl) (fun _ _ _ h => h) (Or.inl ⟨by rfl, ?_⟩) (by assumption) ?_
    rotate_left
    · (intro w hSw; (try dsimp only at hSw); go_simp; try with_reducible rfl)
    simp only [Act.put, List.getElem_toArray, List.getElem_cons_zero, List.getElem_cons_succ, List.setIfInBounds_toArray, List.set_cons_zero, List.set_cons_succ]
    refine wpAnyH_take (i := 7) (v := ?_) rfl (by kernel_rfl) (by kernel_rfl) (by kernel_rfl) (fun _ _ _ h => h) (Or.inl ⟨by rfl, ?_⟩) (by assumption) ?_
    rotate_left
    · (intro w hSw; (try dsimp only at hSw); go_simp; try with_reducible rfl)
    simp only [Act.put, List.getElem_toArray, List.getElem_cons_zero, List.getElem_cons_succ, List.setIfInBounds_toArray, List.set_cons_zero, List.set_cons_succ]
    refine wpAnyH_take (i := 9) (v := ?_) rfl (by kernel_rfl) (by kernel_rfl) (by kernel_rfl) (fun _ _ _ h => h) (Or.inl ⟨by rfl, ?_⟩) (by assumption) ?_
    rotate_left
    · (intro w hSw; (try dsimp only at hSw); go_simp; try with_reducible rfl)
    simp only [Act.put, List.getElem_toArray, List.getElem_cons_zero, List.getElem_cons_succ, List.setIfInBounds_toArray, List.set_cons_zero, List.set_cons_succ]
    refine wpAnyH_ready (rs := [8]) (by kernel_rfl) (by simp) ?_
    refine AllReadyH.cons rfl (fun K hK => ?_) AllReadyH.nil
    go_simp
    go_at_call 51
    have hp := hHeld
    refine (HOa.out _ hp).mono ?_
    rintro e wd ⟨rfl, hbd⟩
    have hbw := hp.2.2.2.2.2.2.2.trans (hbd.mono hp.2.2.2.2.2.2.2.size)
    clear hp hbd hHeld
    go_wp2_with fail
    refine hK.out _ _ (HSb.out _ hbw) (fun hHeld => ?_)
    clear hK K hbw
    refine wpAnyH_take (i := 10) (v := ?_) rfl (by kernel_rfl) (by kernel_rfl) (by kernel_rfl) (fun _ _ _ h => h) (Or.inl ⟨by rfl, ?_⟩) (by assumption) ?_
    rotate_left
    · (intro w hSw; (try dsimp only at hSw); go_simp; try with_reducible rfl)
    simp only [Act.put, List.getElem_toArray, List.getElem_cons_zero, List.getElem_cons_succ, List.setIfInBounds_toArray, List.set_cons_zero, List.set_cons_succ]
    refine wpAnyH_take (i := 11) (v := ?_) rfl (by kernel_rfl) (by kernel_rfl) (by kernel_rfl) (fun _ _ _ h => h) (Or.inl ⟨by rfl, ?_⟩) (by assumption) ?_
    rotate_left
    · (intro w hSw; (try dsimp only at hSw); go_simp; try with_reducible rfl)
    simp only [Act.put, List.getElem_toArray, List.getElem_cons_zero, List.getElem_cons_succ, List.setIfInBounds_toArray, List.set_cons_zero, List.set_cons_succ]
    refine wpAnyH_take (i := 12) (v := ?_) rfl (by kernel_rfl) (by kernel_rfl) (by kernel_rfl) (fun _ _ _ h => h) (Or.inl ⟨by rfl, ?_⟩) (by assumption) ?_
    rotate_left
    · (intro w hSw; (try dsimp only at hSw); go_simp; try with_reducible rfl)
    simp only [Act.put, List.getElem_toArray, List.getElem_cons_zero, List.getElem_cons_succ, List.setIfInBounds_toArray, List.set_cons_zero, List.set_cons_succ]
    refine wpAnyH_take (i := 13) (v := undef) rfl (by kernel_rfl) (by kernel_rfl) (by kernel_rfl) (fun _ _ _ h => h) (Or.inr ⟨by kernel_rfl, rfl⟩) (by assumption) ?_
    simp only [Act.put, List.getElem_toArray, List.getElem_cons_zero, List.getElem_cons_succ, List.setIfInBounds_toArray, List.set_cons_zero, List.set_cons_succ]
    refine wpAnyH_take (i := 14) (v := undef) rfl (by kernel_rfl) (by kernel_rfl) (by kernel_rfl) (fun _ _ _ h => h) (Or.inr ⟨by kernel_rfl, rfl⟩) (by assumption) ?_
    simp only [Act.put, List.getElem_toArray, List.getElem_cons_zero, List.getElem_cons_succ, List.setIfInBounds_toArray, List.set_cons_zero, List.set_cons_succ]
    refine wpAnyH_take (i := 15) (v := undef) rfl (by kernel_rfl) (by kernel_rfl) (by kernel_rfl) (fun _ _ _ h => h) (Or.inr ⟨by kernel_rfl, rfl⟩) (by assumption) ?_
    simp only [Act.put, List.getElem_toArray, List.getElem_cons_zero, List.getElem_cons_succ, List.setIfInBounds_toArray, List.set_cons_zero, List.set_cons_succ]
    refine wpAnyH_take (i := 16) (v := undef) rfl (by kernel_rfl) (by kernel_rfl) (by kernel_rfl) (fun _ _ _ h => h) (Or.inr ⟨by kernel_rfl, rfl⟩) (by assumption) ?_
    simp only [Act.put, List.getElem_toArray, List.getElem_cons_zero, List.getElem_cons_succ, List.setIfInBounds_toArray, List.set_cons_zero, List.set_cons_succ]
    refine wpAnyH_take (i := 17) (v := ?_) rfl (by kernel_rfl) (by kernel_rfl) (by kernel_rfl) (fun _ _ _ h => h) (Or.inl ⟨by rfl, ?_⟩) (by assumption) ?_
    rotate_left
    · (intro w hSw; (try dsimp only at hSw); go_simp; try with_reducible rfl)
    simp only [Act.put, List.getElem_toArray, List.getElem_cons_zero, List.getElem_cons_succ, List.setIfInBounds_toArray, List.set_cons_zero, List.set_cons_succ]
    refine wpAnyH_take (i := 18) (v := ?_) rfl (by kernel_rfl) (by kernel_rfl) (by kernel_rfl) (fun _ _ _ h => h) (Or.inl ⟨by rfl, ?_⟩) (by assumption) ?_
    rotate_left
    · (intro w hSw; (try dsimp only at hSw); go_simp; try with_reducible rfl)
    simp only [Act.put, List.getElem_toArray, List.getElem_cons_zero, List.getElem_cons_succ, List.setIfInBounds_toArray, List.set_cons_zero, List.set_cons_succ]
    refine wpAnyH_done (by kernel_rfl) ?_ _
    have HB9 := Lib.hid hHeld.2.2.2.2.2.2.2
    clear hHeld
    go_wp2
    go_ret
    exact ⟨ret_bool HR.out.symm, HB.out.trans (HB9.out.mono HB.out.size)⟩
  | true =>
    have HR : Hid (r = q) := by
     show _ = _
     rw [HH.out, show decide (oa = t) = true from decide_eq_true (by simpa using b2)]; simp
    clear HH
    refine wp_region_held_drew (S := fun W' => W'.cell? ⟨wb, 0, none⟩ = some (.slice A s.to_.length c) ∧ W'.cell? ⟨wb, 1, none⟩ = some (.slice F s.first.length fc) ∧ W'.cell? ⟨wb, 2, none⟩ = some (.map (some mb)) ∧ W'.cell? ⟨tb, 0, none⟩ = some (.int .i64 t) ∧ W'.cell? ⟨ib, 0, none⟩ = some (.int .i64 (bn : Int)) ∧ W'.cell? ⟨w.heap.size, 0, none⟩ = some (.int .i64 (an : Int)) ∧ W'.cell? ⟨w.heap.size, 1, none⟩ = some (.int .i64 (bn : Int)) ∧ Below (w.alloc (.cells #[.int .i64 (an : Int), .int .i64 (bn : Int)] 48)).heap.size (w.alloc (.cells #[.int .i64 (an : Int), .int .i64 (bn : Int)] 48)) W') (by kernel_rfl) (HSb.out _ (Below.drew (Below.refl _ _))) (fun hHeld => ?_)
    refine wpAnyH_take (i := 0) (v := ?_) rfl (by kernel_rfl) (by kernel_rfl) (by kernel_rfl) (fun _ _ _ h => h) (Or.inl ⟨by rfl, ?_⟩) (by assumption) ?_
    rotate_left
    · (intro w hSw; (try dsimp only at hSw); go_simp; try with_reducible rfl)
    simp only [Act.put, List.getElem_toArray, List.getElem_cons_zero, List.setIfInBounds_toArray, List.set_cons_zero, List.set_cons_succ]
    refine wpAnyH_take (i := 1) (v := ?_) rfl (by kernel_rfl) (by kernel_rfl) (by kernel_rfl) (fun _ _ _ h => h) (Or.inl ⟨by rfl, ?_⟩) (by assumption) ?_
    rotate_left
    · (intro w hSw; (try dsimp only at hSw); go_simp; try with_reducible rfl)
    simp only [Act.put, List.getElem_toArray, List.getElem_cons_zero, List.getElem_cons_succ, List.setIfInBounds_toArray, List.set_cons_zero, List.set_cons_succ]
    refine wpAnyH_take (i := 2) (v := ?_) rfl (by kernel_rfl) (by kernel_rfl) (by kernel_rfl) (fun _ _ _ h => h) (Or.inl ⟨by rfl, ?_⟩) (by assumption) ?_
    rotate_left
    · (intro w hSw; (try dsimp only at hSw); go_simp; try with_reducible rfl)
    simp only [Act.put, List.getElem_toArray, List.getElem_cons_zero, List.getElem_cons_succ, List.setIfInBounds_toArray, List.set_cons_zero, List.set_cons_succ]
    refine wpAnyH_take (i := 3) (v := ?_) rfl (by kernel_rfl) (by kernel_rfl) (by kernel_rfl) (fun _ _ _ h => h) (Or.inl ⟨by rfl, ?_⟩) (by assumption) ?_
    rotate_left
    · (intro w hSw; (try dsimp only at hSw); go_simp; try with_reducible rfl)
    simp only [Act.put, List.getElem_toArray, List.getElem_cons_zero, List.getElem_cons_succ, List.setIfInBounds_toArray, List.set_cons_zero, List.set_cons_succ]
    refine wpAnyH_take (i := 4) (v := ?_) rfl (by kernel_rfl) (by kernel_rfl) (by kernel_rfl) (fun _ _ _ h => h) (Or.inl ⟨by rfl, ?_⟩) (by assumption) ?_
    rotate_left
    · (intro w hSw; (try dsimp only at hSw); go_simp; try with_reducible rfl)
    simp only [Act.put, List.getElem_toArray, List.getElem_cons_zero, List.getElem_cons_succ, List.setIfInBounds_toArray, List.set_cons_zero, List.set_cons_succ]
    refine wpAnyH_take (i := 5) (v := ?_) rfl (by kernel_rfl) (by kernel_rfl) (by kernel_rfl) (fun _ _ _ h => h) (Or.inl ⟨by rfl, ?_⟩) (by assumption) ?_
    rotate_left
    · (intro w hSw; (try dsimp only at hSw); go_simp; try with_reducible rfl)
    simp only [Act.put, List.getElem_toArray, List.getElem_cons_zero, List.getElem_cons_succ, List.setIfInBounds_toArray, List.set_cons_zero, List.set_cons_succ]
    refine wpAnyH_take (i := 6) (v := ?_) rfl (by kernel_rfl) (by kernel_rfl) (by kernel_rfl) (fun _ _ _ h => h) (Or.inl ⟨by rfl, ?_⟩) (by assumption) ?_
    rotate_left
    · (intro w hSw; (try dsimp only at hSw); go_simp; try with_reducible rfl)
    simp only [Act.put, List.getElem_toArray, List.getElem_cons_zero, List.getElem_cons_succ, List.setIfInBounds_toArray, List.set_cons_zero, List.set_cons_succ]
    refine wpAnyH_take (i := 7) (v := ?_) rfl (by kernel_rfl) (by kernel_rfl) (by kernel_rfl) (fun _ _ _ h => h) (Or.inl ⟨by rfl, ?_⟩) (by assumption) ?_
    rotate_left
    · (intro w hSw; (try dsimp only at hSw); go_simp; try with_reducible rfl)
    simp only [Act.put, List.getElem_toArray, List.getElem_cons_zero, List.getElem_cons_succ, List.setIfInBounds_toArray, List.set_cons_zero, List.set_cons_succ]
    refine wpAnyH_take (i := 9) (v := ?_) rfl (by kernel_rfl) (by kernel_rfl) (by kernel_rfl) (fun _ _ _ h => h) (Or.inl ⟨by rfl, ?_⟩) (by assumption) ?_
    rotate_left
    · (intro w hSw; (try dsimp only at hSw); go_simp; try with_reducible rfl)
    simp only [Act.put, List.getElem_toArray, List.getElem_cons_zero, List.getElem_cons_succ, List.setIfInBounds_toArray, List.set_cons_zero, List.set_cons_succ]
    refine wpAnyH_ready (rs := [8]) (by kernel_rfl) (by simp) ?_
    refine AllReadyH.cons rfl (fun K hK => ?_) AllReadyH.nil
    go_simp
    go_at_call 51
    have hp := hHeld
    refine (HOa.out _ hp).mono ?_
    rintro e wd ⟨rfl, hbd⟩
    have hbw := hp.2.2.2.2.2.2.2.trans (hbd.mono hp.2.2.2.2.2.2.2.size)
    clear hp hbd hHeld
    go_wp2_with fail
    refine hK.out _ _ (HSb.out _ hbw) (fun hHeld => ?_)
    clear hK K hbw
    refine wpAnyH_take (i := 10) (v := ?_) rfl (by kernel_rfl) (by kernel_rfl) (by kernel_rfl) (fun _ _ _ h => h) (Or.inl ⟨by rfl, ?_⟩) (by assumption) ?_
    rotate_left
    · (intro w hSw; (try dsimp only at hSw); go_simp; try with_reducible rfl)
    simp only [Act.put, List.getElem_toArray, List.getElem_cons_zero, List.getElem_cons_succ, List.setIfInBounds_toArray, List.set_cons_zero, List.set_cons_succ]
    refine wpAnyH_take (i := 11) (v := ?_) rfl (by kernel_rfl) (by kernel_rfl) (by kernel_rfl) (fun _ _ _ h => h) (Or.inl ⟨by rfl, ?_⟩) (by assumption) ?_
    rotate_left
    · (intro w hSw; (try dsimp only at hSw); go_simp; try with_reducible rfl)
    simp only [Act.put, List.getElem_toArray, List.getElem_cons_zero, List.getElem_cons_succ, List.setIfInBounds_toArray, List.set_cons_zero, List.set_cons_succ]
    refine wpAnyH_take (i := 12) (v := ?_) rfl (by kernel_rfl) (by kernel_rfl) (by kernel_rfl) (fun _ _ _ h => h) (Or.inl ⟨by rfl, ?_⟩) (by assumption) ?_
    rotate_left
    · (intro w hSw; (try dsimp only at hSw); go_simp; try with_reducible rfl)
    simp only [Act.put, List.getElem_toArray, List.getElem_cons_zero, List.getElem_cons_succ, List.setIfInBounds_toArray, List.set_cons_zero, List.set_cons_succ]
    refine wpAnyH_take (i := 13) (v := ?_) rfl (by kernel_rfl) (by kernel_rfl) (by kernel_rfl) (fun _ _ _ h => h) (Or.inl ⟨by rfl, ?_⟩) (by assumption) ?_
    rotate_left
    · (intro w hSw; (try dsimp only at hSw); go_simp; try with_reducible rfl)
    simp only [Act.put, List.getElem_toArray, List.getElem_cons_zero, List.getElem_cons_succ, List.setIfInBounds_toArray, List.set_cons_zero, List.set_cons_succ]
    refine wpAnyH_take (i := 14) (v := ?_) rfl (by kernel_rfl) (by kernel_rfl) (by kernel_rfl) (fun _ _ _ h => h) (Or.inl ⟨by rfl, ?_⟩) (by assumption) ?_
    rotate_left
    · (intro w hSw; (try dsimp only at hSw); go_simp; try with_reducible rfl)
    simp only [Act.put, List.getElem_toArray, List.getElem_cons_zero, List.getElem_cons_succ, List.setIfInBounds_toArray, List.set_cons_zero, List.set_cons_succ]
    refine wpAnyH_take (i := 15) (v := ?_) rfl (by kernel_rfl) (by kernel_rfl) (by kernel_rfl) (fun _ _ _ h => h) (Or.inl ⟨by rfl, ?_⟩) (by assumption) ?_
    rotate_left
    · (intro w hSw; (try dsimp only at hSw); go_simp; try with_reducible rfl)
    simp only [Act.put, List.getElem_toArray, List.getElem_cons_zero, List.getElem_cons_succ, List.setIfInBounds_toArray, List.set_cons_zero, List.set_cons_succ]
    refine wpAnyH_ready (rs := [16]) (by kernel_rfl) (by simp) ?_
    refine AllReadyH.cons rfl (fun K hK => ?_) AllReadyH.nil
    go_simp
    go_at_call 52
    have hp := hHeld
    refine (HWa.out _ hp).mono ?_
    rintro e wd ⟨rfl, hbd⟩
    have hbw := hp.2.2.2.2.2.2.2.trans (hbd.mono hp.2.2.2.2.2.2.2.size)
    clear hp hbd hHeld
    go_wp2_with fail
    refine hK.out _ _ (HSb.out _ hbw) (fun hHeld => ?_)
    clear hK K hbw
    refine wpAnyH_take (i := 17) (v := ?_) rfl (by kernel_rfl) (by kernel_rfl) (by kernel_rfl) (fun _ _ _ h => h) (Or.inl ⟨by rfl, ?_⟩) (by assumption) ?_
    rotate_left
    · (intro w hSw; (try dsimp only at hSw); go_simp; try with_reducible rfl)
    simp only [Act.put, List.getElem_toArray, List.getElem_cons_zero, List.getElem_cons_succ, List.setIfInBounds_toArray, List.set_cons_zero, List.set_cons_succ]
    refine wpAnyH_take (i := 18) (v := ?_) rfl (by kernel_rfl) (by kernel_rfl) (by kernel_rfl) (fun _ _ _ h => h) (Or.inl ⟨by rfl, ?_⟩) (by assumption) ?_
    rotate_left
    · (intro w hSw; (try dsimp only at hSw); go_simp; try with_reducible rfl)
    simp only [Act.put, List.getElem_toArray, List.getElem_cons_zero, List.getElem_cons_succ, List.setIfInBounds_toArray, List.set_cons_zero, List.set_cons_succ]
    refine wpAnyH_done (by kernel_rfl) ?_ _
    have HB9 := Lib.hid hHeld.2.2.2.2.2.2.2
    clear hHeld
    go_wp2
    go_ret
    exact ⟨ret_bool HR.out.symm, HB.out.trans (HB9.out.mono HB.out.size)⟩
theorem pdel1_any (x next : Int) (nb : Nat) (w : World) (h : w.cell? ⟨nb, 0, none⟩ = some (.int .i64 next)) :
 Calls Tryz.prog 56 #[.int .i64 x, .pointer (some ⟨nb, 0, none⟩)] w fun e w' => e = .returned (.bool (x == next)) ∧ w = w' := by
 go_enter Tryz.func56, Tryz.ntmps56
 go_wp2
 go_ret
 exact ⟨by first | rfl | trivial, rfl⟩
set_option maxHeartbeats 4000000 in
theorem pready_any (A F : Option Addr) (c fc : Nat) (s : Sft) (mb sb wb : Nat) (hs : SftOk s) (hf : s.first.length ≤ 4611686018427387904) (come : Nat → Bool) (t : Int) (w : World) (hsb : SfBx sb A F c fc s w) (h : WkBx wb A F c fc s mb w) (hw : WtA mb s come w) :
 Calls Tryz.prog 48 #[.int .i64 t, .pointer (some ⟨sb, 0, none⟩), .pointer (some ⟨wb, 0, none⟩)] w fun e w' => e = .returned (.bool (readyN s come t)) ∧ Below w.heap.size w w' := by
 have hb1 := al_t w (.cells #[.int .i64 t] 3)
 have HB := Lib.hid hb1
 have ht : (w.alloc (.cells #[.int .i64 t] 3)).cell? ⟨w.heap.size, 0, none⟩ = some (.int .i64 t) := cell_new rfl rfl rfl
 have hs1 := hsb.to hb1
 have c1 := hs1.c1
 have HC := Lib.hid (contP_any 50 #[.pointer (some ⟨wb, 0, none⟩), .pointer (some ⟨w.heap.size, 0, none⟩)] (enters_of Tryz.func50 (by kernel_rfl) rfl) (holdsS s come t) F fc s.first (w.alloc (.cells #[.int .i64 t] 3)) hs1.at_.fr hf (fun x hx w' hb => pstop1_any A F c fc s mb wb w.heap.size hs come t x hx w' ((h.to hb1).to hb) ((bcell hb (lt_of_cell ht) _).trans ht) ((hw.to hb1).to hb)))
 have hmf : ∀ (fn : Fn) (first cap : Array Value) (w : World), (Instr.makeFunc fn first cap).run Tryz.prog w = .ok (.func fn first cap) w := fun _ _ _ _ => rfl
 have HR : Hid (readyN s come t = !(s.first.any (holdsS s come t))) := rfl
 obtain ⟨r, hr⟩ : ∃ r, r = readyN s come t := ⟨_, rfl⟩
 rw [← hr] at HR ⊢
 obtain ⟨q, hq⟩ : ∃ q, q = s.first.any (holdsS s come t) := ⟨_, rfl⟩
 rw [← hq] at HR HC
 clear h hw hsb hs1 hb1 hs hr hq ht
 go_enter Tryz.func48, Tryz.ntmps48
 go_wp2_with ((go_at_call 49; refine HC.out.mono ?_; rintro e w4 ⟨rfl, hb4⟩))
 go_ret
 exact ⟨ret_bool HR.out.symm, HB.out.trans (hb4.mono HB.out.size)⟩
set_option maxHeartbeats 4000000 in
theorem pfree_any (A F : Option Addr) (c fc : Nat) (s : Sft) (mb sb wb tb : Nat) (hs : SftOk s) (hf : s.first.length ≤ 4611686018427387904) (come : Nat → Bool) (t : Int) (i : Nat) (w : World) (hsb : SfBx sb A F c fc s w) (h : WkBx wb A F c fc s mb w) (ht : w.cell? ⟨tb, 0, none⟩ = some (.int .i64 t)) (hw : WtA mb s come w) :
 Calls Tryz.prog 53 #[.int .i64 (i : Int), .pointer (some ⟨sb, 0, none⟩), .pointer (some ⟨wb, 0, none⟩), .pointer (some ⟨tb, 0, none⟩)] w fun e w' => e = .returned (.bool (freeN s come t i)) ∧ Below w.heap.size w w' := by
 have hb1 := al_t w (.cells #[.int .i64 (i : Int)] 3)
 have HB := Lib.hid hb1
 have hi : (w.alloc (.cells #[.int .i64 (i : Int)] 3)).cell? ⟨w.heap.size, 0, none⟩ = some (.int .i64 (i : Int)) := cell_new rfl rfl rfl
 have ht1 := (bcell hb1 (lt_of_cell ht) _).trans ht
 have hs1 := hsb.to hb1
 have c1 := hs1.c1
 have HC := Lib.hid (contP_any 54 #[.pointer (some ⟨w.heap.size, 0, none⟩), .pointer (some ⟨wb, 0, none⟩), .pointer (some ⟨tb, 0, none⟩)] (enters_of Tryz.func54 (by kernel_rfl) rfl) (holdsI s come t i) F fc s.first (w.alloc (.cells #[.int .i64 (i : Int)] 3)) hs1.at_.fr hf (fun x hx w' hb => pfree1_any A F c fc s mb wb tb w.heap.size hs come t i x hx w' ((h.to hb1).to hb) ((bcell hb (lt_of_cell ht1) _).trans ht1) ((bcell hb (lt_of_cell hi) _).trans hi) ((hw.to hb1).to hb)))
 have hmf : ∀ (fn : Fn) (first cap : Array Value) (w : World), (Instr.makeFunc fn first cap).run Tryz.prog w = .ok (.func fn first cap) w := fun _ _ _ _ => rfl
 have HR : Hid (freeN s come t i = !(s.first.any (holdsI s come t i))) := rfl
 obtain ⟨r, hr⟩ : ∃ r, r = freeN s come t i := ⟨_, rfl⟩
 rw [← hr] at HR ⊢
 obtain ⟨q, hq⟩ : ∃ q, q = s.first.any (holdsI s come t i) := ⟨_, rfl⟩
 rw [← hq] at HR HC
 clear h hw hsb hs1 hb1 hs hr hq ht ht1 hi
 go_enter Tryz.func53, Tryz.ntmps53
 go_wp2_with ((go_at_call 49; refine HC.out.mono ?_; rintro e w4 ⟨rfl, hb4⟩))
 go_ret
 exact ⟨ret_bool HR.out.symm, HB.out.trans (hb4.mono HB.out.size)⟩
end Go.Proofs.YtflpikickbellaaGreat
namespace Go.Proofs.YtflpikickbellaaGreat
open Go.RowKit Go.Shelf Go.Sort Go.Maps
set_option maxRecDepth 100000
set_option maxHeartbeats 1000000 in
theorem idxJ_any (g : Nat) (lb : Array Value) (eg : ∀ args w, (callFunc g args).run Tryz.prog w = .ok (.enter g args) w) (pr : Int → Bool) (A : Option Addr) (c : Nat) (zs : List Int) (w : World)
 (hs : SlI w w.heap.size A zs) (hn : zs.length ≤ 4611686018427387904) (hp : ∀ x, x ∈ zs → ∀ w', Below w.heap.size w w' → Calls Tryz.prog g (#[.int .i64 x] ++ lb) w' fun e w2 => e = .returned (.bool (pr x)) ∧ Below w'.heap.size w' w2) :
 Calls Tryz.prog 91 #[.slice A zs.length c, .func (.func g) #[] lb] w fun e w' => e = .returned (.int .i64 (idxE pr zs)) ∧ Below w.heap.size w w' := by
 go_enter Tryz.func91, Tryz.ntmps91
 go_wp2
 go_loopw [8] (fun i wr => ∃ k : Nat, k ≤ zs.length ∧ i = .int .i64 k ∧ Hid (∀ j y, j < k → zs[j]? = some y → pr y = false) ∧ Below w.heap.size w wr) (fun i _ => zs.length - (intOf i).toNat)
 case atStart => exact ⟨0, Nat.zero_le _, rfl, fun j _ hj => absurd hj (Nat.not_lt_zero j), Below.refl _ _⟩
 case round =>
  obtain ⟨k, hk, rfl, H, hbw⟩ := hrel
  by_cases hlt : k < zs.length
  · obtain ⟨b, off, z, rfl, hB, hr, q0⟩ := hs.at_ hlt
    have c0 := (bcell hbw hB _).trans q0
    have hcall := hp z (List.mem_of_getElem? hr) wr hbw
    have HR : Hid (zs[k]? = some z) := hr
    clear hr hs hp q0
    cases hq : pr z with
    | true =>
      rw [hq] at hcall
      have HQ : Hid (pr z = true) := hq
      clear hq
      go_wp2_with (go_at_fn g; refine hcall.mono ?_; rintro e w' ⟨rfl, hb1⟩)
      go_ret
      exact ⟨ret_int (idxE_hit HR.out HQ.out H.out).symm, hbw.trans (hb1.mono hbw.size)⟩
    | false =>
      rw [hq] at hcall
      have HQ : Hid (pr z = false) := hq
      clear hq
      go_wp2_with (go_at_fn g; refine hcall.mono ?_; rintro e w' ⟨rfl, hb1⟩)
      go_roundw
      case rel =>
       refine ⟨k + 1, by omega, by go_num, fun j y hj hy => ?_, hbw.trans (hb1.mono hbw.size)⟩
       by_cases e : j = k
       · subst e; rw [HR.out] at hy; injection hy with hy; subst hy; exact HQ.out
       · exact H.out j y (by omega) hy
      case measure => simp [intOf]; omega
  · have HE : Hid (idxE pr zs = -1) := idxE_none (fun j y hj => H.out j y (by omega))
    clear H hs hp
    go_wp2
    go_ret
    exact ⟨ret_int HE.out.symm, hbw⟩
theorem find_at {α : Type} {f : α → Bool} : ∀ {l : List α} {x : α}, l.find? f = some x → ∃ k : Nat, l[k]? = some x ∧ f x = true ∧ ∀ (j : Nat) (y : α), j < k → l[j]? = some y → f y = false := fun {l x} h => by
 obtain ⟨h1, k, hk, e, h2⟩ := List.find?_eq_some_iff_getElem.1 h
 refine ⟨k, by rw [List.getElem?_eq_getElem hk, e], h1, fun j y hj hy => ?_⟩
 obtain ⟨hj2, e2⟩ := List.getElem?_eq_some_iff.1 hy
 have := h2 j hj
 rw [e2] at this
 simpa using this
set_option maxHeartbeats 4000000 in
theorem least_any (g : Nat) (lb : Array Value) (eg : ∀ args w, (callFunc g args).run Tryz.prog w = .ok (.enter g args) w) (pr : Int → Bool) (A : Option Addr) (c : Nat) (zs : List Int) (w : World)
 (hs : SlI w w.heap.size A zs) (hn : zs.length ≤ 1000000) (hp : ∀ x, x ∈ zs → ∀ w', Below w.heap.size w w' → Calls Tryz.prog g (#[.int .i64 x] ++ lb) w' fun e w2 => e = .returned (.bool (pr x)) ∧ Below w'.heap.size w' w2) :
 Calls Tryz.prog 46 #[.slice A zs.length c, .func (.func g) #[] lb] w fun e w' => NxPost w ((sortZ zs).find? pr) e w' := by
 have hb1 := al_t w (.cells #[.slice A zs.length c] 22)
 have HB := Lib.hid hb1
 have HV := Lib.hid (values_any A zs.length c w)
 have HSo := Lib.hid (sorted_any w.heap.size A c zs hn (w.alloc (.cells #[.slice A zs.length c] 22)) (by simp) (cell_new rfl rfl rfl) ((hs.below hb1).more hb1.size))
 have HP := Lib.hid (fun (x : Int) (hx : x ∈ sortZ zs) (w' : World) (hb : Below w.heap.size w w') => hp x (sortZ_mem.1 hx) w' hb)
 obtain ⟨Z, hZ⟩ : ∃ Z, Z = sortZ zs := ⟨_, rfl⟩
 have hzl : Z.length ≤ 1000000 := by rw [hZ, sortZ_len]; exact hn
 rw [← hZ] at HSo ⊢
 simp only [← hZ] at HP
 obtain ⟨R, hR⟩ : ∃ R, R = Z.find? pr := ⟨_, rfl⟩
 rw [← hR]
 have HR := Lib.hid hR
 clear hs hp hb1 hZ hR
 go_enter Tryz.func46, Tryz.ntmps46
 go_wp2_with fail
 refine HV.out.mono ?_
 rintro e w1 ⟨rfl, rfl⟩
 go_wp2_with fail
 refine HSo.out.mono ?_
 rintro e w2 ⟨v, rfl, hown, hb2⟩
 have hb12 := HB.out.trans (hb2.mono HB.out.size)
 obtain ⟨av, cv, rfl⟩ : ∃ a c, v = .slice a Z.length c := by
  rcases hown.2 with ⟨rfl, e⟩ | ⟨g, cap, cur, rfl, -⟩
  · rw [e]; exact ⟨none, 0, rfl⟩
  · exact ⟨_, _, rfl⟩
 have hsl := hown.slI
 have HI := Lib.hid (idxJ_any g lb eg pr av cv Z w2 hsl (by omega) (fun x hx w' hb => HP.out x hx w' (hb12.trans (hb.mono hb12.size))))
 have HSl := Lib.hid hsl
 have HB2 := Lib.hid hb12
 clear hown hb2 hb12 hsl HV HSo HP eg
 cases hf : R with
 | none =>
   rw [hf] at HR
   have hix : idxE pr Z = -1 := idxE_none (fun j y hj hy => by
    have := List.find?_eq_none.1 HR.out.symm y (List.mem_of_getElem? hy)
    simpa using this)
   rw [hix] at HI
   have HF := Lib.hid hf
   clear hix HSl hf
   go_wp2_with ((go_at_call 91; refine HI.out.mono ?_; rintro e w3 ⟨rfl, hb3⟩))
   go_ret2
   exact NxPost.none_ HF.out (HB2.out.trans (hb3.mono HB2.out.size))
 | some x =>
   rw [hf] at HR
   obtain ⟨k, hk, hx, hlt⟩ := find_at HR.out.symm
   have hix : idxE pr Z = (k : Int) := idxE_hit hk hx hlt
   rw [hix] at HI
   have hkl := (List.getElem?_eq_some_iff.1 hk).1
   obtain ⟨b, off, z, rfl, hbl, hz, hcz⟩ := HSl.out.at_ hkl
   rw [hk] at hz
   obtain rfl : x = z := by simpa using hz
   have HCz := Lib.hid (And.intro hcz hbl)
   have hk0 : decide ((k : Int) < 0) = false := decide_eq_false (by omega)
   have HF := Lib.hid hf
   clear hix hz hcz hk hx hlt hf HSl
   go_wp2_with ((go_at_call 91; refine HI.out.mono ?_; rintro e w3 ⟨rfl, hb3⟩; have hc3 := (bcell hb3 HCz.out.2 _).trans HCz.out.1))
   go_ret2
   exact NxPost.some_ HF.out (HB2.out.trans (hb3.mono HB2.out.size))
end Go.Proofs.YtflpikickbellaaGreat
