/- Layer 27, plain: what a chart is worked to. An append of any slice, as a run; the choice of an arm by the world. append, copy and clear on a row whose elements have several cells, as steps of a walk. Rows of numbers, of pairs and of marks that a call owns (layer 32 has them in XSf, XRw, XOf0). -/
import Derived.Test.YtbibndpkcilblaaKG4
import Derived.Test.YtbibndpkcilblaaKG2
import Derived.Test.YtbibndpkcilblaaKG1
import Derived.Maps.AppendAt
import Derived.Laws.CopyOwn
import Derived.Deep.RegionLaw
import Derived.Lib.AppendZerosOnto
import Derived.Lib.Overlaps
import Derived.Laws.Externs
import Derived.BigQuiet
import Derived.ChangeKeysEq
import Derived.Sort.Defs
namespace Go.Proofs.Ytbibndpkcilblaa
open Go.RowKit
set_option maxRecDepth 100000

/-- A loop: its row, its cell, its parents, whether it is a purl. -/
structure Lp where
  row : Int
  cell : Int
  par : List Int
  purl : Bool
def lp0 : Lp := ⟨0, 0, [], false⟩
def usedN (at_ n : Nat) : List Int := (List.range n).map fun i : Nat => ((at_ + i : Nat) : Int)
/-- The loops that a cell makes. -/
def newsL (row k : Int) (s : Stc) (used : List Int) (lp : List Lp) : List Lp :=
  if s.kind = 5 then List.replicate s.a.toNat ⟨row, k, used, s.purl⟩
  else if s.kind = 9 then List.replicate s.a.toNat ⟨row, k, [], s.purl⟩
  else if s.kind = 6 ∨ s.kind = 7 then (used.drop s.a.toNat ++ used.take s.a.toNat).map fun x => ⟨row, k, [x], s.purl⟩
  else if s.kind = 10 then []
  else if s.kind = 4 then [⟨row, k, used.reverse, s.purl⟩]
  else if s.kind = 8 then [⟨row, k, used, (lp.getD (used.getD 0 0).toNat lp0).purl⟩]
  else [⟨row, k, used, s.purl⟩]
def crossP (s : Stc) (first i n : Nat) : Int × Int := if s.kind = 7 then ((first + n : Nat), ((first + s.b.toNat + i : Nat) : Int)) else (((first + s.b.toNat + i : Nat) : Int), ((first + n : Nat) : Int))
def crossI (s : Stc) (first i k : Nat) : List (Int × Int) := (List.range k).map (crossP s first i)
def crossN (s : Stc) (first k : Nat) : List (Int × Int) := (List.range k).flatMap fun i => crossI s first i s.b.toNat
def crossL (s : Stc) (first : Nat) : List (Int × Int) := if s.kind = 6 ∨ s.kind = 7 then crossN s first s.a.toNat else []
def boundL (s : Stc) (used : List Int) : List Int := if s.kind = 10 then used else []
/-- A piece under way. -/
structure Pw where
  lp : List Lp
  bound : List Int
  cross : List (Int × Int)
  rows : List Int
  next : Nat
def stepC (row k : Int) (s : Stc) (t : Pw) : Pw :=
  ⟨t.lp ++ newsL row k s (usedN t.next (usesS s).toNat) t.lp, t.bound ++ boundL s (usedN t.next (usesS s).toNat), t.cross ++ crossL s t.lp.length, t.rows, t.next + (usesS s).toNat⟩
def rowRun (row : Int) (l : List Stc) (t : Pw) : Nat → Pw
  | 0 => t
  | k + 1 => stepC row (k : Int) (l.getD k ⟨0, false, 0, 0⟩) (rowRun row l t k)
def endR (t : Pw) : Pw := ⟨t.lp, t.bound, t.cross, t.rows ++ [(t.lp.length : Int)], t.next⟩
def startP (n : Nat) : Pw := ⟨(List.range n).map fun i : Nat => ⟨0, (i : Int), [], false⟩, [], [], [0, (n : Int)], 0⟩
theorem startP_len (n : Nat) : (startP n).lp.length = n := by simp [startP]

theorem crossI_next (s : Stc) (f i k : Nat) : crossI s f i (k + 1) = crossI s f i k ++ [crossP s f i k] := by unfold crossI; rw [List.range_succ, List.map_append]; rfl
theorem crossN_next (s : Stc) (f k : Nat) : crossN s f (k + 1) = crossN s f k ++ crossI s f k s.b.toNat := by unfold crossN; rw [List.range_succ, List.flatMap_append]; simp
theorem crossI_len (s : Stc) (f i k : Nat) : (crossI s f i k).length = k := by unfold crossI; rw [List.length_map, List.length_range]
theorem crossN_len (s : Stc) (f : Nat) : ∀ k, (crossN s f k).length = k * s.b.toNat
  | 0 => by simp [crossN]
  | k + 1 => by rw [crossN_next, List.length_append, crossI_len, crossN_len s f k, Nat.add_mul, Nat.one_mul]
theorem usedN_len (a n : Nat) : (usedN a n).length = n := by unfold usedN; rw [List.length_map, List.length_range]
theorem usedN_next (a n : Nat) : usedN a (n + 1) = usedN a n ++ [((a + n : Nat) : Int)] := by unfold usedN; rw [List.range_succ, List.map_append]; rfl
theorem usedN_at {a n i : Nat} (h : i < n) : (usedN a n)[i]? = some ((a + i : Nat) : Int) := by unfold usedN; rw [List.getElem?_map, List.getElem?_range h]; rfl

/-- What a valid cell is, kind by kind. -/
structure StcK (s : Stc) : Prop where
  lo : 1 ≤ s.kind
  hi : s.kind ≤ 10
  plain : s.kind = 1 ∨ s.kind = 2 ∨ s.kind = 8 → s.a = 0 ∧ s.b = 0
  over : s.kind = 2 ∨ s.kind = 9 → s.purl = false
  few : s.kind = 3 ∨ s.kind = 4 ∨ s.kind = 5 → 2 ≤ s.a ∧ s.a ≤ 4 ∧ s.b = 0
  cable : s.kind = 6 ∨ s.kind = 7 → 1 ≤ s.a ∧ s.a ≤ 6 ∧ 1 ≤ s.b ∧ s.b ≤ 6
  many : s.kind = 9 ∨ s.kind = 10 → 1 ≤ s.a ∧ s.a ≤ 200 ∧ s.b = 0
  uses : usesS s = if s.kind = 2 ∨ s.kind = 9 then 0 else if s.kind = 3 ∨ s.kind = 4 ∨ s.kind = 10 then s.a else if s.kind = 6 ∨ s.kind = 7 then s.a + s.b else 1
  makes : makesS s = if s.kind = 10 then 0 else if s.kind = 5 ∨ s.kind = 9 then s.a else if s.kind = 6 ∨ s.kind = 7 then s.a + s.b else 1
theorem stc_k {s : Stc} (h : s.ok = true) : StcK s := by
  unfold Stc.ok at h
  simp only [Bool.and_eq_true, decide_eq_true_eq] at h
  obtain ⟨⟨k1, k2⟩, ⟨a1, a2⟩, ⟨b1, b2⟩, hp⟩ := h
  obtain ⟨kind, purl, a, b⟩ := s
  simp only at k1 k2 a1 a2 b1 b2 hp
  have hu : usesS ⟨kind, purl, a, b⟩ = loopsI ⟨kind, purl, a, b⟩ (formI kind).uses := rfl
  have hm : makesS ⟨kind, purl, a, b⟩ = loopsI ⟨kind, purl, a, b⟩ (formI kind).made := rfl
  rcases (by omega : kind = 1 ∨ kind = 2 ∨ kind = 3 ∨ kind = 4 ∨ kind = 5 ∨ kind = 6 ∨ kind = 7 ∨ kind = 8 ∨ kind = 9 ∨ kind = 10) with rfl | rfl | rfl | rfl | rfl | rfl | rfl | rfl | rfl | rfl
  all_goals
    refine ⟨k1, k2, fun h => ?_, fun h => ?_, fun h => ?_, fun h => ?_, fun h => ?_, ?_, ?_⟩
  all_goals first
    | (simp at h; done)
    | (rw [hu]; rfl)
    | (rw [hm]; rfl)
    | (cases purl; rfl; exact absurd hp (by decide))
    | (simp [formI, formT] at a1 a2 b1 b2 ⊢; omega)
    | (rw [hu]; simp [formI, formT, loopsI])
    | (rw [hm]; simp [formI, formT, loopsI])
theorem StcK.nat {s : Stc} (h : StcK s) : 0 ≤ s.a ∧ s.a ≤ 200 ∧ 0 ≤ s.b ∧ s.b ≤ 6 ∧ 0 ≤ usesS s ∧ usesS s ≤ 200 ∧ 0 ≤ makesS s ∧ makesS s ≤ 200 := by
  obtain ⟨h1, h2, h3, -, h5, h6, h7, h8, h9⟩ := h
  rw [h8, h9]
  rcases (by omega : s.kind = 1 ∨ s.kind = 2 ∨ s.kind = 3 ∨ s.kind = 4 ∨ s.kind = 5 ∨ s.kind = 6 ∨ s.kind = 7 ∨ s.kind = 8 ∨ s.kind = 9 ∨ s.kind = 10) with e | e | e | e | e | e | e | e | e | e <;> rw [e] at h3 h5 h6 h7 ⊢ <;> simp at h3 h5 h6 h7 ⊢ <;> omega
theorem newsL_len {s : Stc} (h : StcK s) (row k : Int) (at_ : Nat) (lp : List Lp) : ((newsL row k s (usedN at_ (usesS s).toNat) lp).length : Int) = makesS s := by
  have hn := h.nat
  obtain ⟨h1, h2, h3, -, h5, h6, h7, h8, h9⟩ := h
  unfold newsL
  rw [h9]
  rcases (by omega : s.kind = 1 ∨ s.kind = 2 ∨ s.kind = 3 ∨ s.kind = 4 ∨ s.kind = 5 ∨ s.kind = 6 ∨ s.kind = 7 ∨ s.kind = 8 ∨ s.kind = 9 ∨ s.kind = 10) with e | e | e | e | e | e | e | e | e | e <;> rw [e] at h8 ⊢ <;> simp at h8 ⊢
  · omega
  · rw [h8, usedN_len]; omega
  · rw [h8, usedN_len]; omega
  · omega
theorem rowRun_next {row : Int} {l : List Stc} {t : Pw} {k : Nat} {s : Stc} (h : l[k]? = some s) : rowRun row l t (k + 1) = stepC row (k : Int) s (rowRun row l t k) := by
  show stepC row (k : Int) (l.getD k _) _ = _
  rw [List.getD_eq_getElem?_getD, h]; rfl
theorem rowRun_len {row : Int} {l : List Stc} (hl : ∀ s ∈ l, StcK s) (t : Pw) : ∀ k, k ≤ l.length →
    ((rowRun row l t k).next : Int) = t.next + sumU (l.take k) ∧ ((rowRun row l t k).lp.length : Int) = t.lp.length + sumM (l.take k) ∧ (rowRun row l t k).rows = t.rows
  | 0, _ => by
    refine ⟨?_, ?_, rfl⟩ <;> simp [rowRun, sumU, sumM]
  | k + 1, hk => by
    obtain ⟨h1, h2, h3⟩ := rowRun_len hl t k (by omega)
    have hx : l[k]? = some l[k] := List.getElem?_eq_getElem (by omega)
    have hc := hl _ (List.getElem_mem (show k < l.length by omega))
    have hn := hc.nat
    rw [rowRun_next hx]
    unfold stepC sumU sumM
    rw [sum_take hx, sum_take hx]
    unfold sumU at h1
    unfold sumM at h2
    refine ⟨by simp only; omega, ?_, h3⟩
    simp only
    rw [List.length_append]
    have := newsL_len hc row (k : Int) (rowRun row l t k).next (rowRun row l t k).lp
    omega
theorem sumU_le {l : List Stc} (hl : ∀ s ∈ l, StcK s) {k : Nat} {s : Stc} (h : l[k]? = some s) : sumU (l.take k) + usesS s ≤ sumU l ∧ 0 ≤ sumU (l.take k) := by
  have hk := (List.getElem?_eq_some_iff.1 h).1
  have h0 : ∀ (m : List Stc), (∀ s ∈ m, StcK s) → 0 ≤ sumU m := fun m hm => by
    unfold sumU
    induction m with
    | nil => simp
    | cons x m ih =>
      rw [List.map_cons, List.sum_cons]
      have := (hm x List.mem_cons_self).nat
      have := ih fun y hy => hm y (List.mem_cons_of_mem _ hy)
      omega
  have e : sumU l = sumU (l.take (k + 1)) + sumU (l.drop (k + 1)) := by
    unfold sumU
    rw [← List.sum_append, ← List.map_append, List.take_append_drop]
  have e2 : sumU (l.take (k + 1)) = sumU (l.take k) + usesS s := by unfold sumU; rw [sum_take h]
  have h1 := h0 (l.drop (k + 1)) fun x hx => hl x (List.mem_of_mem_drop hx)
  have h2 := h0 (l.take k) fun x hx => hl x (List.mem_of_mem_take hx)
  omega
end Go.Proofs.Ytbibndpkcilblaa
namespace Go.Proofs.Ytbibndpkcilblaa
open Go.RowKit Go.Shelf
set_option maxRecDepth 100000

theorem run_app_any {e t : TypeId} {i : TypeInfo} {z : Value} {size bytes : Nat} (ht : Try.prog.underlying t = some (.slice e)) (hi : Try.prog.info? e = some i) (hz : i.zero = some z) (hsize : i.size = size) (hby : i.bytes = bytes) (hzs : z.cells.size = size) (hsz : 0 < size)
    {w : World} {base n : Nat} {v : Value} {xs : List Value} (hown : w.ownsRow base e size v n xs) (A : Option Addr) (m c : Nat) (news : List Value) (hl : news.length = m * size) (hA : A = none → m = 0) (hnews : ∀ ad, A = some ad → ∀ j u, news[j]? = some u → w.cell? (ad.add j) = some u) (h1 : ∀ u ∈ news, u.oneCell' = true)
    (h63 : n + m ≤ maxLen) (hbytes : (n + m) * bytes ≤ 140737488355328) (hbase : base ≤ w.heap.size) :
    ∃ A' c' w', (Builtin.append_ #[t, t] t #[v, .slice A m c]).run Try.prog w = .ok (.slice A' (n + m) c') w' ∧ w'.ownsRow base e size (.slice A' (n + m) c') (n + m) (xs ++ news) ∧ w.grownBy w' v.ownBlock ∧ ∀ k, (Value.slice A' (n + m) c').ownBlock = some k → v.ownBlock = some k ∨ w.heap.size ≤ k := by
  cases A with
  | some ad =>
    obtain ⟨v', w', hr, h2, h3, -, h5⟩ := run_append_own_at (P := Try.prog) w base t t e i z size bytes ht hi hz hsize hby hzs hsz v n xs hown ad m c news hl (hnews ad rfl) h1 h63 hbytes hbase
    obtain ⟨A', c', rfl, -⟩ := own_slice h2
    refine ⟨A', c', w', hr, h2, h3, fun k hk => ?_⟩
    rcases h5 with h5 | h5
    · exact Or.inl (h5 ▸ hk)
    · rw [h5] at hk; cases hk; exact Or.inr (Nat.le_refl _)
  | none =>
    obtain rfl := hA rfl
    obtain rfl : news = [] := List.eq_nil_of_length_eq_zero (by simpa using hl)
    rw [Nat.add_zero, List.append_nil]
    rcases hown.2 with ⟨rfl, h0⟩ | ⟨g, cap, cur, rfl, h4, h5, hnc, h6⟩
    · subst h0
      refine ⟨none, 0, w, ?_, hown, ⟨rfl, rfl, rfl, Nat.le_refl _, fun _ _ _ => rfl⟩, fun k hk => Or.inl hk⟩
      simp [Builtin.append_, run_underlying ht, sizeOf, typeInfo, hi, Builtin.lenOf, Builtin.firstCells]
    · refine ⟨some ⟨g, 0, none⟩, cap, w, ?_, hown, ⟨rfl, rfl, rfl, Nat.le_refl _, fun _ _ _ => rfl⟩, fun k hk => Or.inl hk⟩
      simp [Builtin.append_, run_underlying ht, sizeOf, typeInfo, hi, Builtin.lenOf, Builtin.firstCells, hnc, storeCells, loadCells]

theorem wpList_append_run {P : Program} (w : World) {ops : Array Oper} {rest : List Oper} {o : Oper} {a : Act} {Q : Exit → Act → World → Prop} (hgd : o.guard = none) (d s : Operand) (t t' : TypeId)
    (ho : o.op = .call { callee := .builtin .append, args := #[d, s], argTypes := #[t, t'] }) (v u : Value) (hd : a.eval d = v) (hs : a.eval s = u) {v' : Value} {w' : World}
    (hr : (Builtin.append_ #[t, t'] o.type #[v, u]).run P w = .ok v' w') (h : wpList P ops Q rest (a.put o.dst v') w') : wpList P ops Q (o :: rest) a w :=
  wpList_plain hgd fun K hK => by
    unfold Oper.wp
    simp [execOp, ho, resolve, invoke, builtin, hd, hs, hr, Result.andThen]
    exact hK _ _ h
end Go.Proofs.Ytbibndpkcilblaa
namespace Go.Proofs.Ytbibndpkcilblaa
open Go.RowKit Go.Shelf
set_option maxRecDepth 100000

section
variable {P : Program}
theorem step_append_run {ops : Array Oper} {o : Oper} {a : Act} {w : World} {K : Act → World → Prop} {Q : Exit → Act → World → Prop} {E : Prop}
    (hg : o.guard = none) (d x : Operand) (dT sT : TypeId) (hop : o.op = Op.call { callee := Callee.builtin Builtin.append, args := #[d, x], argTypes := #[dT, sT] })
    (v u : Value) (hd : a.eval d = v) (hx : a.eval x = u) {v' : Value} {w' : World} (hr : (Builtin.append_ #[dT, sT] o.type #[v, u]).run P w = .ok v' w') (hK : K (a.put o.dst v') w') :
    if Region.wanted o (yielded ops a.tmps) = true then Oper.wp P o a w K Q else E := by
  have hw : Region.wanted o (yielded ops a.tmps) = true := by simp [Region.wanted, hg]
  rw [if_pos hw]
  unfold Oper.wp
  simp [execOp, hop, resolve, invoke, builtin, hd, hx, hr, Result.andThen]
  exact hK
theorem step_copy_run {ops : Array Oper} {o : Oper} {a : Act} {w : World} {K : Act → World → Prop} {Q : Exit → Act → World → Prop} {E : Prop}
    (hg : o.guard = none) (d x : Operand) (dT sT : TypeId) (hop : o.op = Op.call { callee := Callee.builtin Builtin.copy, args := #[d, x], argTypes := #[dT, sT] })
    (v u : Value) (hd : a.eval d = v) (hx : a.eval x = u) {v' : Value} {w' : World} (hr : (Builtin.copy_ #[dT, sT] o.type #[v, u]).run P w = .ok v' w') (hK : K (a.put o.dst v') w') :
    if Region.wanted o (yielded ops a.tmps) = true then Oper.wp P o a w K Q else E := by
  have hw : Region.wanted o (yielded ops a.tmps) = true := by simp [Region.wanted, hg]
  rw [if_pos hw]
  unfold Oper.wp
  simp [execOp, hop, resolve, invoke, builtin, hd, hx, hr, Result.andThen]
  exact hK
theorem wpList_copy_run (w : World) {ops : Array Oper} {rest : List Oper} {o : Oper} {a : Act} {Q : Exit → Act → World → Prop} (hgd : o.guard = none) (d s : Operand) (t t' : TypeId)
    (ho : o.op = .call { callee := .builtin .copy, args := #[d, s], argTypes := #[t, t'] }) (v u : Value) (hd : a.eval d = v) (hs : a.eval s = u) {v' : Value} {w' : World}
    (hr : (Builtin.copy_ #[t, t'] o.type #[v, u]).run P w = .ok v' w') (h : wpList P ops Q rest (a.put o.dst v') w') : wpList P ops Q (o :: rest) a w :=
  wpList_plain hgd fun K hK => by
    unfold Oper.wp
    simp [execOp, ho, resolve, invoke, builtin, hd, hs, hr, Result.andThen]
    exact hK _ _ h
theorem wpList_clear_run (w : World) {ops : Array Oper} {rest : List Oper} {o : Oper} {a : Act} {Q : Exit → Act → World → Prop} (hgd : o.guard = none) (d : Operand) (t : TypeId)
    (ho : o.op = .call { callee := .builtin .clear, args := #[d], argTypes := #[t] }) (v : Value) (hd : a.eval d = v) {v' : Value} {w' : World}
    (hr : (Builtin.clear_ #[t] o.type #[v]).run P w = .ok v' w') (h : wpList P ops Q rest (a.put o.dst v') w') : wpList P ops Q (o :: rest) a w :=
  wpList_plain hgd fun K hK => by
    unfold Oper.wp
    simp [execOp, ho, resolve, invoke, builtin, hd, hr, Result.andThen]
    exact hK _ _ h
/-- copy into a row, elements of k cells. -/
theorem run_copy_rowk (w : World) (dT sT ty elem : TypeId) (g o dLen dCap : Nat) (a : Addr) (sLen sCap : Nat) (cur : Array Value) (t : TypeId) (cs : List Value) (k m : Nat)
    (hu : P.underlying dT = some (.slice elem)) (hs : (P.info? elem).map (·.size) = some k)
    (hg : w.heap[g]? = some (.cells cur t (0, 0))) (hm : Nat.min sLen dLen = m) (hn : cs.length = m * k)
    (hsrc : ∀ j v, cs[j]? = some v → w.cell? (a.add j) = some v) (hfit : o + cs.length ≤ cur.size) (h1 : ∀ v ∈ cs, v.oneCell' = true) :
    (Builtin.copy_ #[dT, sT] ty #[.slice (some ⟨g, o, none⟩) dLen dCap, .slice (some a) sLen sCap]).run P w =
      .ok (goInt m) (w.setRow g (splice cur.toList o cs).toArray) := by
  have hl := run_loadCells_list (P := P) w a cs hsrc
  have hst := run_storeCells_at P g o t cs 0 cur w hg (by simpa using hfit) h1
  cases hq : P.info? elem with
  | none => simp [hq] at hs
  | some i =>
    have hi : i.size = k := by simpa [hq] using hs
    simp [Builtin.copy_, run_underlying hu, Builtin.lenOf, Builtin.firstCells, sizeOf, typeInfo, hq, hi, hm, ← hn, hl, hst, splice]
/-- clear on one element of a row. -/
theorem run_clear_rowk (w : World) (t e ty : TypeId) (z : Value) (ht : P.underlying t = some (.slice e)) (hv : ∀ w, (zeroValue e).run P w = .ok z w) (g o c : Nat) (cur : Array Value) (te : TypeId) (zs : List Value)
    (hg : w.heap[g]? = some (.cells cur te (0, 0))) (hz : (Builtin.zeroCells z.cells 1).toList = zs) (hfit : o + zs.length ≤ cur.size) (h1 : ∀ v ∈ zs, v.oneCell' = true) :
    (Builtin.clear_ #[t] ty #[.slice (some ⟨g, o, none⟩) 1 c]).run P w = .ok (.tuple #[]) (w.setRow g (splice cur.toList o zs).toArray) := by
  have hst := run_storeCells_at P g o te zs 0 cur w hg (by simpa using hfit) h1
  simp [Builtin.clear_, run_underlying ht, hv, hz, hst, splice]
end
theorem addr_plus (b off j : Nat) : (⟨b, off, none⟩ : Addr).add j = ⟨b, off + j, none⟩ := by unfold Addr.add; split <;> simp_all
/-- A row that is known whole. -/
theorem own_whole {w : World} {B : Nat} {e : TypeId} {sz n g c : Nat} {xs : List Value} (h : w.ownsRow B e sz (.slice (some ⟨g, 0, none⟩) n c) n xs) :
    ∃ cur, w.heap[g]? = some (.cells cur e (0, 0)) ∧ B ≤ g ∧ n ≤ c ∧ c ≤ maxLen ∧ cur.size = c * sz ∧ cur.toList.take (n * sz) = xs ∧ xs.length = n * sz := by
  rcases h.2 with ⟨hv, _⟩ | ⟨g', cap, cur, hv, hb, hg, h1, h2, h3, h4⟩
  · cases hv
  · cases hv
    exact ⟨cur, hg, hb, h1, h2, h3, h4, h.1⟩
theorem own_of_whole {w : World} {B : Nat} {e : TypeId} {sz n g c : Nat} {cur : Array Value} (hg : w.heap[g]? = some (.cells cur e (0, 0))) (hb : B ≤ g) (h1 : n ≤ c) (h2 : c ≤ maxLen) (h3 : cur.size = c * sz) :
    w.ownsRow B e sz (.slice (some ⟨g, 0, none⟩) n c) n (cur.toList.take (n * sz)) :=
  ⟨by rw [List.length_take, Array.length_toList, h3]; exact Nat.min_eq_left (Nat.mul_le_mul_right _ h1), Or.inr ⟨g, c, cur, rfl, hb, hg, h1, h2, h3, rfl⟩⟩
theorem cell_whole {w : World} {g : Nat} {e : TypeId} {cur : Array Value} (hg : w.heap[g]? = some (.cells cur e (0, 0))) (j : Nat) : w.cell? ⟨g, j, none⟩ = cur[j]? := by simp [World.cell?, hg]
theorem splice_len {l : List Value} {o : Nat} {cs : List Value} (h : o + cs.length ≤ l.length) : (splice l o cs).toArray.size = l.length := by simp [splice]; omega
theorem grown_setRow (w : World) (g : Nat) (cs : Array Value) : w.grownBy (w.setRow g cs) (some g) := ⟨rfl, rfl, rfl, by simp [World.setRow], fun k _ hk => setRow_other w g k cs (fun e => hk (by rw [e]))⟩
theorem heap_setRow {w : World} {g : Nat} {cur cs : Array Value} {e : TypeId} (hg : w.heap[g]? = some (.cells cur e (0, 0))) : (w.setRow g cs).heap[g]? = some (.cells cs e (0, 0)) := setRow_heap w g cur cs e _ hg
theorem drew_setRow (w : World) (g : Nat) (cs : Array Value) : (w.setRow g cs).drew = w.drew.setRow g cs := rfl
theorem splice_take {l : List Value} {o n : Nat} {cs : List Value} (ho : o ≤ l.length) (hn : n ≤ o) : (splice l o cs).take n = l.take n := by
  unfold splice
  rw [List.take_append_of_le_length (by rw [List.length_take]; omega), List.take_take, Nat.min_eq_left hn]
end Go.Proofs.Ytbibndpkcilblaa
namespace Go.Proofs.Ytbibndpkcilblaa
open Go.RowKit Go.Shelf Go.Sort
set_option maxRecDepth 100000

theorem below_drewT {B : Nat} {w W : World} (h : Below B w W) (n : Nat) : Below B w (W.drewN n) := by
  obtain ⟨a, b, c, d, e⟩ := h
  exact ⟨a, b, c, d, e⟩
abbrev prC (p : Int × Int) : List Value := [.int .i64 p.1, .int .i64 p.2]
/-- A slice of pairs. -/
def SlPr (w : World) (B : Nat) (A : Option Addr) (l : List (Int × Int)) : Prop := SlS 2 w B A (l.map prC)
theorem SlPr.below {w w' : World} {B : Nat} {A : Option Addr} {l : List (Int × Int)} (h : SlPr w B A l) (hb : Below B w w') : SlPr w' B A l := SlS.below h hb
theorem SlPr.more {w : World} {B B' : Nat} {A : Option Addr} {l : List (Int × Int)} (h : SlPr w B A l) (hb : B ≤ B') : SlPr w B' A l := SlS.more h hb
theorem SlPr.nil {w : World} {B : Nat} {A : Option Addr} : SlPr w B A [] := fun h => absurd rfl h
theorem SlPr.at_ {w : World} {B : Nat} {A : Option Addr} {l : List (Int × Int)} (h : SlPr w B A l) {k : Nat} (hk : k < l.length) :
    ∃ b off p, A = some ⟨b, off, none⟩ ∧ b < B ∧ l[k]? = some p ∧ w.cell? ⟨b, off + k * 2, none⟩ = some (.int .i64 p.1) ∧ w.cell? ⟨b, off + k * 2 + 1, none⟩ = some (.int .i64 p.2) := by
  obtain ⟨b, off, cs, e, hB, hz, hc⟩ := SlS.at_ h (k := k) (by simpa using hk)
  rw [List.getElem?_map] at hz
  cases hl : l[k]? with
  | none => rw [hl] at hz; cases hz
  | some i =>
    rw [hl] at hz
    simp only [Option.map_some, Option.some.injEq] at hz
    subst hz
    exact ⟨b, off, i, e, hB, rfl, hc 0 _ rfl, hc 1 _ rfl⟩
theorem al_t (W : World) (o : Obj) : Below W.heap.size W (W.alloc o) := (Below.refl _ _).alloc (Nat.le_refl _) o
set_option maxHeartbeats 1000000 in
theorem sameI_any (A A' : Option Addr) (c c' : Nat) (l : List Int) (w : World) (h : SlI w w.heap.size A l) (h' : SlI w w.heap.size A' l) (hn : l.length ≤ 4611686018427387904) :
    Calls Try.prog 14 #[.slice A l.length c, .slice A' l.length c'] w fun e w' => e = .returned (.bool true) ∧ ∃ m, w' = w.drewN m := by
  have hne : (((l.length : Nat) : Int) == ((l.length : Nat) : Int)) = true := by simp
  go_enter Try.func14, Try.ntmps14
  go_wp2
  go_loopw [5] (fun i wr => ∃ k : Nat, k ≤ l.length ∧ i = .int .i64 k ∧ Hid (∃ m, wr = w.drewN m)) (fun i _ => l.length - (intOf i).toNat)
  case atStart => exact ⟨0, Nat.zero_le _, rfl, 0, rfl⟩
  case round =>
    obtain ⟨k, hk, rfl, HM⟩ := hrel
    have hbw : Below w.heap.size w wr := by obtain ⟨m, rfl⟩ := HM.out; exact below_drewT (Below.refl _ _) m
    by_cases hlt : k < l.length
    · obtain ⟨b, off, z, rfl, hB, hz, hc⟩ := h.at_ hlt
      obtain ⟨b', off', z', rfl, hB', hz', hc'⟩ := h'.at_ hlt
      rw [hz] at hz'
      obtain rfl : z = z' := by simpa using hz'
      have h1 := (bcell hbw hB _).trans hc
      have h2 := (bcell hbw hB' _).trans hc'
      clear hc hc' h h' hz hz' hbw
      go_wp2
      go_quiet (fail)
      go_wp2
      go_roundw
      case rel => exact ⟨k + 1, by omega, by go_num, by obtain ⟨m, hm⟩ := HM.out; exact ⟨_, by rw [hm, World.drewN_drewN]⟩⟩
      case measure => simp [intOf]; omega
    · clear h h' hbw
      go_wp2
      go_ret
      exact ⟨rfl, HM.out⟩
def pxJ (v : Value) (l : List Int) : Own := ⟨3, 1, l.length, v, l.map (Value.int .i64)⟩
theorem pxJ_form {w : World} {B : Nat} {v : Value} {l : List Int} {L : List Own} (h : Owns w B (pxJ v l :: L)) : ∃ a c, v = .slice a l.length c := by
  have h0 : w.ownsRow B 3 1 v l.length (l.map (Value.int .i64)) := h.head
  rcases h0.2 with ⟨rfl, e⟩ | ⟨g, cap, cur, rfl, -⟩
  · rw [e]; exact ⟨none, 0, rfl⟩
  · exact ⟨_, _, rfl⟩
theorem pxJ_sl {w : World} {B : Nat} {a : Option Addr} {n c : Nat} {l : List Int} {L : List Own} (h : Owns w B (pxJ (.slice a n c) l :: L)) : SlI w w.heap.size a l := fun hne => by
  have h0 : w.ownsRow B 3 1 (.slice a n c) l.length (l.map (Value.int .i64)) := h.head
  have h1 := h0
  rcases h0.2 with ⟨-, e⟩ | ⟨g, cap, cur, hv, hg, hh, -⟩
  · exact absurd (List.length_eq_zero_iff.1 e) hne
  · cases hv
    refine ⟨g, 0, rfl, (Array.getElem?_eq_some_iff.1 hh).1, fun j z hz => ?_⟩
    have hj := (List.getElem?_eq_some_iff.1 hz).1
    rw [Nat.zero_add, World.ownsRow.cellAt h1 j (by omega), List.getElem?_map, hz]
    rfl
theorem pxJ_app {w : World} {B c : Nat} {a : Option Addr} {l : List Int} {L : List Own} (h : Owns w B (pxJ (.slice a l.length c) l :: L)) (hB : B ≤ w.heap.size) (hl : l.length ≤ 100000) (x : Int) :
    ∃ A' c' w', (Builtin.append_ #[25, 25] 25 #[.slice a l.length c, .slice (some ⟨w.heap.size, 0, none⟩) 1 1]).run Try.prog (w.alloc (.cells #[.int .i64 x] 3)) = .ok (.slice A' (l.length + 1) c') w' ∧ Owns w' B (pxJ (.slice A' (l.length + 1) c') (l ++ [x]) :: L) ∧ Below B w w' := by
  obtain ⟨ii, hii, hii0, hii1, hii2⟩ := info_parts info_int'
  have hal := al_t w (.cells #[.int .i64 x] 3)
  have h9 := h.to hal
  have h0 : (w.alloc (.cells #[.int .i64 x] 3)).ownsRow B 3 1 (.slice a l.length c) l.length (l.map (Value.int .i64)) := h9.head
  have hsz := hal.size
  obtain ⟨A', c', w', hr, ho, hg, hn⟩ := run_app_any Try.underlying25 hii hii0 hii1 hii2 rfl (by decide) h0 (some ⟨w.heap.size, 0, none⟩) 1 1 [.int .i64 x] rfl (fun e => by cases e) (fun ad e j u hu => by
    cases e
    have hj : j = 0 := by have := (List.getElem?_eq_some_iff.1 hu).1; simp at this; exact this
    subst hj
    have e : u = .int .i64 x := by simpa using hu.symm
    subst e
    exact cell_new rfl rfl rfl) (fun u hu => by rw [List.mem_singleton.1 hu]; rfl) (by unfold maxLen; omega) (by omega) (by omega)
  refine ⟨A', c', w', hr, ?_, (hal.mono hB).trans (Below.of_grown hg (by omega) (fun k e => (World.ownsRow.lt h0 k e).1))⟩
  refine h9.turn (o' := pxJ (.slice A' (l.length + 1) c') (l ++ [x])) hg ?_ hn
  unfold pxJ Own.lies
  rw [List.length_append, List.map_append]
  exact ho
theorem info_prT : (Try.prog.info? 101).map (fun i => (i.zero, i.size, i.bytes)) = some (some (.agg #[.int .i64 0, .int .i64 0]), 2, 16) := by kernel_rfl
def pxP (v : Value) (l : List (Int × Int)) : Own := ⟨101, 2, l.length, v, (l.map prC).flatten⟩
theorem cells_two (l : List (Int × Int)) : ∀ cs ∈ l.map prC, cs.length = 2 := fun cs h => by
  obtain ⟨p, _, rfl⟩ := List.mem_map.1 h
  rfl
abbrev prB (p : Int × Int) : Obj := .cells #[.int .i64 p.1, .int .i64 p.2] 101
theorem pxP_app {w : World} {B c : Nat} {a : Option Addr} {l : List (Int × Int)} {L : List Own} (h : Owns w B (pxP (.slice a l.length c) l :: L)) (hB : B ≤ w.heap.size) (hl : l.length ≤ 100000) (p : Int × Int) :
    ∃ A' c' w', (Builtin.append_ #[37, 37] 37 #[.slice a l.length c, .slice (some ⟨w.heap.size, 0, none⟩) 1 1]).run Try.prog (w.alloc (prB p)) = .ok (.slice A' (l.length + 1) c') w' ∧ Owns w' B (pxP (.slice A' (l.length + 1) c') (l ++ [p]) :: L) ∧ Below B w w' := by
  obtain ⟨ii, hii, hii0, hii1, hii2⟩ := info_parts info_prT
  have hal := al_t w (prB p)
  have h9 := h.to hal
  have h0 : (w.alloc (prB p)).ownsRow B 101 2 (.slice a l.length c) l.length (l.map prC).flatten := h9.head
  have hsz := hal.size
  have hnew : ∀ j u, (prC p)[j]? = some u → (w.alloc (prB p)).cell? ((⟨w.heap.size, 0, none⟩ : Addr).add j) = some u := newsT w _ _ _ rfl
  obtain ⟨A', c', w', hr, ho, hg, hn⟩ := run_app_any Try.underlying37 hii hii0 hii1 hii2 rfl (by decide) h0 (some ⟨w.heap.size, 0, none⟩) 1 1 (prC p) rfl (fun e => by cases e) (fun ad e => by cases e; exact hnew) (fun u hu => by
    simp only [List.mem_cons, List.not_mem_nil, or_false] at hu
    rcases hu with rfl | rfl <;> rfl) (by unfold maxLen; omega) (by omega) (by omega)
  refine ⟨A', c', w', hr, ?_, (hal.mono hB).trans (Below.of_grown hg (by omega) (fun k e => (World.ownsRow.lt h0 k e).1))⟩
  refine h9.turn (o' := pxP (.slice A' (l.length + 1) c') (l ++ [p])) hg ?_ hn
  unfold pxP Own.lies
  rw [List.length_append, List.map_append, List.flatten_append]
  simpa using ho
theorem pxP_form {w : World} {B : Nat} {v : Value} {l : List (Int × Int)} {L : List Own} (h : Owns w B (pxP v l :: L)) : ∃ a c, v = .slice a l.length c := by
  obtain ⟨a, c, e, -⟩ := own_slice h.head
  exact ⟨a, c, e⟩
theorem pxP_sl {w : World} {B : Nat} {a : Option Addr} {c : Nat} {l : List (Int × Int)} {L : List Own} (h : Owns w B (pxP (.slice a l.length c) l :: L)) : SlPr w w.heap.size a l := by
  have h0 : w.ownsRow B 101 2 (.slice a l.length c) l.length (l.map prC).flatten := h.head
  exact SlS.of_own (cells_two l) (by rw [List.length_map]) h0
theorem box_new (w : World) (T : TypeId) (cs : List Value) : w.heap.size = w.heap.size → (w.alloc (.cells cs.toArray T)).ownsRow w.heap.size T cs.length (.slice (some ⟨w.heap.size, 0, none⟩) 1 1) 1 cs := fun _ => by
  have e : (w.alloc (.cells cs.toArray T)).heap[w.heap.size]? = some (.cells cs.toArray T (0, 0)) := Array.getElem?_push_size
  have := own_of_whole (B := w.heap.size) (n := 1) (c := 1) (sz := cs.length) e (Nat.le_refl _) (Nat.le_refl _) (by unfold maxLen; omega) (by simp)
  simpa using this
end Go.Proofs.Ytbibndpkcilblaa
