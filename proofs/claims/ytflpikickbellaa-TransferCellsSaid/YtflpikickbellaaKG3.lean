/- Rows that a call owns, pairwise in blocks of their own: each is turned by itself. An append of any slice, as a run; the choice of an arm by the world. append, copy and clear on a row whose elements have several cells, as steps of a walk. -/
import Derived.Test.YtflpikickbellaaKG1
import Derived.Deep.Onto
import Derived.Deep.AppendLies
import Derived.Maps.AppendAt
import Derived.Laws.CopyOwn
import Derived.Deep.RegionLaw
import Derived.Lib.AppendZerosOnto
import Derived.Lib.Overlaps
import Derived.Laws.Externs
namespace Go.Proofs.Ytflpikickbellaa
open Go.RowKit Go.Shelf
set_option maxRecDepth 100000

/-- A row of memory: the slice v holds n elements of sz cells, the cells xs. -/
structure Own where
  e : TypeId
  sz : Nat
  n : Nat
  v : Value
  xs : List Value
def Own.lies (o : Own) (w : World) (B : Nat) : Prop := w.ownsRow B o.e o.sz o.v o.n o.xs
def apart (a b : Own) : Prop := ∀ k, a.v.ownBlock = some k → b.v.ownBlock ≠ some k
theorem apart_symm {a b : Own} (h : apart a b) : apart b a := fun k hb ha => h k ha hb
structure Owns (w : World) (B : Nat) (L : List Own) : Prop where
  all : ∀ o ∈ L, o.lies w B
  apart : L.Pairwise apart
theorem Owns.nil {w : World} {B : Nat} : Owns w B [] := ⟨fun _ h => absurd h List.not_mem_nil, List.Pairwise.nil⟩
theorem Owns.perm {w : World} {B : Nat} {L L' : List Own} (h : Owns w B L) (p : L.Perm L') : Owns w B L' :=
  ⟨fun o ho => h.all o (p.mem_iff.2 ho), (p.pairwise_iff (fun h => apart_symm h)).1 h.apart⟩
theorem Owns.sub {w : World} {B : Nat} {L L' : List Own} (h : Owns w B L) (s : L'.Sublist L) : Owns w B L' :=
  ⟨fun o ho => h.all o (s.subset ho), h.apart.sublist s⟩
theorem Owns.tail {w : World} {B : Nat} {o : Own} {L : List Own} (h : Owns w B (o :: L)) : Owns w B L := h.sub (List.sublist_cons_self _ _)
theorem Owns.head {w : World} {B : Nat} {o : Own} {L : List Own} (h : Owns w B (o :: L)) : o.lies w B := h.all o List.mem_cons_self
theorem Owns.to {w w' : World} {B : Nat} {L : List Own} (h : Owns w B L) (hb : Below w.heap.size w w') : Owns w' B L :=
  ⟨fun o ho => own_below (h.all o ho) hb (Nat.le_refl _), h.apart⟩
/-- One row is turned, into a row in the same block or in a new one. -/
theorem Owns.turn {w w' : World} {B : Nat} {o o' : Own} {L : List Own} (h : Owns w B (o :: L)) (hg : w.grownBy w' o.v.ownBlock) (ho : o'.lies w' B)
    (hn : ∀ k, o'.v.ownBlock = some k → o.v.ownBlock = some k ∨ w.heap.size ≤ k) : Owns w' B (o' :: L) := by
  have hp := List.pairwise_cons.1 h.apart
  refine ⟨fun x hx => ?_, List.pairwise_cons.2 ⟨fun x hx k hk => ?_, hp.2⟩⟩
  · rcases List.mem_cons.1 hx with rfl | hx
    · exact ho
    · refine World.ownsRow.kept (h.all x (List.mem_cons_of_mem _ hx)) hg ?_
      cases e : x.v.ownBlock with
      | none => exact Or.inl rfl
      | some k => exact Or.inr fun e2 => hp.1 x hx k e2.symm e
  · rcases hn k hk with h1 | h1
    · exact hp.1 x hx k h1
    · intro e
      have := (World.ownsRow.lt (h.all x (List.mem_cons_of_mem _ hx)) k e).2
      omega
/-- A row is made anew. -/
theorem Owns.add {w w' : World} {B : Nat} {o : Own} {L : List Own} (h : Owns w B L) (hb : Below w.heap.size w w') (hB : B ≤ w.heap.size) (ho : o.lies w' w.heap.size) : Owns w' B (o :: L) := by
  refine ⟨fun x hx => ?_, List.pairwise_cons.2 ⟨fun x hx k hk e => ?_, (h.to hb).apart⟩⟩
  · rcases List.mem_cons.1 hx with rfl | hx
    · exact World.ownsRow.mono ho hB
    · exact (h.to hb).all x hx
  · have h1 := (World.ownsRow.lt ho k hk).1
    have h2 := (World.ownsRow.lt (h.all x hx) k e).2
    omega
theorem Owns.swap {w : World} {B : Nat} {a b : Own} {L : List Own} (h : Owns w B (a :: b :: L)) : Owns w B (b :: a :: L) := h.perm (List.Perm.swap ..)
/-- A row that is nil. -/
theorem Owns.none {w : World} {B : Nat} {L : List Own} (h : Owns w B L) (e : TypeId) (sz : Nat) : Owns w B (⟨e, sz, 0, .slice none 0 0, []⟩ :: L) :=
  ⟨fun x hx => by
    rcases List.mem_cons.1 hx with rfl | hx
    · exact World.ownsRow_nil ..
    · exact h.all x hx, List.pairwise_cons.2 ⟨fun x _ k hk => by simp [Value.ownBlock] at hk, h.apart⟩⟩
theorem Below.of_grown {w w' : World} {B : Nat} {row : Option Nat} (hg : w.grownBy w' row) (hB : B ≤ w.heap.size) (hr : ∀ k, row = some k → B ≤ k) : Below B w w' := (Below.refl B w).grown hg hB hr
theorem grown_trans {w w' w'' : World} {row : Option Nat} (h : w.grownBy w' row) (h' : w'.grownBy w'' row) : w.grownBy w'' row :=
  ⟨h'.os.trans h.os, h'.tape.trans h.tape, h'.output.trans h.output, Nat.le_trans h.size h'.size, fun k hk hn => (h'.block k (Nat.lt_of_lt_of_le hk h.size) hn).trans (h.block k hk hn)⟩
theorem grown_below {w w' : World} {row : Option Nat} (h : Below w.heap.size w w') : w.grownBy w' row := ⟨h.os, h.tape, h.output, h.size, fun k hk _ => h.block k hk⟩
end Go.Proofs.Ytflpikickbellaa
namespace Go.Proofs.Ytflpikickbellaa
open Go.RowKit Go.Shelf
set_option maxRecDepth 100000

theorem run_app_any {e t : TypeId} {i : TypeInfo} {z : Value} {size bytes : Nat} (ht : Try.prog.underlying t = some (.slice e)) (hi : Try.prog.info? e = some i) (hz : i.zero = some z) (hsize : i.size = size) (hby : i.bytes = bytes) (hzs : z.cells.size = size) (hsz : 0 < size)
    {w : World} {base n : Nat} {v : Value} {xs : List Value} (hown : w.ownsRow base e size v n xs) (A : Option Addr) (m c : Nat) (news : List Value) (hl : news.length = m * size) (hA : A = none → m = 0) (hnews : ∀ ad, A = some ad → ∀ j u, news[j]? = some u → w.cell? (ad.add j) = some u) (h1 : ∀ u ∈ news, u.oneCell' = true)
    (h63 : n + m ≤ maxLen) (hbytes : (n + m) * bytes ≤ 140737488355328) (hbase : base ≤ w.heap.size) :
    ∃ A' c' w', (Builtin.append_ #[t, t] t #[v, .slice A m c]).run Try.prog w = .ok (.slice A' (n + m) c') w' ∧ w'.ownsRow base e size (.slice A' (n + m) c') (n + m) (xs ++ news) ∧ w.grownBy w' v.ownBlock ∧ ∀ k, (Value.slice A' (n + m) c').ownBlock = some k → v.ownBlock = some k ∨ w.heap.size ≤ k := by
  cases A with
  | some ad =>
    obtain ⟨v', w', hr, h2, h3, -, h5⟩ := run_append_own_at (P := Try.prog) w base t t e i z size bytes ht hi hz hsize hby hzs hsz v n xs hown ad m c news hl (hnews ad rfl) h1 h63 hbytes hbase
    obtain ⟨A', c', rfl, -⟩ := own_slice h2
    refine ⟨A', c', w', hr, h2, h3, fun k hk => ?_⟩
    rcases h5 with h5 | h5
    · exact Or.inl (h5 ▸ hk)
    · rw [h5] at hk; cases hk; exact Or.inr (Nat.le_refl _)
  | none =>
    obtain rfl := hA rfl
    obtain rfl : news = [] := List.eq_nil_of_length_eq_zero (by simpa using hl)
    rw [Nat.add_zero, List.append_nil]
    rcases hown.2 with ⟨rfl, h0⟩ | ⟨g, cap, cur, rfl, h4, h5, hnc, h6⟩
    · subst h0
      refine ⟨none, 0, w, ?_, hown, ⟨rfl, rfl, rfl, Nat.le_refl _, fun _ _ _ => rfl⟩, fun k hk => Or.inl hk⟩
      simp [Builtin.append_, run_underlying ht, sizeOf, typeInfo, hi, Builtin.lenOf, Builtin.firstCells]
    · refine ⟨some ⟨g, 0, none⟩, cap, w, ?_, hown, ⟨rfl, rfl, rfl, Nat.le_refl _, fun _ _ _ => rfl⟩, fun k hk => Or.inl hk⟩
      simp [Builtin.append_, run_underlying ht, sizeOf, typeInfo, hi, Builtin.lenOf, Builtin.firstCells, hnc, storeCells, loadCells]

theorem wpList_append_run {P : Program} (w : World) {ops : Array Oper} {rest : List Oper} {o : Oper} {a : Act} {Q : Exit → Act → World → Prop} (hgd : o.guard = none) (d s : Operand) (t t' : TypeId)
    (ho : o.op = .call { callee := .builtin .append, args := #[d, s], argTypes := #[t, t'] }) (v u : Value) (hd : a.eval d = v) (hs : a.eval s = u) {v' : Value} {w' : World}
    (hr : (Builtin.append_ #[t, t'] o.type #[v, u]).run P w = .ok v' w') (h : wpList P ops Q rest (a.put o.dst v') w') : wpList P ops Q (o :: rest) a w :=
  wpList_plain hgd fun K hK => by
    unfold Oper.wp
    simp [execOp, ho, resolve, invoke, builtin, hd, hs, hr, Result.andThen]
    exact hK _ _ h
end Go.Proofs.Ytflpikickbellaa
namespace Go.Proofs.Ytflpikickbellaa
open Go.RowKit Go.Shelf
set_option maxRecDepth 100000

section
variable {P : Program}
theorem step_append_run {ops : Array Oper} {o : Oper} {a : Act} {w : World} {K : Act → World → Prop} {Q : Exit → Act → World → Prop} {E : Prop}
    (hg : o.guard = none) (d x : Operand) (dT sT : TypeId) (hop : o.op = Op.call { callee := Callee.builtin Builtin.append, args := #[d, x], argTypes := #[dT, sT] })
    (v u : Value) (hd : a.eval d = v) (hx : a.eval x = u) {v' : Value} {w' : World} (hr : (Builtin.append_ #[dT, sT] o.type #[v, u]).run P w = .ok v' w') (hK : K (a.put o.dst v') w') :
    if Region.wanted o (yielded ops a.tmps) = true then Oper.wp P o a w K Q else E := by
  have hw : Region.wanted o (yielded ops a.tmps) = true := by simp [Region.wanted, hg]
  rw [if_pos hw]
  unfold Oper.wp
  simp [execOp, hop, resolve, invoke, builtin, hd, hx, hr, Result.andThen]
  exact hK
theorem step_copy_run {ops : Array Oper} {o : Oper} {a : Act} {w : World} {K : Act → World → Prop} {Q : Exit → Act → World → Prop} {E : Prop}
    (hg : o.guard = none) (d x : Operand) (dT sT : TypeId) (hop : o.op = Op.call { callee := Callee.builtin Builtin.copy, args := #[d, x], argTypes := #[dT, sT] })
    (v u : Value) (hd : a.eval d = v) (hx : a.eval x = u) {v' : Value} {w' : World} (hr : (Builtin.copy_ #[dT, sT] o.type #[v, u]).run P w = .ok v' w') (hK : K (a.put o.dst v') w') :
    if Region.wanted o (yielded ops a.tmps) = true then Oper.wp P o a w K Q else E := by
  have hw : Region.wanted o (yielded ops a.tmps) = true := by simp [Region.wanted, hg]
  rw [if_pos hw]
  unfold Oper.wp
  simp [execOp, hop, resolve, invoke, builtin, hd, hx, hr, Result.andThen]
  exact hK
theorem wpList_copy_run (w : World) {ops : Array Oper} {rest : List Oper} {o : Oper} {a : Act} {Q : Exit → Act → World → Prop} (hgd : o.guard = none) (d s : Operand) (t t' : TypeId)
    (ho : o.op = .call { callee := .builtin .copy, args := #[d, s], argTypes := #[t, t'] }) (v u : Value) (hd : a.eval d = v) (hs : a.eval s = u) {v' : Value} {w' : World}
    (hr : (Builtin.copy_ #[t, t'] o.type #[v, u]).run P w = .ok v' w') (h : wpList P ops Q rest (a.put o.dst v') w') : wpList P ops Q (o :: rest) a w :=
  wpList_plain hgd fun K hK => by
    unfold Oper.wp
    simp [execOp, ho, resolve, invoke, builtin, hd, hs, hr, Result.andThen]
    exact hK _ _ h
theorem wpList_clear_run (w : World) {ops : Array Oper} {rest : List Oper} {o : Oper} {a : Act} {Q : Exit → Act → World → Prop} (hgd : o.guard = none) (d : Operand) (t : TypeId)
    (ho : o.op = .call { callee := .builtin .clear, args := #[d], argTypes := #[t] }) (v : Value) (hd : a.eval d = v) {v' : Value} {w' : World}
    (hr : (Builtin.clear_ #[t] o.type #[v]).run P w = .ok v' w') (h : wpList P ops Q rest (a.put o.dst v') w') : wpList P ops Q (o :: rest) a w :=
  wpList_plain hgd fun K hK => by
    unfold Oper.wp
    simp [execOp, ho, resolve, invoke, builtin, hd, hr, Result.andThen]
    exact hK _ _ h
/-- copy into a row, elements of k cells. -/
theorem run_copy_rowk (w : World) (dT sT ty elem : TypeId) (g o dLen dCap : Nat) (a : Addr) (sLen sCap : Nat) (cur : Array Value) (t : TypeId) (cs : List Value) (k m : Nat)
    (hu : P.underlying dT = some (.slice elem)) (hs : (P.info? elem).map (·.size) = some k)
    (hg : w.heap[g]? = some (.cells cur t (0, 0))) (hm : Nat.min sLen dLen = m) (hn : cs.length = m * k)
    (hsrc : ∀ j v, cs[j]? = some v → w.cell? (a.add j) = some v) (hfit : o + cs.length ≤ cur.size) (h1 : ∀ v ∈ cs, v.oneCell' = true) :
    (Builtin.copy_ #[dT, sT] ty #[.slice (some ⟨g, o, none⟩) dLen dCap, .slice (some a) sLen sCap]).run P w =
      .ok (goInt m) (w.setRow g (splice cur.toList o cs).toArray) := by
  have hl := run_loadCells_list (P := P) w a cs hsrc
  have hst := run_storeCells_at P g o t cs 0 cur w hg (by simpa using hfit) h1
  cases hq : P.info? elem with
  | none => simp [hq] at hs
  | some i =>
    have hi : i.size = k := by simpa [hq] using hs
    simp [Builtin.copy_, run_underlying hu, Builtin.lenOf, Builtin.firstCells, sizeOf, typeInfo, hq, hi, hm, ← hn, hl, hst, splice]
/-- clear on one element of a row. -/
theorem run_clear_rowk (w : World) (t e ty : TypeId) (z : Value) (ht : P.underlying t = some (.slice e)) (hv : ∀ w, (zeroValue e).run P w = .ok z w) (g o c : Nat) (cur : Array Value) (te : TypeId) (zs : List Value)
    (hg : w.heap[g]? = some (.cells cur te (0, 0))) (hz : (Builtin.zeroCells z.cells 1).toList = zs) (hfit : o + zs.length ≤ cur.size) (h1 : ∀ v ∈ zs, v.oneCell' = true) :
    (Builtin.clear_ #[t] ty #[.slice (some ⟨g, o, none⟩) 1 c]).run P w = .ok (.tuple #[]) (w.setRow g (splice cur.toList o zs).toArray) := by
  have hst := run_storeCells_at P g o te zs 0 cur w hg (by simpa using hfit) h1
  simp [Builtin.clear_, run_underlying ht, hv, hz, hst, splice]
end
theorem addr_plus (b off j : Nat) : (⟨b, off, none⟩ : Addr).add j = ⟨b, off + j, none⟩ := by unfold Addr.add; split <;> simp_all
/-- A row that is known whole. -/
theorem own_whole {w : World} {B : Nat} {e : TypeId} {sz n g c : Nat} {xs : List Value} (h : w.ownsRow B e sz (.slice (some ⟨g, 0, none⟩) n c) n xs) :
    ∃ cur, w.heap[g]? = some (.cells cur e (0, 0)) ∧ B ≤ g ∧ n ≤ c ∧ c ≤ maxLen ∧ cur.size = c * sz ∧ cur.toList.take (n * sz) = xs ∧ xs.length = n * sz := by
  rcases h.2 with ⟨hv, _⟩ | ⟨g', cap, cur, hv, hb, hg, h1, h2, h3, h4⟩
  · cases hv
  · cases hv
    exact ⟨cur, hg, hb, h1, h2, h3, h4, h.1⟩
theorem own_of_whole {w : World} {B : Nat} {e : TypeId} {sz n g c : Nat} {cur : Array Value} (hg : w.heap[g]? = some (.cells cur e (0, 0))) (hb : B ≤ g) (h1 : n ≤ c) (h2 : c ≤ maxLen) (h3 : cur.size = c * sz) :
    w.ownsRow B e sz (.slice (some ⟨g, 0, none⟩) n c) n (cur.toList.take (n * sz)) :=
  ⟨by rw [List.length_take, Array.length_toList, h3]; exact Nat.min_eq_left (Nat.mul_le_mul_right _ h1), Or.inr ⟨g, c, cur, rfl, hb, hg, h1, h2, h3, rfl⟩⟩
theorem cell_whole {w : World} {g : Nat} {e : TypeId} {cur : Array Value} (hg : w.heap[g]? = some (.cells cur e (0, 0))) (j : Nat) : w.cell? ⟨g, j, none⟩ = cur[j]? := by simp [World.cell?, hg]
theorem splice_len {l : List Value} {o : Nat} {cs : List Value} (h : o + cs.length ≤ l.length) : (splice l o cs).toArray.size = l.length := by simp [splice]; omega
theorem grown_setRow (w : World) (g : Nat) (cs : Array Value) : w.grownBy (w.setRow g cs) (some g) := ⟨rfl, rfl, rfl, by simp [World.setRow], fun k _ hk => setRow_other w g k cs (fun e => hk (by rw [e]))⟩
theorem heap_setRow {w : World} {g : Nat} {cur cs : Array Value} {e : TypeId} (hg : w.heap[g]? = some (.cells cur e (0, 0))) : (w.setRow g cs).heap[g]? = some (.cells cs e (0, 0)) := setRow_heap w g cur cs e _ hg
theorem drew_setRow (w : World) (g : Nat) (cs : Array Value) : (w.setRow g cs).drew = w.drew.setRow g cs := rfl
theorem splice_take {l : List Value} {o n : Nat} {cs : List Value} (ho : o ≤ l.length) (hn : n ≤ o) : (splice l o cs).take n = l.take n := by
  unfold splice
  rw [List.take_append_of_le_length (by rw [List.length_take]; omega), List.take_take, Nat.min_eq_left hn]
end Go.Proofs.Ytflpikickbellaa
