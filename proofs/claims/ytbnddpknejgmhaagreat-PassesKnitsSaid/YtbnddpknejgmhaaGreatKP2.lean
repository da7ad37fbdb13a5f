/- append, copy and clear on a row whose elements have several cells, as steps of a walk. Layer 30: states in memory; what Check asks, plain. Layer 30: place, rising. -/
import Derived.Test.YtbnddpknejgmhaaGreatKP1
import Derived.Laws.CopyOwn
import Derived.Deep.RegionLaw
import Derived.Lib.AppendZerosOnto
import Derived.Lib.Overlaps
import Derived.Laws.Externs
import Derived.Deep.RegionHeld3
namespace Go.Proofs.YtbnddpknejgmhaaGreat
open Go.RowKit Go.Shelf
set_option maxRecDepth 100000

section
variable {P : Program}
theorem step_append_run {ops : Array Oper} {o : Oper} {a : Act} {w : World} {K : Act → World → Prop} {Q : Exit → Act → World → Prop} {E : Prop}
    (hg : o.guard = none) (d x : Operand) (dT sT : TypeId) (hop : o.op = Op.call { callee := Callee.builtin Builtin.append, args := #[d, x], argTypes := #[dT, sT] })
    (v u : Value) (hd : a.eval d = v) (hx : a.eval x = u) {v' : Value} {w' : World} (hr : (Builtin.append_ #[dT, sT] o.type #[v, u]).run P w = .ok v' w') (hK : K (a.put o.dst v') w') :
    if Region.wanted o (yielded ops a.tmps) = true then Oper.wp P o a w K Q else E := by
  have hw : Region.wanted o (yielded ops a.tmps) = true := by simp [Region.wanted, hg]
  rw [if_pos hw]
  unfold Oper.wp
  simp [execOp, hop, resolve, invoke, builtin, hd, hx, hr, Result.andThen]
  exact hK
theorem step_copy_run {ops : Array Oper} {o : Oper} {a : Act} {w : World} {K : Act → World → Prop} {Q : Exit → Act → World → Prop} {E : Prop}
    (hg : o.guard = none) (d x : Operand) (dT sT : TypeId) (hop : o.op = Op.call { callee := Callee.builtin Builtin.copy, args := #[d, x], argTypes := #[dT, sT] })
    (v u : Value) (hd : a.eval d = v) (hx : a.eval x = u) {v' : Value} {w' : World} (hr : (Builtin.copy_ #[dT, sT] o.type #[v, u]).run P w = .ok v' w') (hK : K (a.put o.dst v') w') :
    if Region.wanted o (yielded ops a.tmps) = true then Oper.wp P o a w K Q else E := by
  have hw : Region.wanted o (yielded ops a.tmps) = true := by simp [Region.wanted, hg]
  rw [if_pos hw]
  unfold Oper.wp
  simp [execOp, hop, resolve, invoke, builtin, hd, hx, hr, Result.andThen]
  exact hK
theorem wpList_copy_run (w : World) {ops : Array Oper} {rest : List Oper} {o : Oper} {a : Act} {Q : Exit → Act → World → Prop} (hgd : o.guard = none) (d s : Operand) (t t' : TypeId)
    (ho : o.op = .call { callee := .builtin .copy, args := #[d, s], argTypes := #[t, t'] }) (v u : Value) (hd : a.eval d = v) (hs : a.eval s = u) {v' : Value} {w' : World}
    (hr : (Builtin.copy_ #[t, t'] o.type #[v, u]).run P w = .ok v' w') (h : wpList P ops Q rest (a.put o.dst v') w') : wpList P ops Q (o :: rest) a w :=
  wpList_plain hgd fun K hK => by
    unfold Oper.wp
    simp [execOp, ho, resolve, invoke, builtin, hd, hs, hr, Result.andThen]
    exact hK _ _ h
theorem wpList_clear_run (w : World) {ops : Array Oper} {rest : List Oper} {o : Oper} {a : Act} {Q : Exit → Act → World → Prop} (hgd : o.guard = none) (d : Operand) (t : TypeId)
    (ho : o.op = .call { callee := .builtin .clear, args := #[d], argTypes := #[t] }) (v : Value) (hd : a.eval d = v) {v' : Value} {w' : World}
    (hr : (Builtin.clear_ #[t] o.type #[v]).run P w = .ok v' w') (h : wpList P ops Q rest (a.put o.dst v') w') : wpList P ops Q (o :: rest) a w :=
  wpList_plain hgd fun K hK => by
    unfold Oper.wp
    simp [execOp, ho, resolve, invoke, builtin, hd, hr, Result.andThen]
    exact hK _ _ h
/-- copy into a row, elements of k cells. -/
theorem run_copy_rowk (w : World) (dT sT ty elem : TypeId) (g o dLen dCap : Nat) (a : Addr) (sLen sCap : Nat) (cur : Array Value) (t : TypeId) (cs : List Value) (k m : Nat)
    (hu : P.underlying dT = some (.slice elem)) (hs : (P.info? elem).map (·.size) = some k)
    (hg : w.heap[g]? = some (.cells cur t (0, 0))) (hm : Nat.min sLen dLen = m) (hn : cs.length = m * k)
    (hsrc : ∀ j v, cs[j]? = some v → w.cell? (a.add j) = some v) (hfit : o + cs.length ≤ cur.size) (h1 : ∀ v ∈ cs, v.oneCell' = true) :
    (Builtin.copy_ #[dT, sT] ty #[.slice (some ⟨g, o, none⟩) dLen dCap, .slice (some a) sLen sCap]).run P w =
      .ok (goInt m) (w.setRow g (splice cur.toList o cs).toArray) := by
  have hl := run_loadCells_list (P := P) w a cs hsrc
  have hst := run_storeCells_at P g o t cs 0 cur w hg (by simpa using hfit) h1
  cases hq : P.info? elem with
  | none => simp [hq] at hs
  | some i =>
    have hi : i.size = k := by simpa [hq] using hs
    simp [Builtin.copy_, run_underlying hu, Builtin.lenOf, Builtin.firstCells, sizeOf, typeInfo, hq, hi, hm, ← hn, hl, hst, splice]
/-- clear on one element of a row. -/
theorem run_clear_rowk (w : World) (t e ty : TypeId) (z : Value) (ht : P.underlying t = some (.slice e)) (hv : ∀ w, (zeroValue e).run P w = .ok z w) (g o c : Nat) (cur : Array Value) (te : TypeId) (zs : List Value)
    (hg : w.heap[g]? = some (.cells cur te (0, 0))) (hz : (Builtin.zeroCells z.cells 1).toList = zs) (hfit : o + zs.length ≤ cur.size) (h1 : ∀ v ∈ zs, v.oneCell' = true) :
    (Builtin.clear_ #[t] ty #[.slice (some ⟨g, o, none⟩) 1 c]).run P w = .ok (.tuple #[]) (w.setRow g (splice cur.toList o zs).toArray) := by
  have hst := run_storeCells_at P g o te zs 0 cur w hg (by simpa using hfit) h1
  simp [Builtin.clear_, run_underlying ht, hv, hz, hst, splice]
end
theorem addr_plus (b off j : Nat) : (⟨b, off, none⟩ : Addr).add j = ⟨b, off + j, none⟩ := by unfold Addr.add; split <;> simp_all
/-- A row that is known whole. -/
theorem own_whole {w : World} {B : Nat} {e : TypeId} {sz n g c : Nat} {xs : List Value} (h : w.ownsRow B e sz (.slice (some ⟨g, 0, none⟩) n c) n xs) :
    ∃ cur, w.heap[g]? = some (.cells cur e (0, 0)) ∧ B ≤ g ∧ n ≤ c ∧ c ≤ maxLen ∧ cur.size = c * sz ∧ cur.toList.take (n * sz) = xs ∧ xs.length = n * sz := by
  rcases h.2 with ⟨hv, _⟩ | ⟨g', cap, cur, hv, hb, hg, h1, h2, h3, h4⟩
  · cases hv
  · cases hv
    exact ⟨cur, hg, hb, h1, h2, h3, h4, h.1⟩
theorem own_of_whole {w : World} {B : Nat} {e : TypeId} {sz n g c : Nat} {cur : Array Value} (hg : w.heap[g]? = some (.cells cur e (0, 0))) (hb : B ≤ g) (h1 : n ≤ c) (h2 : c ≤ maxLen) (h3 : cur.size = c * sz) :
    w.ownsRow B e sz (.slice (some ⟨g, 0, none⟩) n c) n (cur.toList.take (n * sz)) :=
  ⟨by rw [List.length_take, Array.length_toList, h3]; exact Nat.min_eq_left (Nat.mul_le_mul_right _ h1), Or.inr ⟨g, c, cur, rfl, hb, hg, h1, h2, h3, rfl⟩⟩
theorem cell_whole {w : World} {g : Nat} {e : TypeId} {cur : Array Value} (hg : w.heap[g]? = some (.cells cur e (0, 0))) (j : Nat) : w.cell? ⟨g, j, none⟩ = cur[j]? := by simp [World.cell?, hg]
theorem splice_len {l : List Value} {o : Nat} {cs : List Value} (h : o + cs.length ≤ l.length) : (splice l o cs).toArray.size = l.length := by simp [splice]; omega
theorem grown_setRow (w : World) (g : Nat) (cs : Array Value) : w.grownBy (w.setRow g cs) (some g) := ⟨rfl, rfl, rfl, by simp [World.setRow], fun k _ hk => setRow_other w g k cs (fun e => hk (by rw [e]))⟩
theorem heap_setRow {w : World} {g : Nat} {cur cs : Array Value} {e : TypeId} (hg : w.heap[g]? = some (.cells cur e (0, 0))) : (w.setRow g cs).heap[g]? = some (.cells cs e (0, 0)) := setRow_heap w g cur cs e _ hg
theorem drew_setRow (w : World) (g : Nat) (cs : Array Value) : (w.setRow g cs).drew = w.drew.setRow g cs := rfl
theorem splice_take {l : List Value} {o n : Nat} {cs : List Value} (ho : o ≤ l.length) (hn : n ≤ o) : (splice l o cs).take n = l.take n := by
  unfold splice
  rw [List.take_append_of_le_length (by rw [List.length_take]; omega), List.take_take, Nat.min_eq_left hn]
end Go.Proofs.YtbnddpknejgmhaaGreat
namespace Go.Proofs.YtbnddpknejgmhaaGreat
open Go.RowKit
set_option maxRecDepth 100000

/-- A needle with loops. -/
structure Hk where
  bed : Int
  at_ : Int
  loops : List Int
/-- A carrier. -/
structure Fd where
  car : Int
  fresh : Bool
  place : Int
/-- A loop that was made. -/
structure Mk where
  parents : List Int
  bed : Int
  at_ : Int
  car : Int
structure BedS where
  rack : Int
  hooks : List Hk
  feeds : List Fd
  made : List Mk
def Hk.wf (h : Hk) : Prop := 0 ≤ h.bed ∧ h.bed ≤ 255
def Mk.wf (m : Mk) : Prop := 0 ≤ m.bed ∧ m.bed ≤ 255
def Fd.cells (f : Fd) : List Value := [.int .i64 f.car, .bool f.fresh, .int .i64 f.place]
@[go_sem] def Fd.val (f : Fd) : Value := .agg #[.int .i64 f.car, .bool f.fresh, .int .i64 f.place]
def SlF (w : World) (B : Nat) (A : Option Addr) (l : List Fd) : Prop := SlS 3 w B A (l.map Fd.cells)
/-- The slice value '.slice A l.length c' holds needles, below block B. -/
def SlHk (w : World) (B : Nat) (A : Option Addr) (l : List Hk) : Prop :=
  l ≠ [] → ∃ b off, A = some ⟨b, off, none⟩ ∧ b < B ∧ ∀ j h, l[j]? = some h → ∃ A' C', w.cell? ⟨b, off + j * 3, none⟩ = some (.int .u8 h.bed) ∧ w.cell? ⟨b, off + j * 3 + 1, none⟩ = some (.int .i64 h.at_) ∧ w.cell? ⟨b, off + j * 3 + 2, none⟩ = some (.slice A' h.loops.length C') ∧ h.loops.length ≤ C' ∧ SlI w B A' h.loops
def SlM (w : World) (B : Nat) (A : Option Addr) (l : List Mk) : Prop :=
  l ≠ [] → ∃ b off, A = some ⟨b, off, none⟩ ∧ b < B ∧ ∀ j m, l[j]? = some m → ∃ A' C', w.cell? ⟨b, off + j * 4, none⟩ = some (.slice A' m.parents.length C') ∧ w.cell? ⟨b, off + j * 4 + 1, none⟩ = some (.int .u8 m.bed) ∧ w.cell? ⟨b, off + j * 4 + 2, none⟩ = some (.int .i64 m.at_) ∧ w.cell? ⟨b, off + j * 4 + 3, none⟩ = some (.int .i64 m.car) ∧ m.parents.length ≤ C' ∧ SlI w B A' m.parents
theorem SlF.below {w w' : World} {B : Nat} {A : Option Addr} {l : List Fd} (h : SlF w B A l) (hb : Below B w w') : SlF w' B A l := SlS.below h hb
theorem SlF.more {w : World} {B B' : Nat} {A : Option Addr} {l : List Fd} (h : SlF w B A l) (hB' : B ≤ B') : SlF w B' A l := SlS.more h hB'
theorem SlHk.below {w w' : World} {B : Nat} {A : Option Addr} {l : List Hk} (h : SlHk w B A l) (hb : Below B w w') : SlHk w' B A l := fun hn => by
  obtain ⟨b, off, e, hB, hc⟩ := h hn
  refine ⟨b, off, e, hB, fun j r hr => ?_⟩
  obtain ⟨A', C', h0, h1, h2, h3, h4⟩ := hc j r hr
  exact ⟨A', C', (bcell hb hB _).trans h0, (bcell hb hB _).trans h1, (bcell hb hB _).trans h2, h3, h4.below hb⟩
theorem SlHk.more {w : World} {B B' : Nat} {A : Option Addr} {l : List Hk} (h : SlHk w B A l) (hB' : B ≤ B') : SlHk w B' A l := fun hn => by
  obtain ⟨b, off, e, hB, hc⟩ := h hn
  refine ⟨b, off, e, by omega, fun j r hr => ?_⟩
  obtain ⟨A', C', h0, h1, h2, h3, h4⟩ := hc j r hr
  exact ⟨A', C', h0, h1, h2, h3, h4.more hB'⟩
theorem SlM.below {w w' : World} {B : Nat} {A : Option Addr} {l : List Mk} (h : SlM w B A l) (hb : Below B w w') : SlM w' B A l := fun hn => by
  obtain ⟨b, off, e, hB, hc⟩ := h hn
  refine ⟨b, off, e, hB, fun j r hr => ?_⟩
  obtain ⟨A', C', h0, h1, h2, h3, h4, h5⟩ := hc j r hr
  exact ⟨A', C', (bcell hb hB _).trans h0, (bcell hb hB _).trans h1, (bcell hb hB _).trans h2, (bcell hb hB _).trans h3, h4, h5.below hb⟩
theorem SlM.more {w : World} {B B' : Nat} {A : Option Addr} {l : List Mk} (h : SlM w B A l) (hB' : B ≤ B') : SlM w B' A l := fun hn => by
  obtain ⟨b, off, e, hB, hc⟩ := h hn
  refine ⟨b, off, e, by omega, fun j r hr => ?_⟩
  obtain ⟨A', C', h0, h1, h2, h3, h4, h5⟩ := hc j r hr
  exact ⟨A', C', h0, h1, h2, h3, h4, h5.more hB'⟩
/-- Where a state's lists lie. -/
structure BedP where
  ah : Option Addr
  ch : Nat
  af : Option Addr
  cf : Nat
  am : Option Addr
  cm : Nat
def BedS.val (s : BedS) (p : BedP) : Value := .agg #[.int .i64 s.rack, .slice p.ah s.hooks.length p.ch, .slice p.af s.feeds.length p.cf, .slice p.am s.made.length p.cm]
structure BedAt (w : World) (B : Nat) (p : BedP) (s : BedS) : Prop where
  hooks : SlHk w B p.ah s.hooks
  feeds : SlF w B p.af s.feeds
  made : SlM w B p.am s.made
theorem BedAt.below {w w' : World} {B : Nat} {p : BedP} {s : BedS} (h : BedAt w B p s) (hb : Below B w w') : BedAt w' B p s := ⟨h.hooks.below hb, h.feeds.below hb, h.made.below hb⟩
theorem BedAt.more {w : World} {B B' : Nat} {p : BedP} {s : BedS} (h : BedAt w B p s) (hB' : B ≤ B') : BedAt w B' p s := ⟨h.hooks.more hB', h.feeds.more hB', h.made.more hB'⟩
def BedS.wf (s : BedS) : Prop := (∀ h ∈ s.hooks, h.wf) ∧ ∀ m ∈ s.made, m.wf
theorem SlHk.at_ {w : World} {B : Nat} {A : Option Addr} {l : List Hk} (h : SlHk w B A l) {k : Nat} (hk : k < l.length) :
    ∃ b off r A' C', A = some ⟨b, off, none⟩ ∧ b < B ∧ l[k]? = some r ∧ w.cell? ⟨b, off + k * 3, none⟩ = some (.int .u8 r.bed) ∧ w.cell? ⟨b, off + k * 3 + 1, none⟩ = some (.int .i64 r.at_) ∧ w.cell? ⟨b, off + k * 3 + 2, none⟩ = some (.slice A' r.loops.length C') ∧ r.loops.length ≤ C' ∧ SlI w B A' r.loops := by
  obtain ⟨b, off, e, hB, hc⟩ := h (fun e => by subst e; simp at hk)
  obtain ⟨A', C', h0, h1, h2, h3, h4⟩ := hc k _ (List.getElem?_eq_getElem hk)
  exact ⟨b, off, l[k], A', C', e, hB, List.getElem?_eq_getElem hk, h0, h1, h2, h3, h4⟩
theorem SlM.at_ {w : World} {B : Nat} {A : Option Addr} {l : List Mk} (h : SlM w B A l) {k : Nat} (hk : k < l.length) :
    ∃ b off r A' C', A = some ⟨b, off, none⟩ ∧ b < B ∧ l[k]? = some r ∧ w.cell? ⟨b, off + k * 4, none⟩ = some (.slice A' r.parents.length C') ∧ w.cell? ⟨b, off + k * 4 + 1, none⟩ = some (.int .u8 r.bed) ∧ w.cell? ⟨b, off + k * 4 + 2, none⟩ = some (.int .i64 r.at_) ∧ w.cell? ⟨b, off + k * 4 + 3, none⟩ = some (.int .i64 r.car) ∧ r.parents.length ≤ C' ∧ SlI w B A' r.parents := by
  obtain ⟨b, off, e, hB, hc⟩ := h (fun e => by subst e; simp at hk)
  obtain ⟨A', C', h0, h1, h2, h3, h4, h5⟩ := hc k _ (List.getElem?_eq_getElem hk)
  exact ⟨b, off, l[k], A', C', e, hB, List.getElem?_eq_getElem hk, h0, h1, h2, h3, h4, h5⟩
theorem SlF.at_ {w : World} {B : Nat} {A : Option Addr} {l : List Fd} (h : SlF w B A l) {k : Nat} (hk : k < l.length) :
    ∃ b off f, A = some ⟨b, off, none⟩ ∧ b < B ∧ l[k]? = some f ∧ w.cell? ⟨b, off + k * 3, none⟩ = some (.int .i64 f.car) ∧ w.cell? ⟨b, off + k * 3 + 1, none⟩ = some (.bool f.fresh) ∧ w.cell? ⟨b, off + k * 3 + 2, none⟩ = some (.int .i64 f.place) := by
  obtain ⟨b, off, cs, e, hB, hz, hc⟩ := SlS.at_ h (k := k) (by simpa using hk)
  rw [List.getElem?_map] at hz
  cases hl : l[k]? with
  | none => rw [hl] at hz; cases hz
  | some i =>
    rw [hl] at hz
    simp only [Option.map_some, Option.some.injEq] at hz
    subst hz
    exact ⟨b, off, i, e, hB, rfl, hc 0 _ rfl, hc 1 _ rfl, hc 2 _ rfl⟩

/-! ### what Check asks -/
def hookOk (h : Hk) : Bool := decide (h.bed ≤ 1 ∧ needleP h.at_ ∧ 0 < h.loops.length ∧ h.loops.length ≤ 6)
def feedOk (f : Fd) : Bool := decide (carP f.car) && (if f.fresh then decide (f.place = 0) else decide (f.place % 2 = 1 ∧ -217 ≤ f.place ∧ f.place ≤ 217))
def distB (l : List Int) (n : Int) : Bool := decide (∀ x ∈ l, 0 ≤ x ∧ x < n) && decide l.Nodup
def madeOk (i : Nat) (m : Mk) : Bool := decide (m.bed ≤ 1 ∧ needleP m.at_ ∧ carP m.car ∧ m.parents.length ≤ 6) && distB m.parents i
def ltH (a b : Hk) : Bool := decide (a.bed < b.bed ∨ (a.bed = b.bed ∧ a.at_ < b.at_))
def ltF (a b : Fd) : Bool := decide (a.car < b.car)
/-- Each element lies before the next one. -/
def risB {α : Type} (lt : α → α → Bool) : List α → Bool
  | [] => true
  | [_] => true
  | a :: b :: t => lt a b && risB lt (b :: t)
def madeAll : Nat → List Mk → Bool
  | _, [] => true
  | i, m :: t => madeOk i m && madeAll (i + 1) t
def heldL (s : BedS) : List Int := s.hooks.flatMap (·.loops)
def bedOk (s : BedS) : Bool :=
  decide (-8 ≤ s.rack ∧ s.rack ≤ 8 ∧ s.made.length ≤ 4000) && s.hooks.all hookOk && s.feeds.all feedOk && madeAll 0 s.made && risB ltH s.hooks && risB ltF s.feeds && distB (heldL s) s.made.length
def bedE (s : BedS) : Int := if bedOk s then 0 else 8
def greatB (s : BedS) : Bool := (decide (300 < s.made.length ∧ s.made.length ≤ 4000)) || decide (4100 < s.made.length) || decide (300 < s.hooks.length) || decide (300 < s.feeds.length)
end Go.Proofs.YtbnddpknejgmhaaGreat
namespace Go.Proofs.YtbnddpknejgmhaaGreat
open Go.RowKit
set_option maxRecDepth 100000

/-- What a needle's and a carrier's numbers are bound by. -/
def Hk.near (h : Hk) : Prop := 0 ≤ h.bed ∧ h.bed ≤ 1 ∧ -100 ≤ h.at_ ∧ h.at_ ≤ 100
def placeI (a b : Hk) : Int := if a.bed = b.bed then a.at_ - b.at_ else a.bed - b.bed
theorem place_lt (a b : Hk) : decide (0 ≤ placeI a b) = !ltH a b := by
  unfold placeI ltH
  rw [Bool.eq_iff_iff]
  simp only [decide_eq_true_eq, Bool.not_eq_true', decide_eq_false_iff_not]
  split <;> omega
set_option maxHeartbeats 1000000 in
theorem place_any (a b : Hk) (ha : a.near) (hb : b.near) (va vb : Value) (w : World) :
    Calls Tryz.prog 54 #[.agg #[.int .u8 a.bed, .int .i64 a.at_, va], .agg #[.int .u8 b.bed, .int .i64 b.at_, vb]] w fun e w' => e = .returned (.int .i64 (placeI a b)) ∧ Below w.heap.size w w' := by
  have hbl := Lib.hid (fun o o2 => ((Below.refl w.heap.size w).alloc (Nat.le_refl _) o).alloc (by simp) o2)
  unfold Hk.near at ha hb
  have hw1 : IntKind.i64.wrap (a.at_ - b.at_) = a.at_ - b.at_ := IntWalk.i64_in _ (by omega)
  have hw2 : IntKind.i64.wrap (a.bed - b.bed) = a.bed - b.bed := IntWalk.i64_in _ (by omega)
  have hw3 : IntKind.i64.wrap a.bed = a.bed := IntWalk.i64_in _ (by omega)
  have hw4 : IntKind.i64.wrap b.bed = b.bed := IntWalk.i64_in _ (by omega)
  by_cases h : a.bed = b.bed
  · have HF : Hid (placeI a b = a.at_ - b.at_) := by unfold Hid placeI; rw [if_pos h]
    have e1 : (a.bed != b.bed) = false := by simp [h]
    have e2 : (a.bed == b.bed) = true := by simp [h]
    clear h ha hb
    go_enter Tryz.func54, Tryz.ntmps54
    go_wp2
    go_ret
    exact ⟨ret_int HF.out.symm, hbl.out _ _⟩
  · have HF : Hid (placeI a b = a.bed - b.bed) := by unfold Hid placeI; rw [if_neg h]
    have e1 : (a.bed != b.bed) = true := by simp [h]
    have e2 : (a.bed == b.bed) = false := by simp [h]
    clear h ha hb
    go_enter Tryz.func54, Tryz.ntmps54
    go_wp2
    go_ret
    exact ⟨ret_int HF.out.symm, hbl.out _ _⟩
set_option maxHeartbeats 1000000 in
theorem feedcmp_any (a b : Fd) (ha : carP a.car) (hb : carP b.car) (w : World) :
    Calls Tryz.prog 56 #[.agg #[.int .i64 a.car, .bool a.fresh, .int .i64 a.place], .agg #[.int .i64 b.car, .bool b.fresh, .int .i64 b.place]] w fun e w' => e = .returned (.int .i64 (a.car - b.car)) ∧ Below w.heap.size w w' := by
  have hbl := Lib.hid (fun o o2 => ((Below.refl w.heap.size w).alloc (Nat.le_refl _) o).alloc (by simp) o2)
  unfold carP at ha hb
  have hw1 : IntKind.i64.wrap (a.car - b.car) = a.car - b.car := IntWalk.i64_in _ (by omega)
  go_enter Tryz.func56, Tryz.ntmps56
  go_wp2
  go_ret
  exact ⟨rfl, hbl.out _ _⟩
theorem keep6 {W0 W W' : World} {b o1 o2 o3 o4 o5 o6 : Nat} {v1 v2 v3 v4 v5 v6 : Value} (h : W.cell? ⟨b, o1, none⟩ = some v1 ∧ W.cell? ⟨b, o2, none⟩ = some v2 ∧ W.cell? ⟨b, o3, none⟩ = some v3 ∧ W.cell? ⟨b, o4, none⟩ = some v4 ∧ W.cell? ⟨b, o5, none⟩ = some v5 ∧ W.cell? ⟨b, o6, none⟩ = some v6 ∧ Below W0.heap.size W0 W) (hb : Below W.heap.size W W') :
    W'.cell? ⟨b, o1, none⟩ = some v1 ∧ W'.cell? ⟨b, o2, none⟩ = some v2 ∧ W'.cell? ⟨b, o3, none⟩ = some v3 ∧ W'.cell? ⟨b, o4, none⟩ = some v4 ∧ W'.cell? ⟨b, o5, none⟩ = some v5 ∧ W'.cell? ⟨b, o6, none⟩ = some v6 ∧ Below W0.heap.size W0 W' := by
  obtain ⟨h1, h2, h3, h4, h5, h6, h7⟩ := h
  have hl := lt_of_cell h1
  exact ⟨(bcell hb hl _).trans h1, (bcell hb hl _).trans h2, (bcell hb hl _).trans h3, (bcell hb hl _).trans h4, (bcell hb hl _).trans h5, (bcell hb hl _).trans h6, h7.trans (hb.mono h7.size)⟩
/-- The first k elements rise. -/
theorem ris_snoc {α : Type} {lt : α → α → Bool} : ∀ {l : List α} {p x : α}, risB lt (l ++ [p]) = true → risB lt (l ++ [p, x]) = lt p x
  | [], p, x, _ => by simp [risB]
  | [a], p, x, h => by
    simp only [List.cons_append, List.nil_append, risB, Bool.and_true] at h ⊢
    rw [h, Bool.true_and]
  | a :: b :: t, p, x, h => by
    simp only [List.cons_append, risB, Bool.and_eq_true] at h ⊢
    have := ris_snoc (l := b :: t) (p := p) (x := x) h.2
    simp only [List.cons_append] at this
    rw [h.1, Bool.true_and, this]
theorem ris_take {α : Type} {lt : α → α → Bool} {l : List α} {k : Nat} {p x : α} (hp : l[k]? = some p) (hx : l[k + 1]? = some x) (h : risB lt (l.take (k + 1)) = true) : risB lt (l.take (k + 2)) = lt p x := by
  obtain ⟨h1, e1⟩ := List.getElem?_eq_some_iff.1 hp
  obtain ⟨h2, e2⟩ := List.getElem?_eq_some_iff.1 hx
  have t1 : l.take (k + 1) = l.take k ++ [p] := by rw [List.take_succ_eq_append_getElem h1, e1]
  have t2 : l.take (k + 2) = l.take k ++ [p, x] := by
    rw [List.take_succ_eq_append_getElem (i := k + 1) h2, e2, t1, List.append_assoc]; rfl
  rw [t1] at h
  rw [t2]
  exact ris_snoc h
theorem ris_pre {α : Type} {lt : α → α → Bool} : ∀ {l : List α} {k : Nat}, risB lt l = true → risB lt (l.take k) = true
  | [], k, _ => by simp [risB]
  | [a], 0, _ => rfl
  | [a], k + 1, _ => by simp [risB]
  | a :: b :: t, 0, _ => rfl
  | a :: b :: t, 1, _ => rfl
  | a :: b :: t, k + 2, h => by
    simp only [risB, Bool.and_eq_true, List.take_succ_cons] at h ⊢
    have := ris_pre (l := b :: t) (k := k + 1) h.2
    rw [List.take_succ_cons] at this
    exact ⟨h.1, this⟩
theorem ris_not {α : Type} {lt : α → α → Bool} {l : List α} {k : Nat} (h : risB lt (l.take k) = false) : risB lt l = false := by
  cases hr : risB lt l with
  | false => rfl
  | true => rw [ris_pre hr] at h; cases h
set_option maxHeartbeats 4000000 in
theorem risingH_any (A : Option Addr) (c : Nat) (l : List Hk) (hn : l.length ≤ 1000000) (hk : ∀ h ∈ l, h.near) (w : World) (hs : SlHk w w.heap.size A l) :
    Calls Tryz.prog 53 #[.slice A l.length c, .func (.func 54) #[] #[]] w fun e w' => e = .returned (.bool (risB ltH l)) ∧ Below w.heap.size w w' := by
  go_enter Tryz.func53, Tryz.ntmps53
  go_wp2
  go_loopw [5] (fun s5 wr => ∃ k : Nat, s5 = .int .i64 ((k + 1 : Nat) : Int) ∧ k ≤ l.length ∧ Hid (risB ltH (l.take (k + 1)) = true) ∧ Below w.heap.size w wr) (fun s5 _ => l.length - (intOf s5).toNat)
  case atStart =>
    refine ⟨0, rfl, Nat.zero_le _, ?_, Below.refl _ _⟩
    cases l with
    | nil => rfl
    | cons a t => rfl
  case round =>
    obtain ⟨k, rfl, hkl, H, hbw⟩ := hrel
    by_cases hlt : k + 1 < l.length
    · obtain ⟨b, off, p, A1, C1, rfl, hB, hp, p0, p1, p2, _, _⟩ := hs.at_ (k := k) (by omega)
      obtain ⟨b', off', x, A2, C2, e', hB', hx, x0, x1, x2, _, _⟩ := hs.at_ (k := k + 1) hlt
      cases e'
      have hpn := hk p (List.mem_of_getElem? hp)
      have hxn := hk x (List.mem_of_getElem? hx)
      have HR := Lib.hid (ris_take (lt := ltH) hp hx H.out)
      have HPl := Lib.hid (fun w => place_any p x hpn hxn (.slice A1 p.loops.length C1) (.slice A2 x.loops.length C2) w)
      have HLt := Lib.hid (place_lt p x)
      have HS0 : Hid (wr.cell? ⟨b, off + k * 3, none⟩ = some (.int .u8 p.bed) ∧ wr.cell? ⟨b, off + k * 3 + 1, none⟩ = some (.int .i64 p.at_) ∧ wr.cell? ⟨b, off + k * 3 + 2, none⟩ = some (.slice A1 p.loops.length C1) ∧ wr.cell? ⟨b, off + (k + 1) * 3, none⟩ = some (.int .u8 x.bed) ∧ wr.cell? ⟨b, off + (k + 1) * 3 + 1, none⟩ = some (.int .i64 x.at_) ∧ wr.cell? ⟨b, off + (k + 1) * 3 + 2, none⟩ = some (.slice A2 x.loops.length C2) ∧ Below wr.heap.size wr wr) :=
        ⟨(bcell hbw hB _).trans p0, (bcell hbw hB _).trans p1, (bcell hbw hB _).trans p2, (bcell hbw hB _).trans x0, (bcell hbw hB _).trans x1, (bcell hbw hB _).trans x2, Below.refl _ _⟩
      have hw1 : IntKind.i64.wrap (((k + 1 : Nat) : Int) - 1) = (k : Int) := by rw [show ((k + 1 : Nat) : Int) - 1 = (k : Int) by omega]; exact IntWalk.i64_in _ (by omega)
      have hkm : (k : Int) < (l.length : Int) := by omega
      have hk0 : (0 : Int) ≤ (k : Int) := by omega
      have hk1 : (0 : Int) ≤ (k : Int) + 1 := by omega
      have hkm1 : (k : Int) + 1 < (l.length : Int) := by omega
      have hw2 : IntKind.i64.wrap ((k : Int) + 1 - 1) = (k : Int) := by rw [show (k : Int) + 1 - 1 = (k : Int) by omega]; exact IntWalk.i64_in _ (by omega)
      have hw3 : IntKind.i64.wrap (k : Int) = (k : Int) := IntWalk.i64_in _ (by omega)
      have htn : ((k : Int) + 1).toNat = k + 1 := by omega
      have hkd : decide (((k + 1 : Nat) : Int) < (l.length : Int)) = true := decide_eq_true (by omega)
      clear hs hk hp hx p0 p1 p2 x0 x1 x2 hpn hxn H
      generalize placeI p x = z at HPl HLt
      cases hq : ltH p x with
      | true =>
        rw [hq] at HR HLt
        have hz : decide (0 ≤ z) = false := HLt.out
        have HR2 : Hid (risB ltH (l.take (k + 1 + 1)) = true) := HR.out
        clear hq HR HLt
        go_wp2
        go_region_held3 (fun WW => WW.cell? ⟨b, off + k * 3, none⟩ = some (.int .u8 p.bed) ∧ WW.cell? ⟨b, off + k * 3 + 1, none⟩ = some (.int .i64 p.at_) ∧ WW.cell? ⟨b, off + k * 3 + 2, none⟩ = some (.slice A1 p.loops.length C1) ∧ WW.cell? ⟨b, off + (k + 1) * 3, none⟩ = some (.int .u8 x.bed) ∧ WW.cell? ⟨b, off + (k + 1) * 3 + 1, none⟩ = some (.int .i64 x.at_) ∧ WW.cell? ⟨b, off + (k + 1) * 3 + 2, none⟩ = some (.slice A2 x.loops.length C2) ∧ Below wr.heap.size wr WW)
          (first | exact keep6 HS0.out (Below.drew (Below.refl _ _)) | exact keep6 (by assumption) (by assumption))
          (first | (go_at_call 54; refine (HPl.out _).mono ?_; rintro e w' ⟨rfl, hb1⟩))
        rename_i hS1
        have hB1 := hbw.trans (hS1.2.2.2.2.2.2.mono hbw.size)
        clear hS1 HS0
        go_wp2
        go_roundw
        case rel => exact ⟨k + 1, by go_num, by omega, HR2, hB1⟩
        case measure => simp [intOf]; omega
      | false =>
        rw [hq] at HR HLt
        have hz : decide (0 ≤ z) = true := HLt.out
        have HF : Hid (risB ltH l = false) := ris_not HR.out
        clear hq HR HLt
        go_wp2
        go_region_held3 (fun WW => WW.cell? ⟨b, off + k * 3, none⟩ = some (.int .u8 p.bed) ∧ WW.cell? ⟨b, off + k * 3 + 1, none⟩ = some (.int .i64 p.at_) ∧ WW.cell? ⟨b, off + k * 3 + 2, none⟩ = some (.slice A1 p.loops.length C1) ∧ WW.cell? ⟨b, off + (k + 1) * 3, none⟩ = some (.int .u8 x.bed) ∧ WW.cell? ⟨b, off + (k + 1) * 3 + 1, none⟩ = some (.int .i64 x.at_) ∧ WW.cell? ⟨b, off + (k + 1) * 3 + 2, none⟩ = some (.slice A2 x.loops.length C2) ∧ Below wr.heap.size wr WW)
          (first | exact keep6 HS0.out (Below.drew (Below.refl _ _)) | exact keep6 (by assumption) (by assumption))
          (first | (go_at_call 54; refine (HPl.out _).mono ?_; rintro e w' ⟨rfl, hb1⟩))
        rename_i hS1
        have HB1 := Lib.hid (hbw.trans (hS1.2.2.2.2.2.2.mono hbw.size))
        clear hS1 HS0
        go_wp2
        go_ret
        exact ⟨ret_bool HF.out.symm, HB1.out⟩
    · have HF : Hid (risB ltH l = true) := by have h := H.out; rwa [List.take_of_length_le (by omega)] at h
      have hkd : decide (((k + 1 : Nat) : Int) < (l.length : Int)) = false := decide_eq_false (by omega)
      clear hs hk H
      go_wp2
      go_ret
      exact ⟨ret_bool HF.out.symm, hbw⟩
end Go.Proofs.YtbnddpknejgmhaaGreat
