/- Layer 30: states in memory; what Check asks, plain. Layer 32: a row of needles that a call makes: the outer row is owned, the loops' rows are read. Layer 32: the reference's Held. Layer 32: the program's Held: plain, and its memory. -/
import Derived.Test.YtflpikickbellaaGreatKQ0
import Derived.Test.YtflpikickbellaaGreatKQ10
import Derived.Test.YtflpikickbellaaGreatKQ14
import Derived.Test.YtflpikickbellaaGreatKQ13
import Derived.Test.YtflpikickbellaaGreatKQ12
import Derived.Deep.DeepCutAuto
namespace Go.Proofs.YtflpikickbellaaGreat
open Go.RowKit
set_option maxRecDepth 100000

/-- A needle with loops. -/
structure Hk where
  bed : Int
  at_ : Int
  loops : List Int
/-- A carrier. -/
structure Fd where
  car : Int
  fresh : Bool
  place : Int
/-- A loop that was made. -/
structure Mk where
  parents : List Int
  bed : Int
  at_ : Int
  car : Int
structure BedS where
  rack : Int
  hooks : List Hk
  feeds : List Fd
  made : List Mk
def Hk.wf (h : Hk) : Prop := 0 ≤ h.bed ∧ h.bed ≤ 255
def Mk.wf (m : Mk) : Prop := 0 ≤ m.bed ∧ m.bed ≤ 255
def Fd.cells (f : Fd) : List Value := [.int .i64 f.car, .bool f.fresh, .int .i64 f.place]
@[go_sem] def Fd.val (f : Fd) : Value := .agg #[.int .i64 f.car, .bool f.fresh, .int .i64 f.place]
def SlF (w : World) (B : Nat) (A : Option Addr) (l : List Fd) : Prop := SlS 3 w B A (l.map Fd.cells)
/-- The slice value '.slice A l.length c' holds needles, below block B. -/
def SlHk (w : World) (B : Nat) (A : Option Addr) (l : List Hk) : Prop :=
  l ≠ [] → ∃ b off, A = some ⟨b, off, none⟩ ∧ b < B ∧ ∀ j h, l[j]? = some h → ∃ A' C', w.cell? ⟨b, off + j * 3, none⟩ = some (.int .u8 h.bed) ∧ w.cell? ⟨b, off + j * 3 + 1, none⟩ = some (.int .i64 h.at_) ∧ w.cell? ⟨b, off + j * 3 + 2, none⟩ = some (.slice A' h.loops.length C') ∧ h.loops.length ≤ C' ∧ SlI w B A' h.loops
def SlM (w : World) (B : Nat) (A : Option Addr) (l : List Mk) : Prop :=
  l ≠ [] → ∃ b off, A = some ⟨b, off, none⟩ ∧ b < B ∧ ∀ j m, l[j]? = some m → ∃ A' C', w.cell? ⟨b, off + j * 4, none⟩ = some (.slice A' m.parents.length C') ∧ w.cell? ⟨b, off + j * 4 + 1, none⟩ = some (.int .u8 m.bed) ∧ w.cell? ⟨b, off + j * 4 + 2, none⟩ = some (.int .i64 m.at_) ∧ w.cell? ⟨b, off + j * 4 + 3, none⟩ = some (.int .i64 m.car) ∧ m.parents.length ≤ C' ∧ SlI w B A' m.parents
theorem SlF.below {w w' : World} {B : Nat} {A : Option Addr} {l : List Fd} (h : SlF w B A l) (hb : Below B w w') : SlF w' B A l := SlS.below h hb
theorem SlF.more {w : World} {B B' : Nat} {A : Option Addr} {l : List Fd} (h : SlF w B A l) (hB' : B ≤ B') : SlF w B' A l := SlS.more h hB'
theorem SlHk.below {w w' : World} {B : Nat} {A : Option Addr} {l : List Hk} (h : SlHk w B A l) (hb : Below B w w') : SlHk w' B A l := fun hn => by
  obtain ⟨b, off, e, hB, hc⟩ := h hn
  refine ⟨b, off, e, hB, fun j r hr => ?_⟩
  obtain ⟨A', C', h0, h1, h2, h3, h4⟩ := hc j r hr
  exact ⟨A', C', (bcell hb hB _).trans h0, (bcell hb hB _).trans h1, (bcell hb hB _).trans h2, h3, h4.below hb⟩
theorem SlHk.more {w : World} {B B' : Nat} {A : Option Addr} {l : List Hk} (h : SlHk w B A l) (hB' : B ≤ B') : SlHk w B' A l := fun hn => by
  obtain ⟨b, off, e, hB, hc⟩ := h hn
  refine ⟨b, off, e, by omega, fun j r hr => ?_⟩
  obtain ⟨A', C', h0, h1, h2, h3, h4⟩ := hc j r hr
  exact ⟨A', C', h0, h1, h2, h3, h4.more hB'⟩
theorem SlM.below {w w' : World} {B : Nat} {A : Option Addr} {l : List Mk} (h : SlM w B A l) (hb : Below B w w') : SlM w' B A l := fun hn => by
  obtain ⟨b, off, e, hB, hc⟩ := h hn
  refine ⟨b, off, e, hB, fun j r hr => ?_⟩
  obtain ⟨A', C', h0, h1, h2, h3, h4, h5⟩ := hc j r hr
  exact ⟨A', C', (bcell hb hB _).trans h0, (bcell hb hB _).trans h1, (bcell hb hB _).trans h2, (bcell hb hB _).trans h3, h4, h5.below hb⟩
theorem SlM.more {w : World} {B B' : Nat} {A : Option Addr} {l : List Mk} (h : SlM w B A l) (hB' : B ≤ B') : SlM w B' A l := fun hn => by
  obtain ⟨b, off, e, hB, hc⟩ := h hn
  refine ⟨b, off, e, by omega, fun j r hr => ?_⟩
  obtain ⟨A', C', h0, h1, h2, h3, h4, h5⟩ := hc j r hr
  exact ⟨A', C', h0, h1, h2, h3, h4, h5.more hB'⟩
/-- Where a state's lists lie. -/
structure BedP where
  ah : Option Addr
  ch : Nat
  af : Option Addr
  cf : Nat
  am : Option Addr
  cm : Nat
def BedS.val (s : BedS) (p : BedP) : Value := .agg #[.int .i64 s.rack, .slice p.ah s.hooks.length p.ch, .slice p.af s.feeds.length p.cf, .slice p.am s.made.length p.cm]
structure BedAt (w : World) (B : Nat) (p : BedP) (s : BedS) : Prop where
  hooks : SlHk w B p.ah s.hooks
  feeds : SlF w B p.af s.feeds
  made : SlM w B p.am s.made
theorem BedAt.below {w w' : World} {B : Nat} {p : BedP} {s : BedS} (h : BedAt w B p s) (hb : Below B w w') : BedAt w' B p s := ⟨h.hooks.below hb, h.feeds.below hb, h.made.below hb⟩
theorem BedAt.more {w : World} {B B' : Nat} {p : BedP} {s : BedS} (h : BedAt w B p s) (hB' : B ≤ B') : BedAt w B' p s := ⟨h.hooks.more hB', h.feeds.more hB', h.made.more hB'⟩
def BedS.wf (s : BedS) : Prop := (∀ h ∈ s.hooks, h.wf) ∧ ∀ m ∈ s.made, m.wf
theorem SlHk.at_ {w : World} {B : Nat} {A : Option Addr} {l : List Hk} (h : SlHk w B A l) {k : Nat} (hk : k < l.length) :
    ∃ b off r A' C', A = some ⟨b, off, none⟩ ∧ b < B ∧ l[k]? = some r ∧ w.cell? ⟨b, off + k * 3, none⟩ = some (.int .u8 r.bed) ∧ w.cell? ⟨b, off + k * 3 + 1, none⟩ = some (.int .i64 r.at_) ∧ w.cell? ⟨b, off + k * 3 + 2, none⟩ = some (.slice A' r.loops.length C') ∧ r.loops.length ≤ C' ∧ SlI w B A' r.loops := by
  obtain ⟨b, off, e, hB, hc⟩ := h (fun e => by subst e; simp at hk)
  obtain ⟨A', C', h0, h1, h2, h3, h4⟩ := hc k _ (List.getElem?_eq_getElem hk)
  exact ⟨b, off, l[k], A', C', e, hB, List.getElem?_eq_getElem hk, h0, h1, h2, h3, h4⟩
theorem SlM.at_ {w : World} {B : Nat} {A : Option Addr} {l : List Mk} (h : SlM w B A l) {k : Nat} (hk : k < l.length) :
    ∃ b off r A' C', A = some ⟨b, off, none⟩ ∧ b < B ∧ l[k]? = some r ∧ w.cell? ⟨b, off + k * 4, none⟩ = some (.slice A' r.parents.length C') ∧ w.cell? ⟨b, off + k * 4 + 1, none⟩ = some (.int .u8 r.bed) ∧ w.cell? ⟨b, off + k * 4 + 2, none⟩ = some (.int .i64 r.at_) ∧ w.cell? ⟨b, off + k * 4 + 3, none⟩ = some (.int .i64 r.car) ∧ r.parents.length ≤ C' ∧ SlI w B A' r.parents := by
  obtain ⟨b, off, e, hB, hc⟩ := h (fun e => by subst e; simp at hk)
  obtain ⟨A', C', h0, h1, h2, h3, h4, h5⟩ := hc k _ (List.getElem?_eq_getElem hk)
  exact ⟨b, off, l[k], A', C', e, hB, List.getElem?_eq_getElem hk, h0, h1, h2, h3, h4, h5⟩
theorem SlF.at_ {w : World} {B : Nat} {A : Option Addr} {l : List Fd} (h : SlF w B A l) {k : Nat} (hk : k < l.length) :
    ∃ b off f, A = some ⟨b, off, none⟩ ∧ b < B ∧ l[k]? = some f ∧ w.cell? ⟨b, off + k * 3, none⟩ = some (.int .i64 f.car) ∧ w.cell? ⟨b, off + k * 3 + 1, none⟩ = some (.bool f.fresh) ∧ w.cell? ⟨b, off + k * 3 + 2, none⟩ = some (.int .i64 f.place) := by
  obtain ⟨b, off, cs, e, hB, hz, hc⟩ := SlS.at_ h (k := k) (by simpa using hk)
  rw [List.getElem?_map] at hz
  cases hl : l[k]? with
  | none => rw [hl] at hz; cases hz
  | some i =>
    rw [hl] at hz
    simp only [Option.map_some, Option.some.injEq] at hz
    subst hz
    exact ⟨b, off, i, e, hB, rfl, hc 0 _ rfl, hc 1 _ rfl, hc 2 _ rfl⟩

/-! ### what Check asks -/
def hookOk (h : Hk) : Bool := decide (h.bed ≤ 1 ∧ needleP h.at_ ∧ 0 < h.loops.length ∧ h.loops.length ≤ 6)
def feedOk (f : Fd) : Bool := decide (carP f.car) && (if f.fresh then decide (f.place = 0) else decide (f.place % 2 = 1 ∧ -217 ≤ f.place ∧ f.place ≤ 217))
def distB (l : List Int) (n : Int) : Bool := decide (∀ x ∈ l, 0 ≤ x ∧ x < n) && decide l.Nodup
def madeOk (i : Nat) (m : Mk) : Bool := decide (m.bed ≤ 1 ∧ needleP m.at_ ∧ carP m.car ∧ m.parents.length ≤ 6) && distB m.parents i
def ltH (a b : Hk) : Bool := decide (a.bed < b.bed ∨ (a.bed = b.bed ∧ a.at_ < b.at_))
def ltF (a b : Fd) : Bool := decide (a.car < b.car)
/-- Each element lies before the next one. -/
def risB {α : Type} (lt : α → α → Bool) : List α → Bool
  | [] => true
  | [_] => true
  | a :: b :: t => lt a b && risB lt (b :: t)
def madeAll : Nat → List Mk → Bool
  | _, [] => true
  | i, m :: t => madeOk i m && madeAll (i + 1) t
def heldL (s : BedS) : List Int := s.hooks.flatMap (·.loops)
def bedOk (s : BedS) : Bool :=
  decide (-8 ≤ s.rack ∧ s.rack ≤ 8 ∧ s.made.length ≤ 4000) && s.hooks.all hookOk && s.feeds.all feedOk && madeAll 0 s.made && risB ltH s.hooks && risB ltF s.feeds && distB (heldL s) s.made.length
def bedE (s : BedS) : Int := if bedOk s then 0 else 8
def greatB (s : BedS) : Bool := (decide (300 < s.made.length ∧ s.made.length ≤ 4000)) || decide (4100 < s.made.length) || decide (300 < s.hooks.length) || decide (300 < s.feeds.length)
end Go.Proofs.YtflpikickbellaaGreat
namespace Go.Proofs.YtflpikickbellaaGreat
open Go.RowKit Go.Shelf Go.Sort
set_option maxRecDepth 100000

theorem info_hkT : (Tryz.prog.info? 82).map (fun i => (i.zero, i.size, i.bytes)) = some (some (.agg #[.int .u8 0, .int .i64 0, .slice none 0 0]), 3, 40) := by kernel_rfl
def hkCells (p : Hk × Value) : List Value := [.int .u8 p.1.bed, .int .i64 p.1.at_, p.2]
theorem hkCells_three (hv : List (Hk × Value)) : ∀ cs ∈ hv.map hkCells, cs.length = 3 := fun cs h => by
  obtain ⟨q, _, rfl⟩ := List.mem_map.1 h
  rfl
abbrev hkB (q : Hk) (A : Option Addr) (C : Nat) : Obj := .cells #[.int .u8 q.bed, .int .i64 q.at_, .slice A q.loops.length C] 82
/-- A row of numbers, in a block that is not the outer row's. -/
def SlIv (w : World) (v : Value) (A : Option Addr) (l : List Int) : Prop := l ≠ [] → ∃ b off, A = some ⟨b, off, none⟩ ∧ b < w.heap.size ∧ v.ownBlock ≠ some b ∧ ∀ j z, l[j]? = some z → w.cell? ⟨b, off + j, none⟩ = some (.int .i64 z)
structure HksO (w : World) (B : Nat) (v : Value) (hv : List (Hk × Value)) : Prop where
  row : w.ownsRow B 82 3 v hv.length (hv.map hkCells).flatten
  is : ∀ q ∈ hv, ∃ (A : Option Addr) (C : Nat), q.2 = .slice A q.1.loops.length C ∧ q.1.loops.length ≤ C ∧ SlIv w v A q.1.loops
theorem HksO.new (w : World) (B : Nat) : HksO w B (.slice none 0 0) [] := ⟨World.ownsRow_nil _ _ _ _, fun q h => by cases h⟩
theorem SlIv.to {w w' : World} {v : Value} {A : Option Addr} {l : List Int} (h : SlIv w v A l) (hb : Below w.heap.size w w') : SlIv w' v A l := fun hn => by
  obtain ⟨b, off, e, hbl, hne, hc⟩ := h hn
  exact ⟨b, off, e, Nat.lt_of_lt_of_le hbl hb.size, hne, fun j z hz => (bcell hb hbl _).trans (hc j z hz)⟩
theorem HksO.to {w w' : World} {B : Nat} {v : Value} {hv : List (Hk × Value)} (h : HksO w B v hv) (hb : Below w.heap.size w w') : HksO w' B v hv :=
  ⟨own_below h.row hb (Nat.le_refl _), fun q hq => by
    obtain ⟨A, C, h1, h2, h3⟩ := h.is q hq
    exact ⟨A, C, h1, h2, h3.to hb⟩⟩
theorem HksO.form {w : World} {B : Nat} {v : Value} {hv : List (Hk × Value)} (h : HksO w B v hv) : ∃ a c, v = .slice a hv.length c ∧ hv.length ≤ c := own_slice h.row
theorem HksO.lt {w : World} {B b : Nat} {v : Value} {hv : List (Hk × Value)} (h : HksO w B v hv) (hb : v.ownBlock = some b) : B ≤ b ∧ b < w.heap.size := World.ownsRow.lt h.row b hb
/-- The needles read as a list. -/
theorem HksO.slHk {w : World} {B n c : Nat} {a : Option Addr} {hv : List (Hk × Value)} (h : HksO w B (.slice a n c) hv) : SlHk w w.heap.size a (hv.map Prod.fst) := fun hn => by
  obtain ⟨a', c', e, -⟩ := own_slice h.row
  cases e
  have hs := SlS.of_own (zs := hv.map hkCells) (e := 82) (hkCells_three hv) (by rw [List.length_map]) h.row
  obtain ⟨b, off, ea, hb, hat⟩ := hs (by intro e; exact hn (by simpa using e))
  refine ⟨b, off, ea, hb, fun j r hr => ?_⟩
  rw [List.getElem?_map] at hr
  cases hp : hv[j]? with
  | none => rw [hp] at hr; cases hr
  | some p =>
    rw [hp] at hr
    simp only [Option.map_some, Option.some.injEq] at hr
    subst hr
    obtain ⟨A', C', e2, hc2, hs2⟩ := h.is p (List.mem_of_getElem? hp)
    have hat' := hat j (hkCells p) (by rw [List.getElem?_map, hp]; rfl)
    refine ⟨A', C', hat' 0 _ rfl, hat' 1 _ rfl, by rw [← e2]; exact hat' 2 _ rfl, hc2, fun hne => ?_⟩
    obtain ⟨b2, off2, e, hbl, -, hc⟩ := hs2 hne
    exact ⟨b2, off2, e, hbl, hc⟩
/-- A needle is appended. -/
theorem HksO.push {w : World} {B c : Nat} {a : Option Addr} {hv : List (Hk × Value)} (h : HksO w B (.slice a hv.length c) hv) (hB : B ≤ w.heap.size) (hl : hv.length ≤ 1000) (q : Hk) {A : Option Addr} {C : Nat} (hC : q.loops.length ≤ C) (hs : SlIv w (.slice a hv.length c) A q.loops) :
    ∃ A' c' w', (Builtin.append_ #[33, 33] 33 #[.slice a hv.length c, .slice (some ⟨w.heap.size, 0, none⟩) 1 1]).run Tryz.prog (w.alloc (hkB q A C)) = .ok (.slice A' (hv.length + 1) c') w' ∧ HksO w' B (.slice A' (hv.length + 1) c') (hv ++ [(q, .slice A q.loops.length C)]) ∧ Below B w w' := by
  obtain ⟨ii, hii, hii0, hii1, hii2⟩ := info_parts info_hkT
  have hba := al_t w (hkB q A C)
  have ho : (w.alloc (hkB q A C)).ownsRow B 82 3 (.slice a hv.length c) hv.length (hv.map hkCells).flatten := own_below h.row hba (Nat.le_refl _)
  have hsz := hba.size
  have hnew : ∀ j u, (hkCells (q, .slice A q.loops.length C))[j]? = some u → (w.alloc (hkB q A C)).cell? ((⟨w.heap.size, 0, none⟩ : Addr).add j) = some u := newsT w _ _ _ rfl
  obtain ⟨A', c', w', hr, ho1, hg1, hn⟩ := run_app_any Tryz.underlying33 hii hii0 hii1 hii2 rfl (by decide) ho (some ⟨w.heap.size, 0, none⟩) 1 1 (hkCells (q, .slice A q.loops.length C)) rfl (fun e => by cases e) (fun ad e => by cases e; exact hnew) (fun u hu => by
    obtain ⟨j, hj⟩ := List.mem_iff_getElem?.1 hu
    have hj3 : j < 3 := (List.getElem?_eq_some_iff.1 hj).1
    rcases (by omega : j = 0 ∨ j = 1 ∨ j = 2) with rfl | rfl | rfl <;> (cases hj; rfl)) (by unfold maxLen; omega) (by omega) (by omega)
  have hcellk : ∀ b, b < w.heap.size → (Value.slice a hv.length c).ownBlock ≠ some b → ∀ o, w'.cell? ⟨b, o, none⟩ = w.cell? ⟨b, o, none⟩ := fun b hb hne o => (World.cell?_of_block (a := ⟨b, o, none⟩) (hg1.block b (by omega) (fun e => hne e.symm))).trans (bcell hba hb o)
  have hx : ∀ {A0 : Option Addr} {r : List Int}, SlIv w (.slice a hv.length c) A0 r → SlIv w' (.slice A' (hv.length + 1) c') A0 r := fun {A0 r} hx hne => by
    obtain ⟨b, off, e, hbl, hnb, hc⟩ := hx hne
    refine ⟨b, off, e, by have := hg1.size; omega, fun e2 => ?_, fun j z hz => (hcellk b hbl hnb _).trans (hc j z hz)⟩
    rcases hn b e2 with e3 | e3
    · exact hnb e3
    · omega
  refine ⟨A', c', w', hr, ⟨?_, fun p hp => ?_⟩, (hba.mono hB).trans (Below.of_grown hg1 (by omega) (fun k e => (World.ownsRow.lt ho k e).1))⟩
  · rw [List.length_append, List.map_append, List.flatten_append]
    simpa using ho1
  · rcases List.mem_append.1 hp with h1 | h1
    · obtain ⟨A0, C0, e1, e2, e3⟩ := h.is p h1
      exact ⟨A0, C0, e1, e2, hx e3⟩
    · obtain rfl := List.mem_singleton.1 h1
      exact ⟨A, C, rfl, hC, hx hs⟩
/-! What Held hands back, as needles. -/
def hkOf (p : Nat × List Int) : Hk := ⟨0, (p.1 : Int), p.2⟩
/-- The needles that Held hands back, to read. -/
def HdPost (w : World) (R : List (Nat × List Int) × Int) (e : Ending) (w' : World) : Prop :=
  ∃ A c, e = .returned (.tuple #[.slice A R.1.length c, .int .i64 R.2]) ∧ SlHk w' w'.heap.size A (R.1.map hkOf) ∧ Below w.heap.size w w'
end Go.Proofs.YtflpikickbellaaGreat
namespace Go.Proofs.YtflpikickbellaaGreat
open Go.RowKit Go.Shelf Go.Sort
set_option maxRecDepth 100000

/-! A needle's loops, one by one. -/
def baseB (s : Sft) (t : Nat) : Bool := decide (t < s.n) && (decide (s.to_.getD t 0 = (t : Int)) && !movedN s t)
def baseC (s : Sft) (t : Nat) : List Int := if baseB s t then [(t : Int)] else []
def heldK (s : Sft) (l : List Int) (t k : Nat) : List Int := baseC s t ++ (l.take k).filter fun x => decide (s.to_.getD x.toNat 0 = (t : Int))
theorem baseC_len (s : Sft) (t : Nat) : (baseC s t).length ≤ 1 := by unfold baseC; split <;> simp
theorem heldK_zero (s : Sft) (l : List Int) (t : Nat) : heldK s l t 0 = baseC s t := by unfold heldK; rw [List.take_zero, List.filter_nil, List.append_nil]
theorem heldK_next {s : Sft} {l : List Int} {t k : Nat} {x : Int} (h : l[k]? = some x) : heldK s l t (k + 1) = heldK s l t k ++ if s.to_.getD x.toNat 0 = (t : Int) then [x] else [] := by
  obtain ⟨hk, e⟩ := List.getElem?_eq_some_iff.1 h
  unfold heldK
  rw [List.take_succ_eq_append_getElem hk, e, List.filter_append, List.append_assoc]
  congr 2
  by_cases hx : s.to_.getD x.toNat 0 = (t : Int)
  · rw [if_pos hx, List.filter_cons_of_pos (by rw [decide_eq_true hx])]; rfl
  · rw [if_neg hx, List.filter_cons_of_neg (by rw [decide_eq_false hx]; simp)]; rfl
theorem heldK_len (s : Sft) (l : List Int) (t k : Nat) : (heldK s l t k).length ≤ k + 1 := by
  unfold heldK
  rw [List.length_append]
  have h1 := baseC_len s t
  have h2 := List.length_filter_le (fun x : Int => decide (s.to_.getD x.toNat 0 = (t : Int))) (l.take k)
  rw [List.length_take] at h2
  omega
theorem heldK_all (s : Sft) (l : List Int) (t : Nat) : heldK s l t l.length = heldC s l t := by
  unfold heldK heldC baseC baseB
  rw [List.take_length]
  congr 1
  by_cases h : t < s.n ∧ s.to_.getD t 0 = (t : Int) ∧ movedN s t = false
  · rw [if_pos h, decide_eq_true h.1, decide_eq_true h.2.1, h.2.2]; rfl
  · rw [if_neg h]
    rw [if_neg]
    intro hb
    simp only [Bool.and_eq_true, decide_eq_true_eq, Bool.not_eq_true'] at hb
    exact h hb
theorem hldE_e {s : Sft} (h : (plndE s).2 ≠ 0) : hldE s = ([], (plndE s).2) := by unfold hldE; rw [if_pos h]
theorem hldE_ok {s : Sft} (h : (plndE s).2 = 0) : hldE s = (heldN s (plndE s).1 101, 0) := by unfold hldE; rw [if_neg (by simpa using h)]
/-! The needles so far. -/
structure HdA (W1 : World) (v : Value) (N : List (Nat × List Int)) (W : World) : Prop where
  own : ∃ hv, hv.map Prod.fst = N.map hkOf ∧ HksO W W1.heap.size v hv
  lo : Below W1.heap.size W1 W
theorem HdA.new (W1 : World) : HdA W1 (.slice none 0 0) [] W1 := ⟨⟨[], rfl, HksO.new _ _⟩, Below.refl _ _⟩
theorem HdA.to {W1 W W' : World} {v : Value} {N : List (Nat × List Int)} (h : HdA W1 v N W) (hb : Below W.heap.size W W') : HdA W1 v N W' := by
  obtain ⟨hv, h1, h2⟩ := h.own
  exact ⟨⟨hv, h1, h2.to hb⟩, h.lo.trans (hb.mono h.lo.size)⟩
theorem HdA.form {W1 W : World} {v : Value} {N : List (Nat × List Int)} (h : HdA W1 v N W) : ∃ a c, v = .slice a N.length c := by
  obtain ⟨hv, h1, h2⟩ := h.own
  obtain ⟨a, c, e, -⟩ := h2.form
  have := congrArg List.length h1
  rw [List.length_map, List.length_map] at this
  exact ⟨a, c, by rw [e, this]⟩
theorem HdA.lt {W1 W : World} {v : Value} {N : List (Nat × List Int)} (h : HdA W1 v N W) {b : Nat} (hb : v.ownBlock = some b) : b < W.heap.size := by
  obtain ⟨hv, h1, h2⟩ := h.own
  exact (h2.lt hb).2
theorem HdA.end_ {W1 W : World} {a : Option Addr} {n c : Nat} {N : List (Nat × List Int)} (h : HdA W1 (.slice a n c) N W) : SlHk W W.heap.size a (N.map hkOf) := by
  obtain ⟨hv, h1, h2⟩ := h.own
  rw [← h1]; exact h2.slHk
theorem HdA.push {W1 W : World} {a : Option Addr} {c : Nat} {N : List (Nat × List Int)} (h : HdA W1 (.slice a N.length c) N W) (hl : N.length ≤ 1000) (t : Nat) (l : List Int) {A : Option Addr} {C : Nat} (hC : l.length ≤ C) (hs : SlIv W (.slice a N.length c) A l) :
    ∃ A' c' w', (Builtin.append_ #[33, 33] 33 #[.slice a N.length c, .slice (some ⟨W.heap.size, 0, none⟩) 1 1]).run Tryz.prog (W.alloc (.cells #[.int .u8 0, .int .i64 (t : Int), .slice A l.length C] 82)) = .ok (.slice A' (N.length + 1) c') w' ∧ HdA W1 (.slice A' (N.length + 1) c') (N ++ [(t, l)]) w' := by
  obtain ⟨hv, h1, h2⟩ := h.own
  have e := congrArg List.length h1
  rw [List.length_map, List.length_map] at e
  rw [← e] at h2 hs hl ⊢
  obtain ⟨A', c', w', hr, ho, hb⟩ := h2.push h.lo.size hl (hkOf (t, l)) (A := A) (C := C) hC hs
  exact ⟨A', c', w', hr, ⟨_, by rw [List.map_append, List.map_append, h1]; rfl, ho⟩, h.lo.trans hb⟩
/-- A row of numbers that grows beside. -/
structure OnA (W3 : World) (v : Value) (L : List Int) (W : World) : Prop where
  own : Owns W W3.heap.size [pxJ v L]
  lo : Below W3.heap.size W3 W
theorem OnA.new (W3 : World) : OnA W3 (.slice none 0 0) [] W3 := ⟨Owns.nil.none 3 1, Below.refl _ _⟩
theorem OnA.to {W3 W W' : World} {v : Value} {L : List Int} (h : OnA W3 v L W) (hb : Below W.heap.size W W') : OnA W3 v L W' := ⟨h.own.to hb, h.lo.trans (hb.mono h.lo.size)⟩
theorem OnA.app {W3 W : World} {a : Option Addr} {c : Nat} {L : List Int} (h : OnA W3 (.slice a L.length c) L W) (hl : L.length ≤ 100000) (x : Int) :
    ∃ A' c' w', (Builtin.append_ #[22, 22] 22 #[.slice a L.length c, .slice (some ⟨W.heap.size, 0, none⟩) 1 1]).run Tryz.prog (W.alloc (.cells #[.int .i64 x] 3)) = .ok (.slice A' (L.length + 1) c') w' ∧ OnA W3 (.slice A' (L.length + 1) c') (L ++ [x]) w' := by
  obtain ⟨A', c', w', hr, ho, hb⟩ := pxJ_app h.own h.lo.size hl x
  exact ⟨A', c', w', hr, ho, h.lo.trans hb⟩
/-- The row as a slice, in a block that is not an older one. -/
theorem OnA.slv {W3 W : World} {a : Option Addr} {c : Nat} {L : List Int} (h : OnA W3 (.slice a L.length c) L W) {v : Value} (hv : ∀ b, v.ownBlock = some b → b < W3.heap.size) : L.length ≤ c ∧ SlIv W v a L := by
  have h0 : W.ownsRow W3.heap.size 3 1 (.slice a L.length c) L.length (L.map (Value.int .i64)) := h.own.head
  obtain ⟨a', c', e, hc⟩ := own_slice h0
  cases e
  refine ⟨hc, fun hn => ?_⟩
  have h1 := h0
  rcases h0.2 with ⟨-, e⟩ | ⟨g, cap, cur, hv2, hg, hh, -⟩
  · exact absurd (List.length_eq_zero_iff.1 e) hn
  · cases hv2
    refine ⟨g, 0, rfl, (Array.getElem?_eq_some_iff.1 hh).1, fun e => by have := hv g e; omega, fun j z hz => ?_⟩
    have hj := (List.getElem?_eq_some_iff.1 hz).1
    rw [Nat.zero_add, World.ownsRow.cellAt h1 j (by omega), List.getElem?_map, hz]
    rfl
theorem HdPost.none {w w' : World} {R : List (Nat × List Int) × Int} {x : Int} (h : R = ([], x)) (hb : Below w.heap.size w w') : HdPost w R (.returned (.tuple #[.slice none 0 0, .int .i64 x])) w' := by
  subst h
  exact ⟨Option.none, 0, rfl, fun h => absurd rfl h, hb⟩
theorem HdPost.some_ {w w' : World} {R : List (Nat × List Int) × Int} {N : List (Nat × List Int)} {n : Nat} {a : Option Addr} {c : Nat} (h : R = (N, 0)) (hn : n = N.length) (hs : SlHk w' w'.heap.size a (N.map hkOf)) (hb : Below w.heap.size w w') : HdPost w R (.returned (.tuple #[.slice a n c, .int .i64 0])) w' := by
  subst h hn
  exact ⟨a, c, rfl, hs, hb⟩
end Go.Proofs.YtflpikickbellaaGreat
namespace Go.Proofs.YtflpikickbellaaGreat
open Go.RowKit Go.Shelf Go.Sort
set_option maxRecDepth 100000

/-! Plain: what the map holds. -/
def conA (s : Sft) (i : Nat) (t : Int) : List Int := if 0 ≤ t ∧ t < (i : Int) ∧ movedN s t.toNat = false then [t] else []
def conB (s : Sft) (l : List Int) (k : Nat) (t : Int) : List Int := conA s s.n t ++ (l.take k).filter fun x => decide (s.to_.getD x.toNat 0 = t)
theorem unmoved {s : Sft} {i : Nat} (h : movedN s i = false) : s.to_.getD i 0 = (i : Int) := by
  unfold movedN at h
  rw [Bool.or_eq_false_iff] at h
  have h1 := h.1
  rw [decide_eq_false_iff_not] at h1
  have : offN s i = 0 := by
    by_cases e : offN s i = 0
    · exact e
    · exact absurd e h1
  unfold offN at this
  omega
theorem conA_zero (s : Sft) : conA s 0 = fun _ => [] := by
  funext t
  unfold conA
  rw [if_neg (by omega)]
theorem conA_skip {s : Sft} {i : Nat} (h : movedN s i = true) : conA s (i + 1) = conA s i := by
  funext t
  unfold conA
  by_cases ht : t = (i : Int)
  · subst ht
    rw [if_neg, if_neg]
    · omega
    · rintro ⟨-, -, h3⟩
      rw [show ((i : Int)).toNat = i by omega, h] at h3
      cases h3
  · by_cases hc : 0 ≤ t ∧ t < (i : Int) ∧ movedN s t.toNat = false
    · rw [if_pos hc, if_pos ⟨hc.1, by omega, hc.2.2⟩]
    · rw [if_neg hc, if_neg (fun h => hc ⟨h.1, by omega, h.2.2⟩)]
theorem conA_step {s : Sft} {i : Nat} (h : movedN s i = false) : conA s (i + 1) = upd (conA s i) (i : Int) (conA s i (i : Int) ++ [(i : Int)]) := by
  funext t
  by_cases ht : t = (i : Int)
  · subst ht
    rw [upd_same]
    unfold conA
    rw [if_pos ⟨by omega, by omega, by rw [show ((i : Int)).toNat = i by omega]; exact h⟩, if_neg (by omega)]
    rfl
  · rw [upd_other _ _ ht]
    unfold conA
    by_cases hc : 0 ≤ t ∧ t < (i : Int) ∧ movedN s t.toNat = false
    · rw [if_pos hc, if_pos ⟨hc.1, by omega, hc.2.2⟩]
    · rw [if_neg hc, if_neg (fun h => hc ⟨h.1, by omega, h.2.2⟩)]
theorem conA_len (s : Sft) (i : Nat) (t : Int) : (conA s i t).length ≤ 1 := by unfold conA; split <;> simp
theorem conB_zero (s : Sft) (l : List Int) : conB s l 0 = conA s s.n := by
  funext t
  unfold conB
  rw [List.take_zero, List.filter_nil, List.append_nil]
theorem conB_step {s : Sft} {l : List Int} {k i : Nat} (h : l[k]? = some (i : Int)) : conB s l (k + 1) = upd (conB s l k) (s.to_.getD i 0) (conB s l k (s.to_.getD i 0) ++ [(i : Int)]) := by
  obtain ⟨hk, e⟩ := List.getElem?_eq_some_iff.1 h
  have e2 : ∀ t, conB s l (k + 1) t = conB s l k t ++ if s.to_.getD i 0 = t then [(i : Int)] else [] := fun t => by
    unfold conB
    rw [List.take_succ_eq_append_getElem hk, e, List.filter_append, List.append_assoc]
    congr 2
    by_cases hx : s.to_.getD i 0 = t
    · rw [if_pos hx, List.filter_cons_of_pos (by rw [show ((i : Int)).toNat = i by omega, decide_eq_true hx])]; rfl
    · rw [if_neg hx, List.filter_cons_of_neg (by rw [show ((i : Int)).toNat = i by omega, decide_eq_false hx]; simp)]; rfl
  funext t
  rw [e2]
  by_cases ht : t = s.to_.getD i 0
  · subst ht; rw [if_pos rfl, upd_same]
  · rw [if_neg (fun e => ht e.symm), upd_other _ _ ht, List.append_nil]
theorem conB_len (s : Sft) (l : List Int) (k : Nat) (t : Int) : (conB s l k t).length ≤ k + 1 := by
  unfold conB
  rw [List.length_append]
  have h1 := conA_len s s.n t
  have h2 := List.length_filter_le (fun x : Int => decide (s.to_.getD x.toNat 0 = t)) (l.take k)
  rw [List.length_take] at h2
  omega
theorem conB_held (s : Sft) (l : List Int) (t : Nat) : conB s l l.length (t : Int) = heldC s l t := by
  unfold conB heldC conA
  rw [List.take_length, show ((t : Int)).toNat = t by omega]
  congr 1
  by_cases hc : t < s.n ∧ s.to_.getD t 0 = (t : Int) ∧ movedN s t = false
  · rw [if_pos hc, if_pos ⟨by omega, by omega, hc.2.2⟩]
  · rw [if_neg hc, if_neg (fun h => hc ⟨by omega, unmoved h.2.2, h.2.2⟩)]
theorem conB_range {s : Sft} (hs : SftOk s) {l : List Int} (hl : okL s l) {k : Nat} {t : Int} (h : conB s l k t ≠ []) : 0 ≤ t ∧ t ≤ 100 := by
  obtain ⟨x, hx⟩ := List.exists_mem_of_ne_nil _ h
  unfold conB at hx
  rcases List.mem_append.1 hx with h1 | h1
  · unfold conA at h1
    split at h1
    · rename_i hc
      have := hs.len
      omega
    · cases h1
  · obtain ⟨h2, h3⟩ := List.mem_filter.1 h1
    obtain ⟨i, rfl, hi⟩ := hl x (List.mem_of_mem_take h2)
    rw [decide_eq_true_eq, show ((i : Int)).toNat = i by omega] at h3
    have := hs.to_ i hi
    omega
def domB (C : Int → List Int) (t : Int) : Bool := !(C t).isEmpty
theorem domB_iff {C : Int → List Int} {t : Int} : domB C t = true ↔ C t ≠ [] := by
  unfold domB
  cases C t <;> simp
theorem domB_upd {G : Int → Option Value} {C : Int → List Int} (h : ∀ t, (G t).isSome = domB C t) (t : Int) (v : Value) (x : Int) : ∀ u, (upd G t (some v) u).isSome = domB (upd C t (C t ++ [x])) u := fun u => by
  unfold domB
  by_cases e : u = t
  · subst e; rw [upd_same, upd_same]; cases C u <;> rfl
  · rw [upd_other _ _ e, upd_other _ _ e]; exact h u
theorem heldN_fst (s : Sft) (l : List Int) (k : Nat) : (heldN s l k).map (fun p => (p.1 : Int)) = ((List.range k).filter fun t => decide (heldC s l t ≠ [])).map fun t : Nat => (t : Int) := by
  unfold heldN
  rw [List.map_map]
  rfl
theorem heldN_mem {s : Sft} {l : List Int} {k : Nat} {p : Nat × List Int} (h : p ∈ heldN s l k) : p.1 < k ∧ p.2 = heldC s l p.1 := by
  unfold heldN at h
  obtain ⟨t, ht, rfl⟩ := List.mem_map.1 h
  exact ⟨List.mem_range.1 (List.mem_filter.1 ht).1, rfl⟩
/-- The keys, sorted. -/
theorem keys_held {s : Sft} (hs : SftOk s) {l : List Int} (hl : okL s l) {G : Int → Option Value} {xs : List Int} (hx : KyOf G xs) (hd : ∀ t, (G t).isSome = domB (conB s l l.length) t) : sortZ xs = (heldN s l 101).map fun p => (p.1 : Int) := by
  rw [heldN_fst]
  refine sort_range hx.1 fun x => ?_
  rw [hx.2, hd, domB_iff]
  constructor
  · intro h
    have := conB_range hs hl h
    refine ⟨x.toNat, by omega, by omega, ?_⟩
    rw [decide_eq_true_eq, ← conB_held, show ((x.toNat : Nat) : Int) = x by omega]
    exact h
  · rintro ⟨k, -, rfl, h⟩
    rw [decide_eq_true_eq, ← conB_held] at h
    exact h
/-! The map's memory. -/
structure HmA (W1 : World) (mb n : Nat) (G : Int → Option Value) (C : Int → List Int) (W : World) : Prop where
  mp : MpR W W1.heap.size mb n G C
  lo : Below W1.heap.size W1 W
  dom : ∀ t, (G t).isSome = domB C t
theorem HmA.to {W1 W W' : World} {mb n : Nat} {G : Int → Option Value} {C : Int → List Int} (h : HmA W1 mb n G C W) (hb : Below W.heap.size W W') : HmA W1 mb n G C W' := ⟨h.mp.to hb, h.lo.trans (hb.mono h.lo.size), h.dom⟩
theorem HmA.new (W1 : World) : HmA W1 W1.heap.size 0 (fun _ => none) (fun _ => []) (W1.alloc (.map #[] 0)) := ⟨MpR.new W1 (Nat.le_refl _), al_t _ _, fun _ => rfl⟩
/-- m[t] = append(m[t], x). -/
theorem HmA.step {W1 W : World} {mb n : Nat} {G : Int → Option Value} {C : Int → List Int} (h : HmA W1 mb n G C W) {t : Int} (ht : wfK t) (hn : n ≤ 1000) (hl : (C t).length ≤ 1000) (x : Int) (g : Nat) (hg : W.cell? ⟨g, 0, none⟩ = some (.int .i64 x)) {a : Option Addr} {k : Nat} (hv : vRow G t = .slice a (C t).length k) :
    ∃ v' w2, (Builtin.append_ #[22, 22] 22 #[.slice a (C t).length k, .slice (some ⟨g, 0, none⟩) 1 1]).run Tryz.prog W = .ok v' w2 ∧ Below W1.heap.size W1 w2 ∧
      ∀ W3, Below w2.heap.size w2 W3 → ∃ w4, (Instr.mapUpdate 79 (.map (some mb)) (.int .i64 t) v').run Tryz.prog W3 = .ok () w4 ∧ HmA W1 mb (n + 1) (upd G t (some v')) (upd C t (C t ++ [x])) w4 := by
  obtain ⟨A', c', w2, hr, hT, hgr, hnb⟩ := h.mp.app t x g hg (by omega)
  rw [hv] at hr
  have hlo2 : Below W1.heap.size W1 w2 := h.lo.grown hgr h.lo.size (fun j e => (h.mp.lt t j e).1)
  refine ⟨_, w2, hr, hlo2, fun W3 hb3 => ?_⟩
  obtain ⟨w4, h4, hm4, hg4⟩ := (hT.to hb3).put (by unfold maxLen; omega) ht
  exact ⟨w4, h4, hm4, (hlo2.trans (hb3.mono hlo2.size)).grown hg4 (Nat.le_trans hlo2.size hb3.size) (fun j e => by cases e; exact h.mp.lo), domB_upd h.dom t _ x⟩
/-- A row as a slice that is not in a newer block. -/
theorem HmA.slv {W1 W : World} {mb n : Nat} {G : Int → Option Value} {C : Int → List Int} (h : HmA W1 mb n G C W) (t : Int) {v : Value} (hv : ∀ b, v.ownBlock = some b → W.heap.size ≤ b) {W' : World} (hb : Below W.heap.size W W') :
    ∃ a k, vRow G t = .slice a (C t).length k ∧ (C t).length ≤ k ∧ SlIv W' v a (C t) := by
  have h1 := h.mp.row t
  obtain ⟨a, k, e, hk⟩ := own_slice h1
  refine ⟨a, k, e, hk, fun hn => ?_⟩
  rw [e] at h1
  rcases h1.2 with ⟨-, h0⟩ | ⟨g, cap, cur, hv2, hg, hh, -⟩
  · exact absurd (List.length_eq_zero_iff.1 h0) hn
  · cases hv2
    have hlt := (Array.getElem?_eq_some_iff.1 hh).1
    refine ⟨g, 0, rfl, Nat.lt_of_lt_of_le hlt hb.size, fun e2 => by have := hv g e2; omega, fun j z hz => ?_⟩
    have hj := (List.getElem?_eq_some_iff.1 hz).1
    rw [bcell hb hlt, Nat.zero_add, World.ownsRow.cellAt h1 j (by omega)]
    unfold intV
    rw [List.getElem?_map, hz]; rfl
end Go.Proofs.YtflpikickbellaaGreat
