/- Layer 30. -/
import Derived.Test.YtflpikickbellaaGreatZ2
namespace Go.Proofs.YtflpikickbellaaGreat
open Go.RowKit
set_option maxRecDepth 100000
structure Hk where
 bed : Int
 at_ : Int
 loops : List Int
structure Fd where
 car : Int
 fresh : Bool
 place : Int
structure Mk where
 parents : List Int
 bed : Int
 at_ : Int
 car : Int
structure BedS where
 rack : Int
 hooks : List Hk
 feeds : List Fd
 made : List Mk
def Hk.wf (h : Hk) : Prop := 0 ≤ h.bed ∧ h.bed ≤ 255
def Mk.wf (m : Mk) : Prop := 0 ≤ m.bed ∧ m.bed ≤ 255
def Fd.cells (f : Fd) : List Value := [.int .i64 f.car, .bool f.fresh, .int .i64 f.place]
@[go_sem] def Fd.val (f : Fd) : Value := .agg #[.int .i64 f.car, .bool f.fresh, .int .i64 f.place]
def SlF (w : World) (B : Nat) (A : Option Addr) (l : List Fd) : Prop := SlS 3 w B A (l.map Fd.cells)
def SlHk (w : World) (B : Nat) (A : Option Addr) (l : List Hk) : Prop :=
 l ≠ [] → ∃ b off, A = some ⟨b, off, none⟩ ∧ b < B ∧ ∀ j h, l[j]? = some h → ∃ A' C', w.cell? ⟨b, off + j * 3, none⟩ = some (.int .u8 h.bed) ∧ w.cell? ⟨b, off + j * 3 + 1, none⟩ = some (.int .i64 h.at_) ∧ w.cell? ⟨b, off + j * 3 + 2, none⟩ = some (.slice A' h.loops.length C') ∧ h.loops.length ≤ C' ∧ SlI w B A' h.loops
def SlM (w : World) (B : Nat) (A : Option Addr) (l : List Mk) : Prop :=
 l ≠ [] → ∃ b off, A = some ⟨b, off, none⟩ ∧ b < B ∧ ∀ j m, l[j]? = some m → ∃ A' C', w.cell? ⟨b, off + j * 4, none⟩ = some (.slice A' m.parents.length C') ∧ w.cell? ⟨b, off + j * 4 + 1, none⟩ = some (.int .u8 m.bed) ∧ w.cell? ⟨b, off + j * 4 + 2, none⟩ = some (.int .i64 m.at_) ∧ w.cell? ⟨b, off + j * 4 + 3, none⟩ = some (.int .i64 m.car) ∧ m.parents.length ≤ C' ∧ SlI w B A' m.parents
theorem SlF.below {w w' : World} {B : Nat} {A : Option Addr} {l : List Fd} (h : SlF w B A l) (hb : Below B w w') : SlF w' B A l := SlS.below h hb
theorem SlF.more {w : World} {B B' : Nat} {A : Option Addr} {l : List Fd} (h : SlF w B A l) (hB' : B ≤ B') : SlF w B' A l := SlS.more h hB'
theorem SlHk.below {w w' : World} {B : Nat} {A : Option Addr} {l : List Hk} (h : SlHk w B A l) (hb : Below B w w') : SlHk w' B A l := fun hn => by
 obtain ⟨b, off, e, hB, hc⟩ := h hn
 refine ⟨b, off, e, hB, fun j r hr => ?_⟩
 obtain ⟨A', C', h0, h1, h2, h3, h4⟩ := hc j r hr
 exact ⟨A', C', (bcell hb hB _).trans h0, (bcell hb hB _).trans h1, (bcell hb hB _).trans h2, h3, h4.below hb⟩
theorem SlHk.more {w : World} {B B' : Nat} {A : Option Addr} {l : List Hk} (h : SlHk w B A l) (hB' : B ≤ B') : SlHk w B' A l := fun hn => by
 obtain ⟨b, off, e, hB, hc⟩ := h hn
 refine ⟨b, off, e, by omega, fun j r hr => ?_⟩
 obtain ⟨A', C', h0, h1, h2, h3, h4⟩ := hc j r hr
 exact ⟨A', C', h0, h1, h2, h3, h4.more hB'⟩
theorem SlM.below {w w' : World} {B : Nat} {A : Option Addr} {l : List Mk} (h : SlM w B A l) (hb : Below B w w') : SlM w' B A l := fun hn => by
 obtain ⟨b, off, e, hB, hc⟩ := h hn
 refine ⟨b, off, e, hB, fun j r hr => ?_⟩
 obtain ⟨A', C', h0, h1, h2, h3, h4, h5⟩ := hc j r hr
 exact ⟨A', C', (bcell hb hB _).trans h0, (bcell hb hB _).trans h1, (bcell hb hB _).trans h2, (bcell hb hB _).trans h3, h4, h5.below hb⟩
theorem SlM.more {w : World} {B B' : Nat} {A : Option Addr} {l : List Mk} (h : SlM w B A l) (hB' : B ≤ B') : SlM w B' A l := fun hn => by
 obtain ⟨b, off, e, hB, hc⟩ := h hn
 refine ⟨b, off, e, by omega, fun j r hr => ?_⟩
 obtain ⟨A', C', h0, h1, h2, h3, h4, h5⟩ := hc j r hr
 exact ⟨A', C', h0, h1, h2, h3, h4, h5.more hB'⟩
structure BedP where
 ah : Option Addr
 ch : Nat
 af : Option Addr
 cf : Nat
 am : Option Addr
 cm : Nat
def BedS.val (s : BedS) (p : BedP) : Value := .agg #[.int .i64 s.rack, .slice p.ah s.hooks.length p.ch, .slice p.af s.feeds.length p.cf, .slice p.am s.made.length p.cm]
structure BedAt (w : World) (B : Nat) (p : BedP) (s : BedS) : Prop where
 hooks : SlHk w B p.ah s.hooks
 feeds : SlF w B p.af s.feeds
 made : SlM w B p.am s.made
theorem BedAt.below {w w' : World} {B : Nat} {p : BedP} {s : BedS} (h : BedAt w B p s) (hb : Below B w w') : BedAt w' B p s := ⟨h.hooks.below hb, h.feeds.below hb, h.made.below hb⟩
theorem BedAt.more {w : World} {B B' : Nat} {p : BedP} {s : BedS} (h : BedAt w B p s) (hB' : B ≤ B') : BedAt w B' p s := ⟨h.hooks.more hB', h.feeds.more hB', h.made.more hB'⟩
def BedS.wf (s : BedS) : Prop := (∀ h ∈ s.hooks, h.wf) ∧ ∀ m ∈ s.made, m.wf
theorem SlHk.at_ {w : World} {B : Nat} {A : Option Addr} {l : List Hk} (h : SlHk w B A l) {k : Nat} (hk : k < l.length) :
 ∃ b off r A' C', A = some ⟨b, off, none⟩ ∧ b < B ∧ l[k]? = some r ∧ w.cell? ⟨b, off + k * 3, none⟩ = some (.int .u8 r.bed) ∧ w.cell? ⟨b, off + k * 3 + 1, none⟩ = some (.int .i64 r.at_) ∧ w.cell? ⟨b, off + k * 3 + 2, none⟩ = some (.slice A' r.loops.length C') ∧ r.loops.length ≤ C' ∧ SlI w B A' r.loops := by
 obtain ⟨b, off, e, hB, hc⟩ := h (fun e => by subst e; simp at hk)
 obtain ⟨A', C', h0, h1, h2, h3, h4⟩ := hc k _ (List.getElem?_eq_getElem hk)
 exact ⟨b, off, l[k], A', C', e, hB, List.getElem?_eq_getElem hk, h0, h1, h2, h3, h4⟩
theorem SlM.at_ {w : World} {B : Nat} {A : Option Addr} {l : List Mk} (h : SlM w B A l) {k : Nat} (hk : k < l.length) :
 ∃ b off r A' C', A = some ⟨b, off, none⟩ ∧ b < B ∧ l[k]? = some r ∧ w.cell? ⟨b, off + k * 4, none⟩ = some (.slice A' r.parents.length C') ∧ w.cell? ⟨b, off + k * 4 + 1, none⟩ = some (.int .u8 r.bed) ∧ w.cell? ⟨b, off + k * 4 + 2, none⟩ = some (.int .i64 r.at_) ∧ w.cell? ⟨b, off + k * 4 + 3, none⟩ = some (.int .i64 r.car) ∧ r.parents.length ≤ C' ∧ SlI w B A' r.parents := by
 obtain ⟨b, off, e, hB, hc⟩ := h (fun e => by subst e; simp at hk)
 obtain ⟨A', C', h0, h1, h2, h3, h4, h5⟩ := hc k _ (List.getElem?_eq_getElem hk)
 exact ⟨b, off, l[k], A', C', e, hB, List.getElem?_eq_getElem hk, h0, h1, h2, h3, h4, h5⟩
theorem SlF.at_ {w : World} {B : Nat} {A : Option Addr} {l : List Fd} (h : SlF w B A l) {k : Nat} (hk : k < l.length) :
 ∃ b off f, A = some ⟨b, off, none⟩ ∧ b < B ∧ l[k]? = some f ∧ w.cell? ⟨b, off + k * 3, none⟩ = some (.int .i64 f.car) ∧ w.cell? ⟨b, off + k * 3 + 1, none⟩ = some (.bool f.fresh) ∧ w.cell? ⟨b, off + k * 3 + 2, none⟩ = some (.int .i64 f.place) := by
 obtain ⟨b, off, cs, e, hB, hz, hc⟩ := SlS.at_ h (k := k) (by simpa using hk)
 rw [List.getElem?_map] at hz
 cases hl : l[k]? with
 | none => rw [hl] at hz; cases hz
 | some i =>
   rw [hl] at hz
   simp only [Option.map_some, Option.some.injEq] at hz
   subst hz
   exact ⟨b, off, i, e, hB, rfl, hc 0 _ rfl, hc 1 _ rfl, hc 2 _ rfl⟩
def hookOk (h : Hk) : Bool := decide (h.bed ≤ 1 ∧ needleP h.at_ ∧ 0 < h.loops.length ∧ h.loops.length ≤ 6)
def feedOk (f : Fd) : Bool := decide (carP f.car) && (if f.fresh then decide (f.place = 0) else decide (f.place % 2 = 1 ∧ -217 ≤ f.place ∧ f.place ≤ 217))
def distB (l : List Int) (n : Int) : Bool := decide (∀ x ∈ l, 0 ≤ x ∧ x < n) && decide l.Nodup
def madeOk (i : Nat) (m : Mk) : Bool := decide (m.bed ≤ 1 ∧ needleP m.at_ ∧ carP m.car ∧ m.parents.length ≤ 6) && distB m.parents i
def ltH (a b : Hk) : Bool := decide (a.bed < b.bed ∨ (a.bed = b.bed ∧ a.at_ < b.at_))
def ltF (a b : Fd) : Bool := decide (a.car < b.car)
def risB {α : Type} (lt : α → α → Bool) : List α → Bool
 | [] => true
 | [_] => true
 | a :: b :: t => lt a b && risB lt (b :: t)
def madeAll : Nat → List Mk → Bool
 | _, [] => true
 | i, m :: t => madeOk i m && madeAll (i + 1) t
def heldL (s : BedS) : List Int := s.hooks.flatMap (·.loops)
def bedOk (s : BedS) : Bool :=
 decide (-8 ≤ s.rack ∧ s.rack ≤ 8 ∧ s.made.length ≤ 4000) && s.hooks.all hookOk && s.feeds.all feedOk && madeAll 0 s.made && risB ltH s.hooks && risB ltF s.feeds && distB (heldL s) s.made.length
def bedE (s : BedS) : Int := if bedOk s then 0 else 8
end Go.Proofs.YtflpikickbellaaGreat
